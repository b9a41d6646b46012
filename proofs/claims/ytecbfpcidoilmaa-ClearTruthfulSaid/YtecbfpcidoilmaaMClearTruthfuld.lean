/- Texts of this claim, one behind the other. -/
import Derived.Test.YtecbfpcidoilmaaMClearTruthfulb
import Derived.Test.YtecbfpcidoilmaaMClearTruthfulc

/- Written by a program of this session over the kit's printer: what the functions named below compute, and that the machine's calls compute it. Not trusted: Lean checks it. -/
namespace Go.Proofs.Ytecbfpcidoilmaa.H
open Go.RowKit Go.Proofs.YtecbfpcidoilmaaW.PrintWords Go.Proofs.YtecbfpcidoilmaaW.PrintLast Go.Proofs.YtecbfpcidoilmaaW.PrintMore
attribute [local go_sem] max2_int min2_int max_two min_two max_three min_three max_four min_four   -- for this text's walks alone
set_option linter.unusedVariables false
set_option linter.unusedSimpArgs false

/-! ### clear_Prices: function 14 -/
def clear_Prices.l0 : Nat → List (S45) → Int → List Int → List Int → Int → Int → Option (List Int × Int)
 | 0, _, _, _, _, _, _ => none
 | k + 1, x1, x7, x9, x25, x26, x27 => if x27 < x26 then (if 0 ≤ x27 then (if x27 < (x25.length : Int) then (if 0 ≤ (rd x25 x27) then (if (rd x25 x27) < (x1.length : Int) then ((clear_others.f x1 ((rd_T45 x1 (rd x25 x27)).f0)).bind fun t158 => (if (rd x25 x27) < (x9.length : Int) then (clear_Prices.l0 k x1 x7 (x9.set ((rd x25 x27) : Int).toNat (wrap64 ((wrap64 (t158 - x7)) + ((rd_T45 x1 (rd x25 x27)).f1)))) x25 x26 (wrap64 (x27 + 1))) else (none))) else (none)) else (none)) else (none)) else (none)) else (some (x9, 0))
def clear_Prices.f (k : Nat) (a0 : Int) (l1 : List (S45)) : Option (List Int × Int) := (clear_Best.f a0 l1).bind fun bt148 => (if bt148.2.2 = 0 then (if 0 ≤ (l1.length : Int) then (if ((l1.length : Int) : Int).toNat ≤ 35184372088832 then (clear_Prices.l0 k l1 bt148.2.1 (List.replicate ((l1.length : Int) : Int).toNat 0) bt148.1 (bt148.1.length : Int) 0) else (none)) else (none)) else (some (([] : List Int), bt148.2.2)))
theorem clear_Prices.mono_l : ∀ k, (∀ y0 y1 y2 y3 y4 y5, LeO (clear_Prices.l0 k y0 y1 y2 y3 y4 y5) (clear_Prices.l0 (k + 1) y0 y1 y2 y3 y4 y5))
 | 0 => fun _ _ _ _ _ _ r h => by simp [clear_Prices.l0] at h
 | k + 1 => by
  have ih0 := clear_Prices.mono_l k
  ·intro y0 y1 y2 y3 y4 y5
   unfold clear_Prices.l0
   repeat' first
   | (with_reducible exact ih0 _ _ _ _ _ _)
   | (with_reducible exact LeO.refl _)
   | (with_reducible exact LeO.none _)
   | (with_reducible refine LeO.ite ?_ ?_)
   | (with_reducible refine LeO.bind ?_ (fun _ => ?_))
   | exact ih0 _ _ _ _ _ _
   | exact LeO.none _
   | refine LeO.ite ?_ ?_
   | refine LeO.bind ?_ (fun _ => ?_)
theorem clear_Prices.mono : ∀ a0 a1 k, LeO (clear_Prices.f k a0 a1) (clear_Prices.f (k + 1) a0 a1) := by
 intro a0 a1 k
 have ih0 := clear_Prices.mono_l k
 unfold clear_Prices.f
 repeat' first
   | (with_reducible exact ih0 _ _ _ _ _ _)
   | (with_reducible exact LeO.refl _)
   | (with_reducible exact LeO.none _)
   | (with_reducible refine LeO.ite ?_ ?_)
   | (with_reducible refine LeO.bind ?_ (fun _ => ?_))
   | exact ih0 _ _ _ _ _ _
   | exact LeO.none _
   | refine LeO.ite ?_ ?_
   | refine LeO.bind ?_ (fun _ => ?_)
def clear_Prices.T8 : Bool × List (List Nat × List Nat) := (true, [([], []), ([], []), ([], []), ([], []), ([], []), ([3, 4], [3, 4]), ([5], [5]), ([6], [6]), ([2, 7], [2, 7]), ([], []), ([8, 9], [8, 9]), ([], []), ([], []), ([11, 12], [11, 12]), ([13], [13]), ([14], [14]), ([10, 15], [10, 15]), ([0, 1, 0, 1, 2, 3, 4, 5, 6, 7, 8, 9, 10, 11, 12, 13, 14, 15, 16], [0, 1]), ([17, 16, 8, 0, 1, 2, 3, 4, 5, 6, 7, 8, 9, 10, 11, 12, 13, 14, 15, 16], [16, 17])])
def clear_Prices.B8 : List Nat := [0, 0, 0, 0, 0, 24, 56, 120, 252, 0, 1020, 0, 0, 6144, 14336, 30720, 65532, 131071, 262143]
theorem clear_Prices.tab8 : rtab .any (opsOf Try.f14 8) = clear_Prices.T8 := by kernel_rfl
theorem clear_Prices.bits8 : waitsOk clear_Prices.T8.2 clear_Prices.B8 = true := by kernel_rfl
set_option maxHeartbeats 8000000 in
set_option maxRecDepth 100000 in
theorem clear_Prices.calls (k : Nat) (a0 : Int) (A1 : Option Addr) (c1 : Nat) (l1 : List (S45)) (r1 : List Int) (r2 : Int) (w : World) (hr1 : Kd.C k45 w A1 l1.length l1) (hc1 : l1.length ≤ c1) (h : clear_Prices.f k a0 l1 = some (r1, r2)) :
  Calls Try.prog 14 #[.int .i64 a0, .slice A1 l1.length c1] w fun e w' => ∃ v0_ : Value, e = .returned (.tuple #[v0_, .int .i64 r2]) ∧ Kd.R (Kd.int .i64) 3 w' w.heap.size (fun _ => True) v0_ r1 ∧ Below w.heap.size w w' := by
 have HR1 := Aside0.mk hr1
 have HC1 := Aside0.mk hc1
 clear hr1 hc1
 have HB := Aside0.mk (Below.refl w.heap.size w)
 have H : ((clear_Best.f a0 l1).bind fun bt148 => (if bt148.2.2 = 0 then (if 0 ≤ (l1.length : Int) then (if ((l1.length : Int) : Int).toNat ≤ 35184372088832 then (clear_Prices.l0 k l1 bt148.2.1 (List.replicate ((l1.length : Int) : Int).toNat 0) bt148.1 (bt148.1.length : Int) 0) else (none)) else (none)) else (some (([] : List Int), bt148.2.2)))) = some (r1, r2) := h
 clear h
 replace H := Option.bind_eq_some_iff.mp H
 obtain ⟨⟨t148, t149, t150⟩, A30, H⟩ := H
 replace H : (if t150 = 0 then (if 0 ≤ (l1.length : Int) then (if ((l1.length : Int) : Int).toNat ≤ 35184372088832 then (clear_Prices.l0 k l1 t149 (List.replicate ((l1.length : Int) : Int).toNat 0) t148 (t148.length : Int) 0) else (none)) else (none)) else (some (([] : List Int), t150))) = some (r1, r2) := H
 have A3 := Aside0.mk A30
 clear A30
 by_cases c4 : t150 = 0
 ·rw [if_pos c4] at H
  have c4b0 : (t150 == 0) = true := beq_iff_eq.mpr c4
  have c4b1 : (t150 != 0) = false := bne_eq_false_iff_eq.mpr c4
  clear c4
  by_cases c5 : 0 ≤ (l1.length : Int)
  ·rw [if_pos c5] at H
   have c5b0 := eq_true c5
   have c5b1 : decide (0 ≤ (l1.length : Int)) = true := decide_eq_true c5
   clear c5
   by_cases c6 : ((l1.length : Int) : Int).toNat ≤ 35184372088832
   ·rw [if_pos c6] at H
    have c6b0 := eq_true c6
    have c6b1 : decide (((l1.length : Int) : Int).toNat ≤ 35184372088832) = true := decide_eq_true c6
    clear c6
    obtain ⟨y153, hy153⟩ : ∃ y_ : List Int, y_ = (List.replicate ((l1.length : Int) : Int).toNat 0) := ⟨_, rfl⟩
    replace H : (clear_Prices.l0 k l1 t149 y153 t148 (t148.length : Int) 0) = some (r1, r2) := by first | (rw [hy153]; with_reducible exact H) | (have H2_ := (Option.bind_some _ _).symm.trans H; rw [hy153]; with_reducible exact H2_) | (have H2_ := (Option.bind_some _ _).symm.trans H; with_reducible exact H2_) | with_reducible exact H | (rw [hy153]; exact H) | exact H
    have Ny153 := Aside0.mk hy153
    clear hy153
    have H' := Aside0.mk H
    clear H
    go_enter Try.func14, Try.ntmps14
    go_wp2_with (first | ((with_reducible refine gate_callee (f := 24) rfl ?_); refine goesL_ (some 15) rfl rfl Try.func24 (by kernel_rfl) rfl #[.int .i64 a0, .slice A1 l1.length c1] rfl (by (try simp only [List.map_toArray, List.map_cons, List.map_nil]); first | done | rfl | (simp only [List.length_drop, List.length_take]; rfl)) ?_; (with_reducible refine (clear_Best.calls a0 _ _ l1 t148 t149 t150 _ ?side1 ?side2 A3.out).mono ?_); (case side1 => repeat (first | exact HR1.out | (with_reducible refine Kd.C_alloc ?_ _) | (with_reducible refine Kd.C_drewN ?_ _) | (with_reducible refine Kd.C_drew ?_))); (case side2 => exact HC1.out); rintro e w7 ⟨v151, rfl, ho0, hb⟩; refine ⟨_, rfl, ?_⟩; have n0_ := Aside0.mk (Kd.R_lower ho0 (below_size (by repeat (first | (with_reducible first | exact HB.out | apply below_alloc | apply pw_below_drewN | apply below_drew1) | exact HB.out)))); have n1_ := Aside0.mk (below_step (by repeat (first | (with_reducible first | exact HB.out | apply below_alloc | apply pw_below_drewN | apply below_drew1) | exact HB.out)) hb); clear HB; have HO152 := n0_; have HB := n1_; clear n0_ n1_; (try clear hb); (try clear hb2); (try clear hk); (try clear hi); (try clear ho0)) | ((with_reducible refine gate_dst (N := 24) rfl ?_); refine Kd.R_make (Kd.int .i64) _ 3 rfl (N := 24) rfl 22 _ _ rfl (l1.length : Int) rfl rfl Try.underlying22 (.int .i64 0) 8 info3 rfl (by decide) (by omega) 0 (ok := fun _ => True) (okp := fun _ => True) rfl (fun _ hk => hk) trivial (of_decide_eq_true (by first | (with_reducible assumption) | assumption)) (Nat.le_trans (Nat.mul_le_mul_right _ (of_decide_eq_true (by first | (with_reducible assumption) | assumption) : (l1.length : Int).toNat ≤ 35184372088832)) (by omega)) (Below.refl _ _) (Nat.le_refl _) ?_; intro v154 w8 ho9 hb hg_ hnew_; clear hg_ hnew_; (first | rw [← Ny153.out] at ho9 | (simp only [Int.reduceToNat] at ho9; rw [← Ny153.out] at ho9)); have n0_ := Aside0.mk (Kd.R_elder' (by (with_reducible repeat (first | apply Kd.R_alloc | apply Kd.R_drewN | apply Kd.R_drew)); exact HO152.out) (Kd.R_base ho9) hb); have n1_ := Aside0.mk (Kd.R_lower (Kd.R_new' ho9 (Kd.R_lt (by (with_reducible repeat (first | apply Kd.R_alloc | apply Kd.R_drewN | apply Kd.R_drew)); exact HO152.out))) (below_size (by repeat (first | (with_reducible first | exact HB.out | apply below_alloc | apply pw_below_drewN | apply below_drew1) | exact HB.out)))); have n2_ := Aside0.mk (below_step (by repeat (first | (with_reducible first | exact HB.out | apply below_alloc | apply pw_below_drewN | apply below_drew1) | exact HB.out)) hb); clear HO152; clear HB; have HO152 := n0_; have HO155 := n1_; have HB := n2_; clear n0_ n1_ n2_; clear hb ho9; obtain ⟨Ao10, co10, eo10⟩ := Kd.R_slice HO152.out; subst eo10))
    go_loopg [27] k (fun kq v27 w' => ∃ (x9_1 : List Int) (x27_1 : Int), v27 = .int .i64 x27_1 ∧ Aside0 (clear_Prices.l0 kq l1 t149 x9_1 t148 (t148.length : Int) x27_1 = some (r1, r2)) ∧ Aside0 (kq ≤ k) ∧ Aside0 (Kd.R (Kd.int .i64) 3 w' w.heap.size (fun k_ => some k_ ≠ ((.slice Ao10 t148.length co10) : Value).ownBlock) v154 x9_1) ∧ Aside0 (Kd.R (Kd.int .i64) 3 w' w.heap.size (fun k_ => some k_ ≠ (v154 : Value).ownBlock) (.slice Ao10 t148.length co10) t148) ∧ Aside0 (Below w.heap.size w w'))
    case atStart => exact ⟨(y153), (0), (by first | rfl | (simp; done) | (simp [*]; done)), H', ⟨Nat.le_refl _⟩, ⟨by (with_reducible repeat (first | apply Kd.R_alloc | apply Kd.R_drewN | apply Kd.R_drew)); exact Kd.R_mono HO155.out (fun _ hk => hk.2)⟩, ⟨by (with_reducible repeat (first | apply Kd.R_alloc | apply Kd.R_drewN | apply Kd.R_drew)); exact Kd.R_mono HO152.out (fun _ hk => hk.2)⟩, ⟨by repeat (first | (with_reducible first | exact HB.out | apply below_alloc | apply pw_below_drewN | apply below_drew1) | exact HB.out)⟩⟩
    case round =>
     clear H'
     try clear c1
     try clear c2
     try clear p2
     try clear c4
     try clear c4b0
     try clear c4b1
     try clear c5
     try clear c5b0
     try clear c5b1
     try clear c6
     try clear c6b0
     try clear c6b1
     obtain ⟨x9_1, x27_1, rfl, HA, HK1, HO_9, HO_25, HB⟩ := hrel
     cases gk with
     | zero => exact absurd HA.out (by simp [clear_Prices.l0])
     | succ k1 =>
      have H := HA.out
      clear HA
      simp only [clear_Prices.l0] at H
      by_cases c11 : x27_1 < (t148.length : Int)
      ·rw [if_pos c11] at H
       have c11b0 : decide (x27_1 < (t148.length : Int)) = true := decide_eq_true c11
       clear c11
       by_cases c12 : 0 ≤ x27_1
       ·rw [if_pos c12] at H
        have c12b0 : decide (0 ≤ x27_1) = true := decide_eq_true c12
        clear c12
        by_cases c13 : x27_1 < (t148.length : Int)
        ·rw [if_pos c13] at H
         have c13b0 : decide (x27_1 < (t148.length : Int)) = true := decide_eq_true c13
         clear c13
         by_cases c14 : 0 ≤ (rd t148 x27_1)
         ·rw [if_pos c14] at H
          have c14b0 : decide (0 ≤ (rd t148 x27_1)) = true := decide_eq_true c14
          clear c14
          by_cases c15 : (rd t148 x27_1) < (l1.length : Int)
          ·rw [if_pos c15] at H
           have c15b0 : decide ((rd t148 x27_1) < (l1.length : Int)) = true := decide_eq_true c15
           clear c15
           replace H := Option.bind_eq_some_iff.mp H
           obtain ⟨t158, A160, H⟩ := H
           replace H : (if (rd t148 x27_1) < (x9_1.length : Int) then (clear_Prices.l0 k1 l1 t149 (x9_1.set ((rd t148 x27_1) : Int).toNat (wrap64 ((wrap64 (t158 - t149)) + ((rd_T45 l1 (rd t148 x27_1)).f1)))) t148 (t148.length : Int) (wrap64 (x27_1 + 1))) else (none)) = some (r1, r2) := H
           have A16 := Aside0.mk A160
           clear A160
           by_cases c17 : (rd t148 x27_1) < (x9_1.length : Int)
           ·rw [if_pos c17] at H
            have c17b0 : decide ((rd t148 x27_1) < (x9_1.length : Int)) = true := decide_eq_true c17
            clear c17
            obtain ⟨y160, hy160⟩ : ∃ y_ : List Int, y_ = (x9_1.set ((rd t148 x27_1) : Int).toNat (wrap64 ((wrap64 (t158 - t149)) + ((rd_T45 l1 (rd t148 x27_1)).f1)))) := ⟨_, rfl⟩
            replace H : (clear_Prices.l0 k1 l1 t149 y160 t148 (t148.length : Int) (wrap64 (x27_1 + 1))) = some (r1, r2) := by first | (rw [hy160]; with_reducible exact H) | (have H2_ := (Option.bind_some _ _).symm.trans H; rw [hy160]; with_reducible exact H2_) | (have H2_ := (Option.bind_some _ _).symm.trans H; with_reducible exact H2_) | with_reducible exact H | (rw [hy160]; exact H) | exact H
            have Ny160 := Aside0.mk hy160
            clear hy160
            have H' := Aside0.mk H
            clear H
            have p156 : 0 ≤ (x27_1 : Int) := of_decide_eq_true (by first | (with_reducible assumption) | assumption)
            have q156 : x27_1 < (t148.length : Int) := of_decide_eq_true (by first | (with_reducible assumption) | assumption)
            obtain ⟨ad156, e156, hx156_0⟩ := Kd.at_int (Kd.R_reads' HO_25.out).2.2 x27_1 p156 q156
            cases e156
            replace p156 := eq_true p156
            replace q156 := eq_true q156
            try go_wp2
            have n0_ := Aside0.mk (Kd.R_drew HO_9.out)
            have n1_ := Aside0.mk (Kd.R_drew HO_25.out)
            have n2_ := Aside0.mk (below_drew1 HB.out)
            clear HO_9
            clear HO_25
            clear HB
            have HO_9 := n0_
            have HO_25 := n1_
            have HB := n2_
            clear n0_ n1_ n2_
            have p157 : 0 ≤ ((rd t148 x27_1) : Int) := of_decide_eq_true (by first | (with_reducible assumption) | assumption)
            have q157 : (rd t148 x27_1) < (l1.length : Int) := of_decide_eq_true (by first | (with_reducible assumption) | assumption)
            obtain ⟨ad157, A157_2, c157_2, e157, hx157_0, hx157_1, hx157_2, hl157_2, hi157_2⟩ := at_T45 HR1.out (rd t148 x27_1) p157 q157
            have hw157_2 := hx157_2
            have hw157_1 := hx157_1
            have hw157_0 := hx157_0
            cases e157
            replace hx157_0 := (HB.out.cell (World.block_lt_of_cell? w _ hx157_0)).trans hx157_0
            replace hx157_1 := (HB.out.cell (World.block_lt_of_cell? w _ hx157_1)).trans hx157_1
            replace hx157_2 := (HB.out.cell (World.block_lt_of_cell? w _ hx157_2)).trans hx157_2
            have HR157_2 := Aside0.mk hi157_2
            have HC157_2 := Aside0.mk hl157_2
            clear hi157_2 hl157_2
            replace p157 := eq_true p157
            replace q157 := eq_true q157
            have p159 : 0 ≤ ((rd t148 x27_1) : Int) := of_decide_eq_true (by first | (with_reducible assumption) | assumption)
            have q159 : (rd t148 x27_1) < (l1.length : Int) := of_decide_eq_true (by first | (with_reducible assumption) | assumption)
            obtain ⟨ad159, A159_2, c159_2, e159, hx159_0, hx159_1, hx159_2, hl159_2, hi159_2⟩ := at_T45 HR1.out (rd t148 x27_1) p159 q159
            have hw159_2 := hx159_2
            have hw159_1 := hx159_1
            have hw159_0 := hx159_0
            obtain rfl : ad157 = ad159 := (by injection e159)
            replace hx159_0 := (HB.out.cell (World.block_lt_of_cell? w _ hx159_0)).trans hx159_0
            replace hx159_1 := (HB.out.cell (World.block_lt_of_cell? w _ hx159_1)).trans hx159_1
            replace hx159_2 := (HB.out.cell (World.block_lt_of_cell? w _ hx159_2)).trans hx159_2
            have HR159_2 := Aside0.mk hi159_2
            have HC159_2 := Aside0.mk hl159_2
            clear hi159_2 hl159_2
            replace p159 := eq_true p159
            replace q159 := eq_true q159
            have ea_ := Option.some.inj (hx157_2.symm.trans hx159_2)
            injection ea_ with ea_ en_ ec_
            subst ea_
            subst ec_
            clear en_
            refine start_ (n := 19) (S := fun w' => w'.cell? (ad157.add (((rd t148 x27_1)).toNat * 3)) = some (.int .i64 ((rd_T45 l1 (rd t148 x27_1)).f0)) ∧ w'.cell? ⟨(ad157.add (((rd t148 x27_1)).toNat * 3)).block, (ad157.add (((rd t148 x27_1)).toNat * 3)).off + 1, none⟩ = some (.int .i64 ((rd_T45 l1 (rd t148 x27_1)).f1)) ∧ w'.cell? ⟨(ad157.add (((rd t148 x27_1)).toNat * 3)).block, (ad157.add (((rd t148 x27_1)).toNat * 3)).off + 2, none⟩ = some (.slice A157_2 ((rd_T45 l1 (rd t148 x27_1)).f2).length c157_2) ∧ w'.cell? (ad157.add (((rd t148 x27_1)).toNat * 3)) = some (.int .i64 ((rd_T45 l1 (rd t148 x27_1)).f0)) ∧ w'.cell? ⟨(ad157.add (((rd t148 x27_1)).toNat * 3)).block, (ad157.add (((rd t148 x27_1)).toNat * 3)).off + 1, none⟩ = some (.int .i64 ((rd_T45 l1 (rd t148 x27_1)).f1)) ∧ w'.cell? ⟨(ad157.add (((rd t148 x27_1)).toNat * 3)).block, (ad157.add (((rd t148 x27_1)).toNat * 3)).off + 2, none⟩ = some (.slice A157_2 ((rd_T45 l1 (rd t148 x27_1)).f2).length c157_2)) (ds := [18]) #[false, false, false, false, false, false, false, false, false, false, false, false, false, false, false, false, false, false, false] (by kernel_rfl) rfl rfl ⟨((HB.out.cell (World.block_lt_of_cell? w _ hw157_0)).trans hw157_0), ((HB.out.cell (World.block_lt_of_cell? w _ hw157_1)).trans hw157_1), ((HB.out.cell (World.block_lt_of_cell? w _ hw157_2)).trans hw157_2), ((HB.out.cell (World.block_lt_of_cell? w _ hw159_0)).trans hw159_0), ((HB.out.cell (World.block_lt_of_cell? w _ hw159_1)).trans hw159_1), ((HB.out.cell (World.block_lt_of_cell? w _ hw159_2)).trans hw159_2)⟩ (fun hHeld => ?_); refine with_tabW clear_Prices.tab8 clear_Prices.bits8 (fun HT_ HW_ => ?_)
            generalize wr.drew = w19 at HO_9 HO_25 HB HR157_2 HR159_2 hx157_0 hx157_1 hx157_2 hx159_0 hx159_1 hx159_2 hHeld ⊢
            refine pure_ (i := 0) (N := some 31) (v := ?_) (a' := ?_) #[true, false, false, false, false, false, false, false, false, false, false, false, false, false, false, false, false, false, false] rfl rfl (any_of HT_.out (by kernel_rfl)) (fun _ _ _ h => h) (Or.inl ⟨by rfl, ?_⟩) ?_ ?_
            rotate_left
            ·intro w'
             go_simp
             with_reducible rfl
            rotate_left
            ·simp only [Act.put, List.setIfInBounds_toArray, List.set_cons_zero, List.set_cons_succ, i64_w, i32_w]
             rfl
            refine pure_ (i := 1) (N := some 32) (v := ?_) (a' := ?_) #[true, true, false, false, false, false, false, false, false, false, false, false, false, false, false, false, false, false, false] rfl rfl (any_of HT_.out (by kernel_rfl)) (fun _ _ _ h => h) (Or.inl ⟨by rfl, ?_⟩) ?_ ?_
            rotate_left
            ·intro w'
             go_simp
             with_reducible rfl
            rotate_left
            ·simp only [Act.put, List.setIfInBounds_toArray, List.set_cons_zero, List.set_cons_succ, i64_w, i32_w]
             rfl
            refine pure_ (i := 2) (N := some 33) (v := ?_) (a' := ?_) #[true, true, true, false, false, false, false, false, false, false, false, false, false, false, false, false, false, false, false] rfl rfl (any_of HT_.out (by kernel_rfl)) (fun _ _ _ h => h) (Or.inl ⟨by rfl, ?_⟩) ?_ ?_
            rotate_left
            ·intro w'
             go_simp
             with_reducible rfl
            rotate_left
            ·simp only [Act.put, List.setIfInBounds_toArray, List.set_cons_zero, List.set_cons_succ, i64_w, i32_w]
             rfl
            refine pure_ (i := 3) (N := some 34) (v := ?_) (a' := ?_) #[true, true, true, true, false, false, false, false, false, false, false, false, false, false, false, false, false, false, false] rfl rfl (any_of HT_.out (by kernel_rfl)) (fun _ _ _ h => h) (Or.inl ⟨by rfl, ?_⟩) ?_ ?_
            rotate_left
            ·intro w'
             go_simp
             with_reducible rfl
            rotate_left
            ·simp only [Act.put, List.setIfInBounds_toArray, List.set_cons_zero, List.set_cons_succ, i64_w, i32_w]
             rfl
            refine pure_ (i := 4) (N := some 35) (v := ?_) (a' := ?_) #[true, true, true, true, true, false, false, false, false, false, false, false, false, false, false, false, false, false, false] rfl rfl (any_of HT_.out (by kernel_rfl)) (fun _ _ _ h => h) (Or.inl ⟨by rfl, ?_⟩) ?_ ?_
            rotate_left
            ·intro w'
             go_simp
             with_reducible rfl
            rotate_left
            ·simp only [Act.put, List.setIfInBounds_toArray, List.set_cons_zero, List.set_cons_succ, i64_w, i32_w]
             rfl
            refine pure_ (i := 5) (N := some 36) (v := ?_) (a' := ?_) #[true, true, true, true, true, true, false, false, false, false, false, false, false, false, false, false, false, false, false] rfl rfl (any_of HT_.out (by kernel_rfl)) (fun _ _ _ h => h) (Or.inl ⟨by rfl, ?_⟩) ?_ ?_
            rotate_left
            ·intro w'
             go_simp
             with_reducible rfl
            rotate_left
            ·simp only [Act.put, List.setIfInBounds_toArray, List.set_cons_zero, List.set_cons_succ, i64_w, i32_w]
             rfl
            refine pure_ (i := 6) (N := some 37) (v := ?_) (a' := ?_) #[true, true, true, true, true, true, true, false, false, false, false, false, false, false, false, false, false, false, false] rfl rfl (any_of HT_.out (by kernel_rfl)) (fun _ _ _ h => h) (Or.inl ⟨by rfl, ?_⟩) ?_ ?_
            rotate_left
            ·intro w'
             go_simp
             with_reducible rfl
            rotate_left
            ·simp only [Act.put, List.setIfInBounds_toArray, List.set_cons_zero, List.set_cons_succ, i64_w, i32_w]
             rfl
            refine pure_ (i := 9) (N := some 40) (v := ?_) (a' := ?_) #[true, true, true, true, true, true, true, false, false, true, false, false, false, false, false, false, false, false, false] rfl rfl (any_of HT_.out (by kernel_rfl)) (fun _ _ _ h => h) (Or.inl ⟨by rfl, ?_⟩) ?_ ?_
            rotate_left
            ·intro w'
             go_simp
             with_reducible rfl
            rotate_left
            ·simp only [Act.put, List.setIfInBounds_toArray, List.set_cons_zero, List.set_cons_succ, i64_w, i32_w]
             rfl
            refine pure_ (i := 11) (N := some 42) (v := ?_) (a' := ?_) #[true, true, true, true, true, true, true, false, false, true, false, true, false, false, false, false, false, false, false] rfl rfl (any_of HT_.out (by kernel_rfl)) (fun _ _ _ h => h) (Or.inl ⟨by rfl, ?_⟩) ?_ ?_
            rotate_left
            ·intro w'
             go_simp
             with_reducible rfl
            rotate_left
            ·simp only [Act.put, List.setIfInBounds_toArray, List.set_cons_zero, List.set_cons_succ, i64_w, i32_w]
             rfl
            refine pure_ (i := 12) (N := some 43) (v := ?_) (a' := ?_) #[true, true, true, true, true, true, true, false, false, true, false, true, true, false, false, false, false, false, false] rfl rfl (any_of HT_.out (by kernel_rfl)) (fun _ _ _ h => h) (Or.inl ⟨by rfl, ?_⟩) ?_ ?_
            rotate_left
            ·intro w'
             go_simp
             with_reducible rfl
            rotate_left
            ·simp only [Act.put, List.setIfInBounds_toArray, List.set_cons_zero, List.set_cons_succ, i64_w, i32_w]
             rfl
            refine pure_ (i := 13) (N := some 44) (v := ?_) (a' := ?_) #[true, true, true, true, true, true, true, false, false, true, false, true, true, true, false, false, false, false, false] rfl rfl (any_of HT_.out (by kernel_rfl)) (fun _ _ _ h => h) (Or.inl ⟨by rfl, ?_⟩) ?_ ?_
            rotate_left
            ·intro w'
             go_simp
             with_reducible rfl
            rotate_left
            ·simp only [Act.put, List.setIfInBounds_toArray, List.set_cons_zero, List.set_cons_succ, i64_w, i32_w]
             rfl
            refine pure_ (i := 14) (N := some 45) (v := ?_) (a' := ?_) #[true, true, true, true, true, true, true, false, false, true, false, true, true, true, true, false, false, false, false] rfl rfl (any_of HT_.out (by kernel_rfl)) (fun _ _ _ h => h) (Or.inl ⟨by rfl, ?_⟩) ?_ ?_
            rotate_left
            ·intro w'
             go_simp
             with_reducible rfl
            rotate_left
            ·simp only [Act.put, List.setIfInBounds_toArray, List.set_cons_zero, List.set_cons_succ, i64_w, i32_w]
             rfl
            refine take_ (i := 7) (N := some 38) (v := ?_) (a' := ?_) #[true, true, true, true, true, true, true, true, false, true, false, true, true, true, true, false, false, false, false] rfl rfl (take_ofW HT_.out HW_.out (by kernel_rfl)) (fun _ _ _ h => h) (Or.inl ⟨by rfl, ?_⟩) hHeld ?_ ?_
            rotate_left
            ·rintro w' ⟨s0, s1, s2, s3, s4, s5⟩
             go_simp
             with_reducible rfl
            rotate_left
            ·simp only [Act.put, List.setIfInBounds_toArray, List.set_cons_zero, List.set_cons_succ, i64_w, i32_w]
             rfl
            refine take_ (i := 15) (N := some 46) (v := ?_) (a' := ?_) #[true, true, true, true, true, true, true, true, false, true, false, true, true, true, true, true, false, false, false] rfl rfl (take_ofW HT_.out HW_.out (by kernel_rfl)) (fun _ _ _ h => h) (Or.inl ⟨by rfl, ?_⟩) hHeld ?_ ?_
            rotate_left
            ·rintro w' ⟨s0, s1, s2, s3, s4, s5⟩
             go_simp
             with_reducible rfl
            rotate_left
            ·simp only [Act.put, List.setIfInBounds_toArray, List.set_cons_zero, List.set_cons_succ, i64_w, i32_w]
             rfl
            refine one_ (i := 8) (N := some 39) #[true, true, true, true, true, true, true, true, true, true, false, true, true, true, true, true, false, false, false] rfl rfl (one_of HT_.out (by kernel_rfl)) (by decide) (fun K hK => ?_)
            refine goes_ Try.func35 (by kernel_rfl) rfl #[.slice (some ad157) l1.length c1, .int .i64 ((rd_T45 l1 (rd t148 x27_1)).f0)] (by rfl) rfl rfl (by (try simp only [List.map_toArray, List.map_cons, List.map_nil]); first | done | rfl | (simp only [List.length_drop, List.length_take]; rfl)) ?_
            with_reducible refine (clear_others.calls _ _ l1 ((rd_T45 l1 (rd t148 x27_1)).f0) t158 _ ?side1 ?side2 A16.out).mono ?_
            (case side1 => repeat (first | exact (Kd.C_below HR1.out HB.out) | (with_reducible refine Kd.C_alloc ?_ _) | (with_reducible refine Kd.C_drewN ?_ _) | (with_reducible refine Kd.C_drew ?_)))
            (case side2 => exact HC1.out)
            rintro e w20 ⟨rfl, hb⟩
            refine ⟨_, rfl, ?_⟩
            have n0_ := Aside0.mk (Kd.R_below (by (with_reducible repeat (first | apply Kd.R_alloc | apply Kd.R_drewN | apply Kd.R_drew)); exact HO_9.out) hb)
            have n1_ := Aside0.mk (Kd.R_below (by (with_reducible repeat (first | apply Kd.R_alloc | apply Kd.R_drewN | apply Kd.R_drew)); exact HO_25.out) hb)
            have n2_ := Aside0.mk (below_step (by repeat (first | (with_reducible first | exact HB.out | apply below_alloc | apply pw_below_drewN | apply below_drew1) | exact HB.out)) hb)
            clear HO_9
            clear HO_25
            clear HB
            have HO_9 := n0_
            have HO_25 := n1_
            have HB := n2_
            clear n0_ n1_ n2_
            (try clear hb)
            (try clear hb2)
            (try clear hk)
            (try clear hi)
            have p18 : 0 ≤ ((rd t148 x27_1) : Int) := of_decide_eq_true (by first | (with_reducible assumption) | assumption)
            have q18 : ((rd t148 x27_1) : Int) < ((x9_1.length : Int) : Int) := of_decide_eq_true (by first | (with_reducible assumption) | assumption)
            obtain ⟨go18, co18, eo18, gb18, gl18, cl18, HG18⟩ := Kd.R_form HO_9.out (by omega)
            (first | cases eo18 | (injection eo18 with ea_ en_ ec_; (first | subst ea_ | (injection ea_ with ea_; subst ea_)); subst ec_; clear en_))
            have GB18 := Aside0.mk gb18
            have GG18 := Aside0.mk HG18
            clear gb18 gl18 HG18
            obtain ⟨hx18_0, hf18_0⟩ := Kd.R_celln 0 HO_9.out ((rd t148 x27_1) : Int) p18 q18
            replace p18 := eq_true p18
            replace q18 := eq_true q18
            have HP21 := Kd.R_putn HO_9.out ((rd t148 x27_1) : Int) (wrap64 ((wrap64 (t158 - t149)) + ((rd_T45 l1 (rd t148 x27_1)).f1)))
            rw [← Ny160.out] at HP21
            have HQ21 := Aside0.mk HP21
            clear HP21
            refine hK.out _ _ ⟨((HB.out.cell (World.block_lt_of_cell? w _ hw157_0)).trans hw157_0), ((HB.out.cell (World.block_lt_of_cell? w _ hw157_1)).trans hw157_1), ((HB.out.cell (World.block_lt_of_cell? w _ hw157_2)).trans hw157_2), ((HB.out.cell (World.block_lt_of_cell? w _ hw159_0)).trans hw159_0), ((HB.out.cell (World.block_lt_of_cell? w _ hw159_1)).trans hw159_1), ((HB.out.cell (World.block_lt_of_cell? w _ hw159_2)).trans hw159_2)⟩ (fun hHeld => ?_)
            clear hK K
            refine norm_ (a' := ?_) ?_ ?_
            rotate_left
            ·show Act.put _ (some 39) _ = _
             simp only [Act.put, List.setIfInBounds_toArray, List.set_cons_zero, List.set_cons_succ, i64_w, i32_w]
             rfl
            refine pure_ (i := 10) (N := some 41) (v := ?_) (a' := ?_) #[true, true, true, true, true, true, true, true, true, true, true, true, true, true, true, true, false, false, false] rfl rfl (any_of HT_.out (by kernel_rfl)) (fun _ _ _ h => h) (Or.inl ⟨by rfl, ?_⟩) ?_ ?_
            rotate_left
            ·intro w'
             go_simp
             with_reducible rfl
            rotate_left
            ·simp only [Act.put, List.setIfInBounds_toArray, List.set_cons_zero, List.set_cons_succ, i64_w, i32_w]
             rfl
            refine pure_ (i := 16) (N := some 47) (v := ?_) (a' := ?_) #[true, true, true, true, true, true, true, true, true, true, true, true, true, true, true, true, true, false, false] rfl rfl (any_of HT_.out (by kernel_rfl)) (fun _ _ _ h => h) (Or.inl ⟨by rfl, ?_⟩) ?_ ?_
            rotate_left
            ·intro w'
             go_simp
             with_reducible rfl
            rotate_left
            ·simp only [Act.put, List.setIfInBounds_toArray, List.set_cons_zero, List.set_cons_succ, i64_w, i32_w]
             rfl
            refine pure_ (i := 17) (N := some 48) (v := ?_) (a' := ?_) #[true, true, true, true, true, true, true, true, true, true, true, true, true, true, true, true, true, true, false] rfl rfl (any_of HT_.out (by kernel_rfl)) (fun _ _ _ h => h) (Or.inl ⟨by rfl, ?_⟩) ?_ ?_
            rotate_left
            ·intro w'
             go_simp
             with_reducible rfl
            rotate_left
            ·simp only [Act.put, List.setIfInBounds_toArray, List.set_cons_zero, List.set_cons_succ, i64_w, i32_w]
             rfl
            refine last_ (i := 18) (N := none) #[true, true, true, true, true, true, true, true, true, true, true, true, true, true, true, true, true, true, true] rfl rfl (one_of HT_.out (by kernel_rfl)) (by decide) (fun K hK => ?_)
            refine skip_ (w1 := ?_) (by rfl) rfl ?_ ?_
            rotate_left
            ·go_simp
             rfl
            refine hK.out _ _ ?_
            clear hK K
            refine done_ (done_of HT_.out (by kernel_rfl)) ?_
            try go_wp2
            go_roundg k1
            case measure => have := HK1.out; omega
            case rel => exact ⟨(y160), (wrap64 (x27_1 + 1)), (by first | rfl | (simp; done) | (simp [*]; done)), H', ⟨by have := HK1.out; omega⟩, ⟨by (with_reducible repeat (first | apply Kd.R_alloc | apply Kd.R_drewN | apply Kd.R_drew)); exact HQ21.out⟩, ⟨by (with_reducible repeat (first | apply Kd.R_alloc | apply Kd.R_drewN | apply Kd.R_drew)); exact Kd.R_mono (Kd.R_far (p := ⟨go18, ((rd t148 x27_1) : Int).toNat, none⟩) (Kd.R_mono HO_25.out (fun k_ hk => (⟨hk, fun e_ => hk (by rw [e_]; rfl)⟩ : _ ∧ k_ ≠ go18))) (fun _ hk => hk.2) (.int .i64 (wrap64 ((wrap64 (t158 - t149)) + ((rd_T45 l1 (rd t148 x27_1)).f1))))) (fun _ hk => hk.1)⟩, ⟨by repeat (first | (with_reducible first | exact HB.out | apply below_alloc | apply pw_below_drewN | apply below_drew1 | refine below_set ?_ GB18.out) | exact HB.out)⟩⟩
           ·rw [if_neg c17] at H
            exact absurd H (by simp)
          ·rw [if_neg c15] at H
           exact absurd H (by simp)
         ·rw [if_neg c14] at H
          exact absurd H (by simp)
        ·rw [if_neg c13] at H
         exact absurd H (by simp)
       ·rw [if_neg c12] at H
        exact absurd H (by simp)
      ·rw [if_neg c11] at H
       have c11b0 : decide (x27_1 < (t148.length : Int)) = false := decide_eq_false c11
       clear c11
       simp only [Option.some.injEq, Prod.mk.injEq] at H
       obtain ⟨rfl, rfl⟩ := H
       go_wp2
       go_ret2
       exact ⟨_, by first | rfl | (simp [errW_none, errW_some] <;> rfl) | (simp [*, errW_none, errW_some] <;> rfl), by (with_reducible repeat (first | apply Kd.R_alloc | apply Kd.R_drewN | apply Kd.R_drew)); exact Kd.R_mono HO_9.out (fun _ hk => trivial), by repeat (first | (with_reducible first | exact HB.out | apply below_alloc | apply pw_below_drewN | apply below_drew1) | exact HB.out)⟩
   ·rw [if_neg c6] at H
    exact absurd H (by simp)
  ·rw [if_neg c5] at H
   exact absurd H (by simp)
 ·rw [if_neg c4] at H
  have c4b0 : (t150 == 0) = false := beq_eq_false_iff_ne.mpr c4
  have c4b1 : (t150 != 0) = true := bne_iff_ne.mpr c4
  simp only [Option.some.injEq, Prod.mk.injEq] at H
  obtain ⟨rfl, rfl⟩ := H
  go_enter Try.func14, Try.ntmps14
  go_wp2_with (first | ((with_reducible refine gate_callee (f := 24) rfl ?_); refine goesL_ (some 15) rfl rfl Try.func24 (by kernel_rfl) rfl #[.int .i64 a0, .slice A1 l1.length c1] rfl (by (try simp only [List.map_toArray, List.map_cons, List.map_nil]); first | done | rfl | (simp only [List.length_drop, List.length_take]; rfl)) ?_; (with_reducible refine (clear_Best.calls a0 _ _ l1 t148 t149 t150 _ ?side1 ?side2 A3.out).mono ?_); (case side1 => repeat (first | exact HR1.out | (with_reducible refine Kd.C_alloc ?_ _) | (with_reducible refine Kd.C_drewN ?_ _) | (with_reducible refine Kd.C_drew ?_))); (case side2 => exact HC1.out); rintro e w22 ⟨v151, rfl, ho0, hb⟩; refine ⟨_, rfl, ?_⟩; have n0_ := Aside0.mk (Kd.R_lower ho0 (below_size (by repeat (first | (with_reducible first | exact HB.out | apply below_alloc | apply pw_below_drewN | apply below_drew1) | exact HB.out)))); have n1_ := Aside0.mk (below_step (by repeat (first | (with_reducible first | exact HB.out | apply below_alloc | apply pw_below_drewN | apply below_drew1) | exact HB.out)) hb); clear HB; have HO152 := n0_; have HB := n1_; clear n0_ n1_; (try clear hb); (try clear hb2); (try clear hk); (try clear hi); (try clear ho0)))
  go_ret2
  exact ⟨_, by first | rfl | (simp [errW_none, errW_some] <;> rfl) | (simp [*, errW_none, errW_some] <;> rfl), by first | exact Kd.R_nil _ _ _ _ _ | exact Kd.N_nil _ _ _ _ _ | exact Kd.V_nil _ _ _ _ _ | exact Kd.Q_nil _ _ _ _ _ | exact Kd.S_nil _ _ _ _ _, by repeat (first | (with_reducible first | exact HB.out | apply below_alloc | apply pw_below_drewN | apply below_drew1) | exact HB.out)⟩

end Go.Proofs.Ytecbfpcidoilmaa.H

/- Written by a program of this session over the kit's printer: what the functions named below compute, and that the machine's calls compute it. Not trusted: Lean checks it. -/
namespace Go.Proofs.Ytecbfpcidoilmaa.H
open Go.RowKit Go.Proofs.YtecbfpcidoilmaaW.PrintWords Go.Proofs.YtecbfpcidoilmaaW.PrintLast Go.Proofs.YtecbfpcidoilmaaW.PrintMore
attribute [local go_sem] max2_int min2_int max_two min_two max_three min_three max_four min_four   -- for this text's walks alone
set_option linter.unusedVariables false
set_option linter.unusedSimpArgs false

/-! ### worldmintlaw28_lives: function 18 -/
def worldmintlaw28_lives.j0 : Nat → List (S45) → Bool → Option (Bool)
 | 0, _, _ => none
 | k + 1, x1, x64 => if x64 = true then (some false) else (if 0 < (x1.length : Int) then ((clear_Best.f 2 (x1.set (0 : Int).toNat (⟨(rd_T45 x1 0).f0, 8, (rd_T45 x1 0).f2⟩ : S45))).bind fun bt264 => (if bt264.2.2 = 0 then ((worldmintref01_SameInts.f k bt264.1 (([0] : List Int))).bind fun t272 => (some t272)) else (some false))) else (none))
def worldmintlaw28_lives.f (k : Nat)  : Option (Bool) := (some (([(⟨1, 6, (([0, 1] : List Int))⟩ : S45), (⟨2, 4, (([0] : List Int))⟩ : S45), (⟨3, 4, (([1] : List Int))⟩ : S45), (⟨4, 2, (([1] : List Int))⟩ : S45)] : List (S45)) : List (S45))).bind fun y238 => ((clear_Best.f 2 y238).bind fun bt241 => ((clear_Prices.f k 2 y238).bind fun bt246 => ((clear_Bound.f 2 y238 (([3, 3] : List Int))).bind fun bt253 => (if bt241.2.2 = 0 then (if bt246.2 = 0 then (if bt253.2 = 0 then (if bt241.2.1 = 8 then (if bt253.1 = 8 then ((worldmintref01_SameInts.f k bt241.1 (([1, 2] : List Int))).bind fun t258 => (if t258 = true then ((worldmintref01_SameInts.f k bt246.1 (([0, 2, 2, 0] : List Int))).bind fun t262 => (worldmintlaw28_lives.j0 k y238 (!t262))) else (worldmintlaw28_lives.j0 k y238 true))) else (worldmintlaw28_lives.j0 k y238 true)) else (worldmintlaw28_lives.j0 k y238 true)) else (worldmintlaw28_lives.j0 k y238 true)) else (worldmintlaw28_lives.j0 k y238 true)) else (worldmintlaw28_lives.j0 k y238 true)))))
theorem worldmintlaw28_lives.mono_l : ∀ k, (∀ y0 y1, LeO (worldmintlaw28_lives.j0 k y0 y1) (worldmintlaw28_lives.j0 (k + 1) y0 y1))
 | 0 => fun _ _ r h => by simp [worldmintlaw28_lives.j0] at h
 | k + 1 => by
  have ih0 := worldmintlaw28_lives.mono_l k
  ·intro y0 y1
   unfold worldmintlaw28_lives.j0
   repeat' first
   | (with_reducible exact ih0 _ _)
   | (with_reducible exact clear_Prices.mono _ _ _)
   | (with_reducible exact worldmintref01_SameInts.mono _ _ _)
   | (with_reducible exact LeO.refl _)
   | (with_reducible exact LeO.none _)
   | (with_reducible refine LeO.ite ?_ ?_)
   | (with_reducible refine LeO.bind ?_ (fun _ => ?_))
   | exact ih0 _ _
   | exact clear_Prices.mono _ _ _
   | exact worldmintref01_SameInts.mono _ _ _
   | exact LeO.none _
   | refine LeO.ite ?_ ?_
   | refine LeO.bind ?_ (fun _ => ?_)
theorem worldmintlaw28_lives.mono : ∀ k, LeO (worldmintlaw28_lives.f k ) (worldmintlaw28_lives.f (k + 1) ) := by
 intro  k
 have ih0 := worldmintlaw28_lives.mono_l k
 unfold worldmintlaw28_lives.f
 repeat' first
   | (with_reducible exact ih0 _ _)
   | (with_reducible exact clear_Prices.mono _ _ _)
   | (with_reducible exact worldmintref01_SameInts.mono _ _ _)
   | (with_reducible exact LeO.refl _)
   | (with_reducible exact LeO.none _)
   | (with_reducible refine LeO.ite ?_ ?_)
   | (with_reducible refine LeO.bind ?_ (fun _ => ?_))
   | exact ih0 _ _
   | exact clear_Prices.mono _ _ _
   | exact worldmintref01_SameInts.mono _ _ _
   | exact LeO.none _
   | refine LeO.ite ?_ ?_
   | refine LeO.bind ?_ (fun _ => ?_)
set_option maxHeartbeats 8000000 in
set_option maxRecDepth 100000 in
theorem worldmintlaw28_lives.calls (k : Nat)  (r : Bool) (w : World) (h : worldmintlaw28_lives.f k  = some r) :
  Calls Try.prog 18 #[] w fun e w' => e = .returned (.bool r) ∧ Below w.heap.size w w' := by
 have hu45 := Try.underlying45
 have HB := Aside0.mk (Below.refl w.heap.size w)
 have H : ((some (([(⟨1, 6, (([0, 1] : List Int))⟩ : S45), (⟨2, 4, (([0] : List Int))⟩ : S45), (⟨3, 4, (([1] : List Int))⟩ : S45), (⟨4, 2, (([1] : List Int))⟩ : S45)] : List (S45)) : List (S45))).bind fun y238 => ((clear_Best.f 2 y238).bind fun bt241 => ((clear_Prices.f k 2 y238).bind fun bt246 => ((clear_Bound.f 2 y238 (([3, 3] : List Int))).bind fun bt253 => (if bt241.2.2 = 0 then (if bt246.2 = 0 then (if bt253.2 = 0 then (if bt241.2.1 = 8 then (if bt253.1 = 8 then ((worldmintref01_SameInts.f k bt241.1 (([1, 2] : List Int))).bind fun t258 => (if t258 = true then ((worldmintref01_SameInts.f k bt246.1 (([0, 2, 2, 0] : List Int))).bind fun t262 => (worldmintlaw28_lives.j0 k y238 (!t262))) else (worldmintlaw28_lives.j0 k y238 true))) else (worldmintlaw28_lives.j0 k y238 true)) else (worldmintlaw28_lives.j0 k y238 true)) else (worldmintlaw28_lives.j0 k y238 true)) else (worldmintlaw28_lives.j0 k y238 true)) else (worldmintlaw28_lives.j0 k y238 true)))))) = some r := h
 clear h
 obtain ⟨y226, hy226⟩ : ∃ y_ : List Int, y_ = (([0, 1] : List Int)) := ⟨_, rfl⟩
 replace H : ((some (([(⟨1, 6, y226⟩ : S45), (⟨2, 4, (([0] : List Int))⟩ : S45), (⟨3, 4, (([1] : List Int))⟩ : S45), (⟨4, 2, (([1] : List Int))⟩ : S45)] : List (S45)) : List (S45))).bind fun y238 => ((clear_Best.f 2 y238).bind fun bt241 => ((clear_Prices.f k 2 y238).bind fun bt246 => ((clear_Bound.f 2 y238 (([3, 3] : List Int))).bind fun bt253 => (if bt241.2.2 = 0 then (if bt246.2 = 0 then (if bt253.2 = 0 then (if bt241.2.1 = 8 then (if bt253.1 = 8 then ((worldmintref01_SameInts.f k bt241.1 (([1, 2] : List Int))).bind fun t258 => (if t258 = true then ((worldmintref01_SameInts.f k bt246.1 (([0, 2, 2, 0] : List Int))).bind fun t262 => (worldmintlaw28_lives.j0 k y238 (!t262))) else (worldmintlaw28_lives.j0 k y238 true))) else (worldmintlaw28_lives.j0 k y238 true)) else (worldmintlaw28_lives.j0 k y238 true)) else (worldmintlaw28_lives.j0 k y238 true)) else (worldmintlaw28_lives.j0 k y238 true)) else (worldmintlaw28_lives.j0 k y238 true)))))) = some r := by first | (rw [hy226]; with_reducible exact H) | (have H2_ := (Option.bind_some _ _).symm.trans H; rw [hy226]; with_reducible exact H2_) | (have H2_ := (Option.bind_some _ _).symm.trans H; with_reducible exact H2_) | with_reducible exact H | (rw [hy226]; exact H) | exact H
 have Ny226 := Aside0.mk hy226
 clear hy226
 obtain ⟨y229, hy229⟩ : ∃ y_ : List Int, y_ = (([0] : List Int)) := ⟨_, rfl⟩
 replace H : ((some (([(⟨1, 6, y226⟩ : S45), (⟨2, 4, y229⟩ : S45), (⟨3, 4, (([1] : List Int))⟩ : S45), (⟨4, 2, (([1] : List Int))⟩ : S45)] : List (S45)) : List (S45))).bind fun y238 => ((clear_Best.f 2 y238).bind fun bt241 => ((clear_Prices.f k 2 y238).bind fun bt246 => ((clear_Bound.f 2 y238 (([3, 3] : List Int))).bind fun bt253 => (if bt241.2.2 = 0 then (if bt246.2 = 0 then (if bt253.2 = 0 then (if bt241.2.1 = 8 then (if bt253.1 = 8 then ((worldmintref01_SameInts.f k bt241.1 (([1, 2] : List Int))).bind fun t258 => (if t258 = true then ((worldmintref01_SameInts.f k bt246.1 (([0, 2, 2, 0] : List Int))).bind fun t262 => (worldmintlaw28_lives.j0 k y238 (!t262))) else (worldmintlaw28_lives.j0 k y238 true))) else (worldmintlaw28_lives.j0 k y238 true)) else (worldmintlaw28_lives.j0 k y238 true)) else (worldmintlaw28_lives.j0 k y238 true)) else (worldmintlaw28_lives.j0 k y238 true)) else (worldmintlaw28_lives.j0 k y238 true)))))) = some r := by first | (rw [hy229]; with_reducible exact H) | (have H2_ := (Option.bind_some _ _).symm.trans H; rw [hy229]; with_reducible exact H2_) | (have H2_ := (Option.bind_some _ _).symm.trans H; with_reducible exact H2_) | with_reducible exact H | (rw [hy229]; exact H) | exact H
 have Ny229 := Aside0.mk hy229
 clear hy229
 obtain ⟨y232, hy232⟩ : ∃ y_ : List Int, y_ = (([1] : List Int)) := ⟨_, rfl⟩
 replace H : ((some (([(⟨1, 6, y226⟩ : S45), (⟨2, 4, y229⟩ : S45), (⟨3, 4, y232⟩ : S45), (⟨4, 2, (([1] : List Int))⟩ : S45)] : List (S45)) : List (S45))).bind fun y238 => ((clear_Best.f 2 y238).bind fun bt241 => ((clear_Prices.f k 2 y238).bind fun bt246 => ((clear_Bound.f 2 y238 (([3, 3] : List Int))).bind fun bt253 => (if bt241.2.2 = 0 then (if bt246.2 = 0 then (if bt253.2 = 0 then (if bt241.2.1 = 8 then (if bt253.1 = 8 then ((worldmintref01_SameInts.f k bt241.1 (([1, 2] : List Int))).bind fun t258 => (if t258 = true then ((worldmintref01_SameInts.f k bt246.1 (([0, 2, 2, 0] : List Int))).bind fun t262 => (worldmintlaw28_lives.j0 k y238 (!t262))) else (worldmintlaw28_lives.j0 k y238 true))) else (worldmintlaw28_lives.j0 k y238 true)) else (worldmintlaw28_lives.j0 k y238 true)) else (worldmintlaw28_lives.j0 k y238 true)) else (worldmintlaw28_lives.j0 k y238 true)) else (worldmintlaw28_lives.j0 k y238 true)))))) = some r := by first | (rw [hy232]; with_reducible exact H) | (have H2_ := (Option.bind_some _ _).symm.trans H; rw [hy232]; with_reducible exact H2_) | (have H2_ := (Option.bind_some _ _).symm.trans H; with_reducible exact H2_) | with_reducible exact H | (rw [hy232]; exact H) | exact H
 have Ny232 := Aside0.mk hy232
 clear hy232
 obtain ⟨y235, hy235⟩ : ∃ y_ : List Int, y_ = (([1] : List Int)) := ⟨_, rfl⟩
 replace H : ((some (([(⟨1, 6, y226⟩ : S45), (⟨2, 4, y229⟩ : S45), (⟨3, 4, y232⟩ : S45), (⟨4, 2, y235⟩ : S45)] : List (S45)) : List (S45))).bind fun y238 => ((clear_Best.f 2 y238).bind fun bt241 => ((clear_Prices.f k 2 y238).bind fun bt246 => ((clear_Bound.f 2 y238 (([3, 3] : List Int))).bind fun bt253 => (if bt241.2.2 = 0 then (if bt246.2 = 0 then (if bt253.2 = 0 then (if bt241.2.1 = 8 then (if bt253.1 = 8 then ((worldmintref01_SameInts.f k bt241.1 (([1, 2] : List Int))).bind fun t258 => (if t258 = true then ((worldmintref01_SameInts.f k bt246.1 (([0, 2, 2, 0] : List Int))).bind fun t262 => (worldmintlaw28_lives.j0 k y238 (!t262))) else (worldmintlaw28_lives.j0 k y238 true))) else (worldmintlaw28_lives.j0 k y238 true)) else (worldmintlaw28_lives.j0 k y238 true)) else (worldmintlaw28_lives.j0 k y238 true)) else (worldmintlaw28_lives.j0 k y238 true)) else (worldmintlaw28_lives.j0 k y238 true)))))) = some r := by first | (rw [hy235]; with_reducible exact H) | (have H2_ := (Option.bind_some _ _).symm.trans H; rw [hy235]; with_reducible exact H2_) | (have H2_ := (Option.bind_some _ _).symm.trans H; with_reducible exact H2_) | with_reducible exact H | (rw [hy235]; exact H) | exact H
 have Ny235 := Aside0.mk hy235
 clear hy235
 obtain ⟨y238, hy238⟩ : ∃ y_ : List (S45), y_ = (([(⟨1, 6, y226⟩ : S45), (⟨2, 4, y229⟩ : S45), (⟨3, 4, y232⟩ : S45), (⟨4, 2, y235⟩ : S45)] : List (S45))) := ⟨_, rfl⟩
 replace H : ((clear_Best.f 2 y238).bind fun bt241 => ((clear_Prices.f k 2 y238).bind fun bt246 => ((clear_Bound.f 2 y238 (([3, 3] : List Int))).bind fun bt253 => (if bt241.2.2 = 0 then (if bt246.2 = 0 then (if bt253.2 = 0 then (if bt241.2.1 = 8 then (if bt253.1 = 8 then ((worldmintref01_SameInts.f k bt241.1 (([1, 2] : List Int))).bind fun t258 => (if t258 = true then ((worldmintref01_SameInts.f k bt246.1 (([0, 2, 2, 0] : List Int))).bind fun t262 => (worldmintlaw28_lives.j0 k y238 (!t262))) else (worldmintlaw28_lives.j0 k y238 true))) else (worldmintlaw28_lives.j0 k y238 true)) else (worldmintlaw28_lives.j0 k y238 true)) else (worldmintlaw28_lives.j0 k y238 true)) else (worldmintlaw28_lives.j0 k y238 true)) else (worldmintlaw28_lives.j0 k y238 true))))) = some r := by first | (rw [hy238]; with_reducible exact H) | (have H2_ := (Option.bind_some _ _).symm.trans H; rw [hy238]; with_reducible exact H2_) | (have H2_ := (Option.bind_some _ _).symm.trans H; with_reducible exact H2_) | with_reducible exact H | (rw [hy238]; exact H) | exact H
 have Ny238 := Aside0.mk hy238
 clear hy238
 replace H := Option.bind_eq_some_iff.mp H
 obtain ⟨⟨t241, t242, t243⟩, A10, H⟩ := H
 replace H : ((clear_Prices.f k 2 y238).bind fun bt246 => ((clear_Bound.f 2 y238 (([3, 3] : List Int))).bind fun bt253 => (if t243 = 0 then (if bt246.2 = 0 then (if bt253.2 = 0 then (if t242 = 8 then (if bt253.1 = 8 then ((worldmintref01_SameInts.f k t241 (([1, 2] : List Int))).bind fun t258 => (if t258 = true then ((worldmintref01_SameInts.f k bt246.1 (([0, 2, 2, 0] : List Int))).bind fun t262 => (worldmintlaw28_lives.j0 k y238 (!t262))) else (worldmintlaw28_lives.j0 k y238 true))) else (worldmintlaw28_lives.j0 k y238 true)) else (worldmintlaw28_lives.j0 k y238 true)) else (worldmintlaw28_lives.j0 k y238 true)) else (worldmintlaw28_lives.j0 k y238 true)) else (worldmintlaw28_lives.j0 k y238 true)))) = some r := H
 have A1 := Aside0.mk A10
 clear A10
 replace H := Option.bind_eq_some_iff.mp H
 obtain ⟨⟨t246, t247⟩, A20, H⟩ := H
 replace H : ((clear_Bound.f 2 y238 (([3, 3] : List Int))).bind fun bt253 => (if t243 = 0 then (if t247 = 0 then (if bt253.2 = 0 then (if t242 = 8 then (if bt253.1 = 8 then ((worldmintref01_SameInts.f k t241 (([1, 2] : List Int))).bind fun t258 => (if t258 = true then ((worldmintref01_SameInts.f k t246 (([0, 2, 2, 0] : List Int))).bind fun t262 => (worldmintlaw28_lives.j0 k y238 (!t262))) else (worldmintlaw28_lives.j0 k y238 true))) else (worldmintlaw28_lives.j0 k y238 true)) else (worldmintlaw28_lives.j0 k y238 true)) else (worldmintlaw28_lives.j0 k y238 true)) else (worldmintlaw28_lives.j0 k y238 true)) else (worldmintlaw28_lives.j0 k y238 true))) = some r := H
 have A2 := Aside0.mk A20
 clear A20
 obtain ⟨y250, hy250⟩ : ∃ y_ : List Int, y_ = (([3, 3] : List Int)) := ⟨_, rfl⟩
 replace H : ((clear_Bound.f 2 y238 y250).bind fun bt253 => (if t243 = 0 then (if t247 = 0 then (if bt253.2 = 0 then (if t242 = 8 then (if bt253.1 = 8 then ((worldmintref01_SameInts.f k t241 (([1, 2] : List Int))).bind fun t258 => (if t258 = true then ((worldmintref01_SameInts.f k t246 (([0, 2, 2, 0] : List Int))).bind fun t262 => (worldmintlaw28_lives.j0 k y238 (!t262))) else (worldmintlaw28_lives.j0 k y238 true))) else (worldmintlaw28_lives.j0 k y238 true)) else (worldmintlaw28_lives.j0 k y238 true)) else (worldmintlaw28_lives.j0 k y238 true)) else (worldmintlaw28_lives.j0 k y238 true)) else (worldmintlaw28_lives.j0 k y238 true))) = some r := by first | (rw [hy250]; with_reducible exact H) | (have H2_ := (Option.bind_some _ _).symm.trans H; rw [hy250]; with_reducible exact H2_) | (have H2_ := (Option.bind_some _ _).symm.trans H; with_reducible exact H2_) | with_reducible exact H | (rw [hy250]; exact H) | exact H
 have Ny250 := Aside0.mk hy250
 clear hy250
 replace H := Option.bind_eq_some_iff.mp H
 obtain ⟨⟨t253, t254⟩, A30, H⟩ := H
 replace H : (if t243 = 0 then (if t247 = 0 then (if t254 = 0 then (if t242 = 8 then (if t253 = 8 then ((worldmintref01_SameInts.f k t241 (([1, 2] : List Int))).bind fun t258 => (if t258 = true then ((worldmintref01_SameInts.f k t246 (([0, 2, 2, 0] : List Int))).bind fun t262 => (worldmintlaw28_lives.j0 k y238 (!t262))) else (worldmintlaw28_lives.j0 k y238 true))) else (worldmintlaw28_lives.j0 k y238 true)) else (worldmintlaw28_lives.j0 k y238 true)) else (worldmintlaw28_lives.j0 k y238 true)) else (worldmintlaw28_lives.j0 k y238 true)) else (worldmintlaw28_lives.j0 k y238 true)) = some r := H
 have A3 := Aside0.mk A30
 clear A30
 have HC4 := Aside0.mk H
 clear H
 go_enter Try.func18, Try.ntmps18
 go_upto_region 5 with (first | ((with_reducible refine gate_dst (N := 9) rfl ?_); (try (refine gate_guard (by rfl) ?_; dsimp only)); refine Kd.R_lit (Kd.int .i64) _ 3 ?hg (N := 9) ?hd (xs := ([0, 1] : List Int)) (inner := [.int .i64 0, .int .i64 1]) (ok := fun _ => True) (okp := fun _ => True) ?hr ?hp (fun _ hk => hk) trivial (Below.refl _ _) (Nat.le_refl _) (by simp) ?_; (case hd => rfl); (case hg => rfl); (case hr => first | (go_simp; done) | (go_simp; rfl)); (case hp => exact (Reps.one (show Kd.M (Kd.int .i64) _ _ _ 0 [.int .i64 0] from rfl) (Reps.one (show Kd.M (Kd.int .i64) _ _ _ 1 [.int .i64 1] from rfl) (Reps.none _ _)))); intro v227 w5 ho6 hb hg_ hnew_; clear hg_ hnew_; (first | rw [← Ny226.out] at ho6 | (simp only [Int.reduceToNat] at ho6; rw [← Ny226.out] at ho6)); have n0_ := Aside0.mk (Kd.R_lower ho6 (below_size (by repeat (first | (with_reducible first | exact HB.out | apply below_alloc | apply pw_below_drewN | apply below_drew1) | exact HB.out)))); have n1_ := Aside0.mk (below_step (by repeat (first | (with_reducible first | exact HB.out | apply below_alloc | apply pw_below_drewN | apply below_drew1) | exact HB.out)) hb); clear HB; have HO228 := n0_; have HB := n1_; clear n0_ n1_; clear hb ho6; obtain ⟨Ao7, co7, eo7⟩ := Kd.R_slice HO228.out; subst eo7) | ((with_reducible refine gate_dst (N := 11) rfl ?_); (try (refine gate_guard (by rfl) ?_; dsimp only)); refine Kd.R_lit (Kd.int .i64) _ 3 ?hg (N := 11) ?hd (xs := ([0] : List Int)) (inner := [.int .i64 0]) (ok := fun _ => True) (okp := fun _ => True) ?hr ?hp (fun _ hk => hk) trivial (Below.refl _ _) (Nat.le_refl _) (by simp) ?_; (case hd => rfl); (case hg => rfl); (case hr => first | (go_simp; done) | (go_simp; rfl)); (case hp => exact (Reps.one (show Kd.M (Kd.int .i64) _ _ _ 0 [.int .i64 0] from rfl) (Reps.none _ _))); intro v230 w8 ho9 hb hg_ hnew_; clear hg_ hnew_; (first | rw [← Ny229.out] at ho9 | (simp only [Int.reduceToNat] at ho9; rw [← Ny229.out] at ho9)); have n0_ := Aside0.mk (Kd.R_elder' (by (with_reducible repeat (first | apply Kd.R_alloc | apply Kd.R_drewN | apply Kd.R_drew)); exact HO228.out) (Kd.R_base ho9) hb); have n1_ := Aside0.mk (Kd.R_lower (Kd.R_new' ho9 (Kd.R_lt (by (with_reducible repeat (first | apply Kd.R_alloc | apply Kd.R_drewN | apply Kd.R_drew)); exact HO228.out))) (below_size (by repeat (first | (with_reducible first | exact HB.out | apply below_alloc | apply pw_below_drewN | apply below_drew1) | exact HB.out)))); have n2_ := Aside0.mk (below_step (by repeat (first | (with_reducible first | exact HB.out | apply below_alloc | apply pw_below_drewN | apply below_drew1) | exact HB.out)) hb); clear HO228; clear HB; have HO228 := n0_; have HO231 := n1_; have HB := n2_; clear n0_ n1_ n2_; clear hb ho9; obtain ⟨Ao10, co10, eo10⟩ := Kd.R_slice HO231.out; subst eo10) | ((with_reducible refine gate_dst (N := 13) rfl ?_); (try (refine gate_guard (by rfl) ?_; dsimp only)); refine Kd.R_lit (Kd.int .i64) _ 3 ?hg (N := 13) ?hd (xs := ([1] : List Int)) (inner := [.int .i64 1]) (ok := fun _ => True) (okp := fun _ => True) ?hr ?hp (fun _ hk => hk) trivial (Below.refl _ _) (Nat.le_refl _) (by simp) ?_; (case hd => rfl); (case hg => rfl); (case hr => first | (go_simp; done) | (go_simp; rfl)); (case hp => exact (Reps.one (show Kd.M (Kd.int .i64) _ _ _ 1 [.int .i64 1] from rfl) (Reps.none _ _))); intro v233 w11 ho12 hb hg_ hnew_; clear hg_ hnew_; (first | rw [← Ny232.out] at ho12 | (simp only [Int.reduceToNat] at ho12; rw [← Ny232.out] at ho12)); have n0_ := Aside0.mk (Kd.R_elder' (by (with_reducible repeat (first | apply Kd.R_alloc | apply Kd.R_drewN | apply Kd.R_drew)); exact HO228.out) (Kd.R_base ho12) hb); have n1_ := Aside0.mk (Kd.R_elder' (by (with_reducible repeat (first | apply Kd.R_alloc | apply Kd.R_drewN | apply Kd.R_drew)); exact HO231.out) (Kd.R_base ho12) hb); have n2_ := Aside0.mk (Kd.R_lower (Kd.R_new' (Kd.R_new' ho12 (Kd.R_lt (by (with_reducible repeat (first | apply Kd.R_alloc | apply Kd.R_drewN | apply Kd.R_drew)); exact HO228.out))) (Kd.R_lt (by (with_reducible repeat (first | apply Kd.R_alloc | apply Kd.R_drewN | apply Kd.R_drew)); exact HO231.out))) (below_size (by repeat (first | (with_reducible first | exact HB.out | apply below_alloc | apply pw_below_drewN | apply below_drew1) | exact HB.out)))); have n3_ := Aside0.mk (below_step (by repeat (first | (with_reducible first | exact HB.out | apply below_alloc | apply pw_below_drewN | apply below_drew1) | exact HB.out)) hb); clear HO228; clear HO231; clear HB; have HO228 := n0_; have HO231 := n1_; have HO234 := n2_; have HB := n3_; clear n0_ n1_ n2_ n3_; clear hb ho12; obtain ⟨Ao13, co13, eo13⟩ := Kd.R_slice HO234.out; subst eo13) | ((with_reducible refine gate_dst (N := 15) rfl ?_); (try (refine gate_guard (by rfl) ?_; dsimp only)); refine Kd.R_lit (Kd.int .i64) _ 3 ?hg (N := 15) ?hd (xs := ([1] : List Int)) (inner := [.int .i64 1]) (ok := fun _ => True) (okp := fun _ => True) ?hr ?hp (fun _ hk => hk) trivial (Below.refl _ _) (Nat.le_refl _) (by simp) ?_; (case hd => rfl); (case hg => rfl); (case hr => first | (go_simp; done) | (go_simp; rfl)); (case hp => exact (Reps.one (show Kd.M (Kd.int .i64) _ _ _ 1 [.int .i64 1] from rfl) (Reps.none _ _))); intro v236 w14 ho15 hb hg_ hnew_; clear hg_ hnew_; (first | rw [← Ny235.out] at ho15 | (simp only [Int.reduceToNat] at ho15; rw [← Ny235.out] at ho15)); have n0_ := Aside0.mk (Kd.R_elder' (by (with_reducible repeat (first | apply Kd.R_alloc | apply Kd.R_drewN | apply Kd.R_drew)); exact HO228.out) (Kd.R_base ho15) hb); have n1_ := Aside0.mk (Kd.R_elder' (by (with_reducible repeat (first | apply Kd.R_alloc | apply Kd.R_drewN | apply Kd.R_drew)); exact HO231.out) (Kd.R_base ho15) hb); have n2_ := Aside0.mk (Kd.R_elder' (by (with_reducible repeat (first | apply Kd.R_alloc | apply Kd.R_drewN | apply Kd.R_drew)); exact HO234.out) (Kd.R_base ho15) hb); have n3_ := Aside0.mk (Kd.R_lower (Kd.R_new' (Kd.R_new' (Kd.R_new' ho15 (Kd.R_lt (by (with_reducible repeat (first | apply Kd.R_alloc | apply Kd.R_drewN | apply Kd.R_drew)); exact HO228.out))) (Kd.R_lt (by (with_reducible repeat (first | apply Kd.R_alloc | apply Kd.R_drewN | apply Kd.R_drew)); exact HO231.out))) (Kd.R_lt (by (with_reducible repeat (first | apply Kd.R_alloc | apply Kd.R_drewN | apply Kd.R_drew)); exact HO234.out))) (below_size (by repeat (first | (with_reducible first | exact HB.out | apply below_alloc | apply pw_below_drewN | apply below_drew1) | exact HB.out)))); have n4_ := Aside0.mk (below_step (by repeat (first | (with_reducible first | exact HB.out | apply below_alloc | apply pw_below_drewN | apply below_drew1) | exact HB.out)) hb); clear HO228; clear HO231; clear HO234; clear HB; have HO228 := n0_; have HO231 := n1_; have HO234 := n2_; have HO237 := n3_; have HB := n4_; clear n0_ n1_ n2_ n3_ n4_; clear hb ho15; obtain ⟨Ao16, co16, eo16⟩ := Kd.R_slice HO237.out; subst eo16) | ((with_reducible refine gate_dst (N := 17) rfl ?_); (try (refine gate_guard (by rfl) ?_; dsimp only)); refine Kd.N_lit k45 _ 45 ?hg (N' := 17) ?hd (xs := ([(⟨1, 6, y226⟩ : S45), (⟨2, 4, y229⟩ : S45), (⟨3, 4, y232⟩ : S45), (⟨4, 2, y235⟩ : S45)] : List (S45))) (inner := [.int .i64 1, .int .i64 6, .slice Ao7 y226.length co7, .int .i64 2, .int .i64 4, .slice Ao10 y229.length co10, .int .i64 3, .int .i64 4, .slice Ao13 y232.length co13, .int .i64 4, .int .i64 2, .slice Ao16 y235.length co16]) (ok := (fun _ => True)) (okp := (fun _ => True)) ?hr ?hp (fun _ hk => hk) ((show ∀ k_, w14.heap.size ≤ k_ → (fun _ => True) k_ from fun k_ hk => trivial) _ (Nat.le_refl _)) (Below.refl _ _) (Nat.le_refl _) (by simp) ?_; (case hd => rfl); (case hg => rfl); (case hr => first | (go_simp; done) | (go_simp; rfl)); (case hp => exact (Reps.c3 (show Kd.FK k45 _ _ (⟨1, 6, y226⟩ : S45) [.int .i64 1, .int .i64 6, .slice Ao7 y226.length co7] from (k45_mkF _ _ (⟨1, 6, y226⟩ : S45) (Kd.R_reads' (Kd.R_mono (ok' := (fun _ => True)) (HO228.out) (fun k_ hk => trivial))).2.1 (Kd.R_F (Kd.R_mono (ok' := (fun _ => True)) (HO228.out) (fun k_ hk => trivial))))) (Reps.c3 (show Kd.FK k45 _ _ (⟨2, 4, y229⟩ : S45) [.int .i64 2, .int .i64 4, .slice Ao10 y229.length co10] from (k45_mkF _ _ (⟨2, 4, y229⟩ : S45) (Kd.R_reads' (Kd.R_mono (ok' := (fun _ => True)) (HO231.out) (fun k_ hk => trivial))).2.1 (Kd.R_F (Kd.R_mono (ok' := (fun _ => True)) (HO231.out) (fun k_ hk => trivial))))) (Reps.c3 (show Kd.FK k45 _ _ (⟨3, 4, y232⟩ : S45) [.int .i64 3, .int .i64 4, .slice Ao13 y232.length co13] from (k45_mkF _ _ (⟨3, 4, y232⟩ : S45) (Kd.R_reads' (Kd.R_mono (ok' := (fun _ => True)) (HO234.out) (fun k_ hk => trivial))).2.1 (Kd.R_F (Kd.R_mono (ok' := (fun _ => True)) (HO234.out) (fun k_ hk => trivial))))) (Reps.c3 (show Kd.FK k45 _ _ (⟨4, 2, y235⟩ : S45) [.int .i64 4, .int .i64 2, .slice Ao16 y235.length co16] from (k45_mkF _ _ (⟨4, 2, y235⟩ : S45) (Kd.R_reads' (Kd.R_mono (ok' := (fun _ => True)) (HO237.out) (fun k_ hk => trivial))).2.1 (Kd.R_F (Kd.R_mono (ok' := (fun _ => True)) (HO237.out) (fun k_ hk => trivial))))) (Reps.none _ _)))))); intro v239 w17 ho18 hb hg_ hnew_; clear hg_ hnew_; (first | rw [← Ny238.out] at ho18 | (simp only [Int.reduceToNat] at ho18; rw [← Ny238.out] at ho18)); have n0_ := Aside0.mk (Kd.N_lower ho18 (below_size (by repeat (first | (with_reducible first | exact HB.out | apply below_alloc | apply pw_below_drewN | apply below_drew1) | exact HB.out)))); have n1_ := Aside0.mk (below_step (by repeat (first | (with_reducible first | exact HB.out | apply below_alloc | apply pw_below_drewN | apply below_drew1) | exact HB.out)) hb); clear HB; clear HO228; clear HO231; clear HO234; clear HO237; have HO240 := n0_; have HB := n1_; clear n0_ n1_; clear hb ho18; obtain ⟨Ao19, co19, eo19⟩ := Kd.N_slice HO240.out; subst eo19) | ((with_reducible refine gate_callee (f := 24) rfl ?_); refine goesL_ (some 20) rfl rfl Try.func24 (by kernel_rfl) rfl #[.int .i64 2, .slice Ao19 y238.length co19] rfl (by (try simp only [List.map_toArray, List.map_cons, List.map_nil]); first | done | rfl | (simp only [List.length_drop, List.length_take]; rfl)) ?_; (with_reducible refine (clear_Best.calls 2 _ _ y238 t241 t242 t243 _ ?side1 ?side2 A1.out).mono ?_); (case side1 => repeat (first | exact (Kd.N_reads' HO240.out).2.2 | (with_reducible refine Kd.C_alloc ?_ _) | (with_reducible refine Kd.C_drewN ?_ _) | (with_reducible refine Kd.C_drew ?_))); (case side2 => exact (Kd.N_reads' HO240.out).2.1); rintro e w20 ⟨v244, rfl, ho0, hb⟩; refine ⟨_, rfl, ?_⟩; have n0_ := Aside0.mk (Kd.N_elder' (by (with_reducible repeat (first | apply Kd.N_alloc | apply Kd.N_drewN | apply Kd.N_drew)); exact HO240.out) (Kd.R_base ho0) hb); have n1_ := Aside0.mk (Kd.R_lower ho0 (below_size (by repeat (first | (with_reducible first | exact HB.out | apply below_alloc | apply pw_below_drewN | apply below_drew1) | exact HB.out)))); have n2_ := Aside0.mk (below_step (by repeat (first | (with_reducible first | exact HB.out | apply below_alloc | apply pw_below_drewN | apply below_drew1) | exact HB.out)) hb); clear HO240; clear HB; have HO240 := n0_; have HO245 := n1_; have HB := n2_; clear n0_ n1_ n2_; (try clear hb); (try clear hb2); (try clear hk); (try clear hi); (try clear ho0)) | ((with_reducible refine gate_callee (f := 14) rfl ?_); refine goesL_ (some 26) rfl rfl Try.func14 (by kernel_rfl) rfl #[.int .i64 2, .slice Ao19 y238.length co19] rfl (by (try simp only [List.map_toArray, List.map_cons, List.map_nil]); first | done | rfl | (simp only [List.length_drop, List.length_take]; rfl)) ?_; (with_reducible refine (clear_Prices.calls k 2 _ _ y238 t246 t247 _ ?side1 ?side2 A2.out).mono ?_); (case side1 => repeat (first | exact (Kd.N_reads' HO240.out).2.2 | (with_reducible refine Kd.C_alloc ?_ _) | (with_reducible refine Kd.C_drewN ?_ _) | (with_reducible refine Kd.C_drew ?_))); (case side2 => exact (Kd.N_reads' HO240.out).2.1); rintro e w21 ⟨v248, rfl, ho0, hb⟩; refine ⟨_, rfl, ?_⟩; have n0_ := Aside0.mk (Kd.N_elder' (by (with_reducible repeat (first | apply Kd.N_alloc | apply Kd.N_drewN | apply Kd.N_drew)); exact HO240.out) (Kd.R_base ho0) hb); have n1_ := Aside0.mk (Kd.R_elder' (by (with_reducible repeat (first | apply Kd.R_alloc | apply Kd.R_drewN | apply Kd.R_drew)); exact HO245.out) (Kd.R_base ho0) hb); have n2_ := Aside0.mk (Kd.R_lower (Kd.R_new' ho0 (Kd.R_lt (by (with_reducible repeat (first | apply Kd.R_alloc | apply Kd.R_drewN | apply Kd.R_drew)); exact HO245.out))) (below_size (by repeat (first | (with_reducible first | exact HB.out | apply below_alloc | apply pw_below_drewN | apply below_drew1) | exact HB.out)))); have n3_ := Aside0.mk (below_step (by repeat (first | (with_reducible first | exact HB.out | apply below_alloc | apply pw_below_drewN | apply below_drew1) | exact HB.out)) hb); clear HO240; clear HO245; clear HB; have HO240 := n0_; have HO245 := n1_; have HO249 := n2_; have HB := n3_; clear n0_ n1_ n2_ n3_; (try clear hb); (try clear hb2); (try clear hk); (try clear hi); (try clear ho0)) | ((with_reducible refine gate_dst (N := 31) rfl ?_); (try (refine gate_guard (by rfl) ?_; dsimp only)); refine Kd.R_lit (Kd.int .i64) _ 3 ?hg (N := 31) ?hd (xs := ([3, 3] : List Int)) (inner := [.int .i64 3, .int .i64 3]) (ok := fun _ => True) (okp := fun _ => True) ?hr ?hp (fun _ hk => hk) trivial (Below.refl _ _) (Nat.le_refl _) (by simp) ?_; (case hd => rfl); (case hg => rfl); (case hr => first | (go_simp; done) | (go_simp; rfl)); (case hp => exact (Reps.one (show Kd.M (Kd.int .i64) _ _ _ 3 [.int .i64 3] from rfl) (Reps.one (show Kd.M (Kd.int .i64) _ _ _ 3 [.int .i64 3] from rfl) (Reps.none _ _)))); intro v251 w22 ho23 hb hg_ hnew_; clear hg_ hnew_; (first | rw [← Ny250.out] at ho23 | (simp only [Int.reduceToNat] at ho23; rw [← Ny250.out] at ho23)); have n0_ := Aside0.mk (Kd.N_elder' (by (with_reducible repeat (first | apply Kd.N_alloc | apply Kd.N_drewN | apply Kd.N_drew)); exact HO240.out) (Kd.R_base ho23) hb); have n1_ := Aside0.mk (Kd.R_elder' (by (with_reducible repeat (first | apply Kd.R_alloc | apply Kd.R_drewN | apply Kd.R_drew)); exact HO245.out) (Kd.R_base ho23) hb); have n2_ := Aside0.mk (Kd.R_elder' (by (with_reducible repeat (first | apply Kd.R_alloc | apply Kd.R_drewN | apply Kd.R_drew)); exact HO249.out) (Kd.R_base ho23) hb); have n3_ := Aside0.mk (Kd.R_lower (Kd.R_new' (Kd.R_new' ho23 (Kd.R_lt (by (with_reducible repeat (first | apply Kd.R_alloc | apply Kd.R_drewN | apply Kd.R_drew)); exact HO245.out))) (Kd.R_lt (by (with_reducible repeat (first | apply Kd.R_alloc | apply Kd.R_drewN | apply Kd.R_drew)); exact HO249.out))) (below_size (by repeat (first | (with_reducible first | exact HB.out | apply below_alloc | apply pw_below_drewN | apply below_drew1) | exact HB.out)))); have n4_ := Aside0.mk (below_step (by repeat (first | (with_reducible first | exact HB.out | apply below_alloc | apply pw_below_drewN | apply below_drew1) | exact HB.out)) hb); clear HO240; clear HO245; clear HO249; clear HB; have HO240 := n0_; have HO245 := n1_; have HO249 := n2_; have HO252 := n3_; have HB := n4_; clear n0_ n1_ n2_ n3_ n4_; clear hb ho23; obtain ⟨Ao24, co24, eo24⟩ := Kd.R_slice HO252.out; subst eo24) | ((with_reducible refine gate_callee (f := 21) rfl ?_); refine goesL_ (some 32) rfl rfl Try.func21 (by kernel_rfl) rfl #[.int .i64 2, .slice Ao19 y238.length co19, .slice Ao24 y250.length co24] rfl (by (try simp only [List.map_toArray, List.map_cons, List.map_nil]); first | done | rfl | (simp only [List.length_drop, List.length_take]; rfl)) ?_; (with_reducible refine (clear_Bound.calls 2 _ _ y238 _ _ y250 t253 t254 _ ?side1 ?side2 ?side3 ?side4 A3.out).mono ?_); (case side1 => repeat (first | exact (Kd.N_reads' HO240.out).2.2 | (with_reducible refine Kd.C_alloc ?_ _) | (with_reducible refine Kd.C_drewN ?_ _) | (with_reducible refine Kd.C_drew ?_))); (case side2 => exact (Kd.N_reads' HO240.out).2.1); (case side3 => repeat (first | exact (Kd.R_reads' HO252.out).2.2 | (with_reducible refine Kd.C_alloc ?_ _) | (with_reducible refine Kd.C_drewN ?_ _) | (with_reducible refine Kd.C_drew ?_))); (case side4 => exact (Kd.R_reads' HO252.out).2.1); rintro e w25 ⟨rfl, hb⟩; refine ⟨_, rfl, ?_⟩; have n0_ := Aside0.mk (Kd.N_below (by (with_reducible repeat (first | apply Kd.N_alloc | apply Kd.N_drewN | apply Kd.N_drew)); exact HO240.out) hb); have n1_ := Aside0.mk (Kd.R_below (by (with_reducible repeat (first | apply Kd.R_alloc | apply Kd.R_drewN | apply Kd.R_drew)); exact HO245.out) hb); have n2_ := Aside0.mk (Kd.R_below (by (with_reducible repeat (first | apply Kd.R_alloc | apply Kd.R_drewN | apply Kd.R_drew)); exact HO249.out) hb); have n3_ := Aside0.mk (Kd.R_below (by (with_reducible repeat (first | apply Kd.R_alloc | apply Kd.R_drewN | apply Kd.R_drew)); exact HO252.out) hb); have n4_ := Aside0.mk (below_step (by repeat (first | (with_reducible first | exact HB.out | apply below_alloc | apply pw_below_drewN | apply below_drew1) | exact HB.out)) hb); clear HO240; clear HO245; clear HO249; clear HO252; clear HB; have HO240 := n0_; have HO245 := n1_; have HO249 := n2_; have HO252 := n3_; have HB := n4_; clear n0_ n1_ n2_ n3_ n4_; (try clear hb); (try clear hb2); (try clear hk); (try clear hi)))
 (try simp only [Act.put, List.setIfInBounds_toArray, List.set_cons_zero, List.set_cons_succ])
 go_cut [64] (fun v64 wc => ∃ (kq : Nat) (x64_3 : Bool), v64 = .bool x64_3 ∧ Aside0 (worldmintlaw28_lives.j0 kq y238 x64_3 = some r) ∧ Aside0 (kq ≤ k) ∧ Aside0 (Kd.N k45 45 wc w.heap.size (fun _ => True) (.slice Ao19 y238.length co19) y238) ∧ Aside0 (Below w.heap.size w wc))
 case first =>
  have H := HC4.out
  clear HC4
  by_cases c26 : t243 = 0
  ·rw [if_pos c26] at H
   have c26b0 : (t243 == 0) = true := beq_iff_eq.mpr c26
   have c26b1 : (t243 != 0) = false := bne_eq_false_iff_eq.mpr c26
   clear c26
   (first | rw [c26b0] | (simp only [i64_w, i32_w]; rw [c26b0]) | skip)
   by_cases c27 : t247 = 0
   ·rw [if_pos c27] at H
    have c27b0 : (t247 == 0) = true := beq_iff_eq.mpr c27
    have c27b1 : (t247 != 0) = false := bne_eq_false_iff_eq.mpr c27
    clear c27
    by_cases c28 : t254 = 0
    ·rw [if_pos c28] at H
     have c28b0 : (t254 == 0) = true := beq_iff_eq.mpr c28
     have c28b1 : (t254 != 0) = false := bne_eq_false_iff_eq.mpr c28
     clear c28
     by_cases c29 : t242 = 8
     ·rw [if_pos c29] at H
      have c29b0 : (t242 == 8) = true := beq_iff_eq.mpr c29
      have c29b1 : (t242 != 8) = false := bne_eq_false_iff_eq.mpr c29
      clear c29
      by_cases c30 : t253 = 8
      ·rw [if_pos c30] at H
       have c30b0 : (t253 == 8) = true := beq_iff_eq.mpr c30
       have c30b1 : (t253 != 8) = false := bne_eq_false_iff_eq.mpr c30
       clear c30
       obtain ⟨y255, hy255⟩ : ∃ y_ : List Int, y_ = (([1, 2] : List Int)) := ⟨_, rfl⟩
       replace H : ((worldmintref01_SameInts.f k t241 y255).bind fun t258 => (if t258 = true then ((worldmintref01_SameInts.f k t246 (([0, 2, 2, 0] : List Int))).bind fun t262 => (worldmintlaw28_lives.j0 k y238 (!t262))) else (worldmintlaw28_lives.j0 k y238 true))) = some r := by first | (rw [hy255]; with_reducible exact H) | (have H2_ := (Option.bind_some _ _).symm.trans H; rw [hy255]; with_reducible exact H2_) | (have H2_ := (Option.bind_some _ _).symm.trans H; with_reducible exact H2_) | with_reducible exact H | (rw [hy255]; exact H) | exact H
       have Ny255 := Aside0.mk hy255
       clear hy255
       replace H := Option.bind_eq_some_iff.mp H
       obtain ⟨t258, A310, H⟩ := H
       replace H : (if t258 = true then ((worldmintref01_SameInts.f k t246 (([0, 2, 2, 0] : List Int))).bind fun t262 => (worldmintlaw28_lives.j0 k y238 (!t262))) else (worldmintlaw28_lives.j0 k y238 true)) = some r := H
       have A31 := Aside0.mk A310
       clear A310
       by_cases c32 : t258 = true
       ·subst c32
        have H1 : ((worldmintref01_SameInts.f k t246 (([0, 2, 2, 0] : List Int))).bind fun t262 => (worldmintlaw28_lives.j0 k y238 (!t262))) = some r := by rw [if_pos rfl] at H; exact H
        clear H
        have H := H1
        clear H1
        obtain ⟨y259, hy259⟩ : ∃ y_ : List Int, y_ = (([0, 2, 2, 0] : List Int)) := ⟨_, rfl⟩
        replace H : ((worldmintref01_SameInts.f k t246 y259).bind fun t262 => (worldmintlaw28_lives.j0 k y238 (!t262))) = some r := by first | (rw [hy259]; with_reducible exact H) | (have H2_ := (Option.bind_some _ _).symm.trans H; rw [hy259]; with_reducible exact H2_) | (have H2_ := (Option.bind_some _ _).symm.trans H; with_reducible exact H2_) | with_reducible exact H | (rw [hy259]; exact H) | exact H
        have Ny259 := Aside0.mk hy259
        clear hy259
        replace H := Option.bind_eq_some_iff.mp H
        obtain ⟨t262, A330, H⟩ := H
        replace H : (worldmintlaw28_lives.j0 k y238 (!t262)) = some r := H
        have A33 := Aside0.mk A330
        clear A330
        have H' := Aside0.mk H
        clear H
        go_wp2_with (first | ((with_reducible refine gate_dst (N := 55) rfl ?_); (try (refine gate_guard (by rfl) ?_; dsimp only)); refine Kd.R_lit (Kd.int .i64) _ 3 ?hg (N := 55) ?hd (xs := ([1, 2] : List Int)) (inner := [.int .i64 1, .int .i64 2]) (ok := fun _ => True) (okp := fun _ => True) ?hr ?hp (fun _ hk => hk) trivial (Below.refl _ _) (Nat.le_refl _) (by simp) ?_; (case hd => rfl); (case hg => rfl); (case hr => first | (go_simp; done) | (go_simp; rfl)); (case hp => exact (Reps.one (show Kd.M (Kd.int .i64) _ _ _ 1 [.int .i64 1] from rfl) (Reps.one (show Kd.M (Kd.int .i64) _ _ _ 2 [.int .i64 2] from rfl) (Reps.none _ _)))); intro v256 w34 ho35 hb hg_ hnew_; clear hg_ hnew_; (first | rw [← Ny255.out] at ho35 | (simp only [Int.reduceToNat] at ho35; rw [← Ny255.out] at ho35)); have n0_ := Aside0.mk (Kd.N_elder' (by (with_reducible repeat (first | apply Kd.N_alloc | apply Kd.N_drewN | apply Kd.N_drew)); exact HO240.out) (Kd.R_base ho35) hb); have n1_ := Aside0.mk (Kd.R_elder' (by (with_reducible repeat (first | apply Kd.R_alloc | apply Kd.R_drewN | apply Kd.R_drew)); exact HO245.out) (Kd.R_base ho35) hb); have n2_ := Aside0.mk (Kd.R_elder' (by (with_reducible repeat (first | apply Kd.R_alloc | apply Kd.R_drewN | apply Kd.R_drew)); exact HO249.out) (Kd.R_base ho35) hb); have n3_ := Aside0.mk (Kd.R_elder' (by (with_reducible repeat (first | apply Kd.R_alloc | apply Kd.R_drewN | apply Kd.R_drew)); exact HO252.out) (Kd.R_base ho35) hb); have n4_ := Aside0.mk (Kd.R_lower (Kd.R_new' (Kd.R_new' (Kd.R_new' ho35 (Kd.R_lt (by (with_reducible repeat (first | apply Kd.R_alloc | apply Kd.R_drewN | apply Kd.R_drew)); exact HO245.out))) (Kd.R_lt (by (with_reducible repeat (first | apply Kd.R_alloc | apply Kd.R_drewN | apply Kd.R_drew)); exact HO249.out))) (Kd.R_lt (by (with_reducible repeat (first | apply Kd.R_alloc | apply Kd.R_drewN | apply Kd.R_drew)); exact HO252.out))) (below_size (by repeat (first | (with_reducible first | exact HB.out | apply below_alloc | apply pw_below_drewN | apply below_drew1) | exact HB.out)))); have n5_ := Aside0.mk (below_step (by repeat (first | (with_reducible first | exact HB.out | apply below_alloc | apply pw_below_drewN | apply below_drew1) | exact HB.out)) hb); clear HO240; clear HO245; clear HO249; clear HO252; clear HB; have HO240 := n0_; have HO245 := n1_; have HO249 := n2_; have HO252 := n3_; have HO257 := n4_; have HB := n5_; clear n0_ n1_ n2_ n3_ n4_ n5_; clear hb ho35; obtain ⟨Ao36, co36, eo36⟩ := Kd.R_slice HO245.out; subst eo36; obtain ⟨Ao37, co37, eo37⟩ := Kd.R_slice HO257.out; subst eo37) | (go_at_call 17; (with_reducible refine (worldmintref01_SameInts.calls k _ _ t241 _ _ y255 true _ ?side1 ?side2 ?side3 ?side4 A31.out).mono ?_); (case side1 => repeat (first | exact (Kd.R_reads' HO245.out).2.2 | (with_reducible refine Kd.C_alloc ?_ _) | (with_reducible refine Kd.C_drewN ?_ _) | (with_reducible refine Kd.C_drew ?_))); (case side2 => exact (Kd.R_reads' HO245.out).2.1); (case side3 => repeat (first | exact (Kd.R_reads' HO257.out).2.2 | (with_reducible refine Kd.C_alloc ?_ _) | (with_reducible refine Kd.C_drewN ?_ _) | (with_reducible refine Kd.C_drew ?_))); (case side4 => exact (Kd.R_reads' HO257.out).2.1); rintro e w' ⟨rfl, ⟨nd, rfl⟩⟩) | ((with_reducible refine gate_dst (N := 61) rfl ?_); (try (refine gate_guard (by rfl) ?_; dsimp only)); refine Kd.R_lit (Kd.int .i64) _ 3 ?hg (N := 61) ?hd (xs := ([0, 2, 2, 0] : List Int)) (inner := [.int .i64 0, .int .i64 2, .int .i64 2, .int .i64 0]) (ok := fun _ => True) (okp := fun _ => True) ?hr ?hp (fun _ hk => hk) trivial (Below.refl _ _) (Nat.le_refl _) (by simp) ?_; (case hd => rfl); (case hg => rfl); (case hr => first | (go_simp; done) | (go_simp; rfl)); (case hp => exact (Reps.one (show Kd.M (Kd.int .i64) _ _ _ 0 [.int .i64 0] from rfl) (Reps.one (show Kd.M (Kd.int .i64) _ _ _ 2 [.int .i64 2] from rfl) (Reps.one (show Kd.M (Kd.int .i64) _ _ _ 2 [.int .i64 2] from rfl) (Reps.one (show Kd.M (Kd.int .i64) _ _ _ 0 [.int .i64 0] from rfl) (Reps.none _ _)))))); intro v260 w38 ho39 hb hg_ hnew_; clear hg_ hnew_; (first | rw [← Ny259.out] at ho39 | (simp only [Int.reduceToNat] at ho39; rw [← Ny259.out] at ho39)); have n0_ := Aside0.mk (Kd.N_elder' (by (with_reducible repeat (first | apply Kd.N_alloc | apply Kd.N_drewN | apply Kd.N_drew)); exact HO240.out) (Kd.R_base ho39) hb); have n1_ := Aside0.mk (Kd.R_elder' (by (with_reducible repeat (first | apply Kd.R_alloc | apply Kd.R_drewN | apply Kd.R_drew)); exact HO245.out) (Kd.R_base ho39) hb); have n2_ := Aside0.mk (Kd.R_elder' (by (with_reducible repeat (first | apply Kd.R_alloc | apply Kd.R_drewN | apply Kd.R_drew)); exact HO249.out) (Kd.R_base ho39) hb); have n3_ := Aside0.mk (Kd.R_elder' (by (with_reducible repeat (first | apply Kd.R_alloc | apply Kd.R_drewN | apply Kd.R_drew)); exact HO252.out) (Kd.R_base ho39) hb); have n4_ := Aside0.mk (Kd.R_elder' (by (with_reducible repeat (first | apply Kd.R_alloc | apply Kd.R_drewN | apply Kd.R_drew)); exact HO257.out) (Kd.R_base ho39) hb); have n5_ := Aside0.mk (Kd.R_lower (Kd.R_new' (Kd.R_new' (Kd.R_new' (Kd.R_new' ho39 (Kd.R_lt (by (with_reducible repeat (first | apply Kd.R_alloc | apply Kd.R_drewN | apply Kd.R_drew)); exact HO245.out))) (Kd.R_lt (by (with_reducible repeat (first | apply Kd.R_alloc | apply Kd.R_drewN | apply Kd.R_drew)); exact HO249.out))) (Kd.R_lt (by (with_reducible repeat (first | apply Kd.R_alloc | apply Kd.R_drewN | apply Kd.R_drew)); exact HO252.out))) (Kd.R_lt (by (with_reducible repeat (first | apply Kd.R_alloc | apply Kd.R_drewN | apply Kd.R_drew)); exact HO257.out))) (below_size (by repeat (first | (with_reducible first | exact HB.out | apply below_alloc | apply pw_below_drewN | apply below_drew1) | exact HB.out)))); have n6_ := Aside0.mk (below_step (by repeat (first | (with_reducible first | exact HB.out | apply below_alloc | apply pw_below_drewN | apply below_drew1) | exact HB.out)) hb); clear HO240; clear HO245; clear HO249; clear HO252; clear HO257; clear HB; have HO240 := n0_; have HO245 := n1_; have HO249 := n2_; have HO252 := n3_; have HO257 := n4_; have HO261 := n5_; have HB := n6_; clear n0_ n1_ n2_ n3_ n4_ n5_ n6_; clear hb ho39; obtain ⟨Ao40, co40, eo40⟩ := Kd.R_slice HO249.out; subst eo40; obtain ⟨Ao41, co41, eo41⟩ := Kd.R_slice HO261.out; subst eo41) | (go_at_call 17; (with_reducible refine (worldmintref01_SameInts.calls k _ _ t246 _ _ y259 t262 _ ?side1 ?side2 ?side3 ?side4 A33.out).mono ?_); (case side1 => repeat (first | exact (Kd.R_reads' HO249.out).2.2 | (with_reducible refine Kd.C_alloc ?_ _) | (with_reducible refine Kd.C_drewN ?_ _) | (with_reducible refine Kd.C_drew ?_))); (case side2 => exact (Kd.R_reads' HO249.out).2.1); (case side3 => repeat (first | exact (Kd.R_reads' HO261.out).2.2 | (with_reducible refine Kd.C_alloc ?_ _) | (with_reducible refine Kd.C_drewN ?_ _) | (with_reducible refine Kd.C_drew ?_))); (case side4 => exact (Kd.R_reads' HO261.out).2.1); rintro e w' ⟨rfl, ⟨nd, rfl⟩⟩))
        go_meet
        case rel => exact ⟨_, (!t262), (by first | rfl | (simp; done) | (simp [*]; done)), H', ⟨by first | omega | exact Nat.le_refl _⟩, ⟨by (with_reducible repeat (first | apply Kd.N_alloc | apply Kd.N_drewN | apply Kd.N_drew)); exact Kd.N_mono HO240.out (fun _ hk => trivial)⟩, ⟨by repeat (first | (with_reducible first | exact HB.out | apply below_alloc | apply pw_below_drewN | apply below_drew1) | exact HB.out)⟩⟩
       ·replace c32 := Bool.eq_false_iff.mpr c32
        subst c32
        have H1 : (worldmintlaw28_lives.j0 k y238 true) = some r := by rw [if_neg (show ¬ (false = true) by decide)] at H; exact H
        clear H
        have H := H1
        clear H1
        have H' := Aside0.mk H
        clear H
        go_wp2_with (first | ((with_reducible refine gate_dst (N := 55) rfl ?_); (try (refine gate_guard (by rfl) ?_; dsimp only)); refine Kd.R_lit (Kd.int .i64) _ 3 ?hg (N := 55) ?hd (xs := ([1, 2] : List Int)) (inner := [.int .i64 1, .int .i64 2]) (ok := fun _ => True) (okp := fun _ => True) ?hr ?hp (fun _ hk => hk) trivial (Below.refl _ _) (Nat.le_refl _) (by simp) ?_; (case hd => rfl); (case hg => rfl); (case hr => first | (go_simp; done) | (go_simp; rfl)); (case hp => exact (Reps.one (show Kd.M (Kd.int .i64) _ _ _ 1 [.int .i64 1] from rfl) (Reps.one (show Kd.M (Kd.int .i64) _ _ _ 2 [.int .i64 2] from rfl) (Reps.none _ _)))); intro v256 w42 ho43 hb hg_ hnew_; clear hg_ hnew_; (first | rw [← Ny255.out] at ho43 | (simp only [Int.reduceToNat] at ho43; rw [← Ny255.out] at ho43)); have n0_ := Aside0.mk (Kd.N_elder' (by (with_reducible repeat (first | apply Kd.N_alloc | apply Kd.N_drewN | apply Kd.N_drew)); exact HO240.out) (Kd.R_base ho43) hb); have n1_ := Aside0.mk (Kd.R_elder' (by (with_reducible repeat (first | apply Kd.R_alloc | apply Kd.R_drewN | apply Kd.R_drew)); exact HO245.out) (Kd.R_base ho43) hb); have n2_ := Aside0.mk (Kd.R_elder' (by (with_reducible repeat (first | apply Kd.R_alloc | apply Kd.R_drewN | apply Kd.R_drew)); exact HO249.out) (Kd.R_base ho43) hb); have n3_ := Aside0.mk (Kd.R_elder' (by (with_reducible repeat (first | apply Kd.R_alloc | apply Kd.R_drewN | apply Kd.R_drew)); exact HO252.out) (Kd.R_base ho43) hb); have n4_ := Aside0.mk (Kd.R_lower (Kd.R_new' (Kd.R_new' (Kd.R_new' ho43 (Kd.R_lt (by (with_reducible repeat (first | apply Kd.R_alloc | apply Kd.R_drewN | apply Kd.R_drew)); exact HO245.out))) (Kd.R_lt (by (with_reducible repeat (first | apply Kd.R_alloc | apply Kd.R_drewN | apply Kd.R_drew)); exact HO249.out))) (Kd.R_lt (by (with_reducible repeat (first | apply Kd.R_alloc | apply Kd.R_drewN | apply Kd.R_drew)); exact HO252.out))) (below_size (by repeat (first | (with_reducible first | exact HB.out | apply below_alloc | apply pw_below_drewN | apply below_drew1) | exact HB.out)))); have n5_ := Aside0.mk (below_step (by repeat (first | (with_reducible first | exact HB.out | apply below_alloc | apply pw_below_drewN | apply below_drew1) | exact HB.out)) hb); clear HO240; clear HO245; clear HO249; clear HO252; clear HB; have HO240 := n0_; have HO245 := n1_; have HO249 := n2_; have HO252 := n3_; have HO257 := n4_; have HB := n5_; clear n0_ n1_ n2_ n3_ n4_ n5_; clear hb ho43; obtain ⟨Ao44, co44, eo44⟩ := Kd.R_slice HO245.out; subst eo44; obtain ⟨Ao45, co45, eo45⟩ := Kd.R_slice HO257.out; subst eo45) | (go_at_call 17; (with_reducible refine (worldmintref01_SameInts.calls k _ _ t241 _ _ y255 false _ ?side1 ?side2 ?side3 ?side4 A31.out).mono ?_); (case side1 => repeat (first | exact (Kd.R_reads' HO245.out).2.2 | (with_reducible refine Kd.C_alloc ?_ _) | (with_reducible refine Kd.C_drewN ?_ _) | (with_reducible refine Kd.C_drew ?_))); (case side2 => exact (Kd.R_reads' HO245.out).2.1); (case side3 => repeat (first | exact (Kd.R_reads' HO257.out).2.2 | (with_reducible refine Kd.C_alloc ?_ _) | (with_reducible refine Kd.C_drewN ?_ _) | (with_reducible refine Kd.C_drew ?_))); (case side4 => exact (Kd.R_reads' HO257.out).2.1); rintro e w' ⟨rfl, ⟨nd, rfl⟩⟩))
        go_meet
        case rel => exact ⟨_, (true), (by first | rfl | (simp; done) | (simp [*]; done)), H', ⟨by first | omega | exact Nat.le_refl _⟩, ⟨by (with_reducible repeat (first | apply Kd.N_alloc | apply Kd.N_drewN | apply Kd.N_drew)); exact Kd.N_mono HO240.out (fun _ hk => trivial)⟩, ⟨by repeat (first | (with_reducible first | exact HB.out | apply below_alloc | apply pw_below_drewN | apply below_drew1) | exact HB.out)⟩⟩
      ·rw [if_neg c30] at H
       have c30b0 : (t253 == 8) = false := beq_eq_false_iff_ne.mpr c30
       have c30b1 : (t253 != 8) = true := bne_iff_ne.mpr c30
       have H' := Aside0.mk H
       clear H
       go_wp2
       go_meet
       case rel => exact ⟨_, (true), (by first | rfl | (simp; done) | (simp [*]; done)), H', ⟨by first | omega | exact Nat.le_refl _⟩, ⟨by (with_reducible repeat (first | apply Kd.N_alloc | apply Kd.N_drewN | apply Kd.N_drew)); exact Kd.N_mono HO240.out (fun _ hk => trivial)⟩, ⟨by repeat (first | (with_reducible first | exact HB.out | apply below_alloc | apply pw_below_drewN | apply below_drew1) | exact HB.out)⟩⟩
     ·rw [if_neg c29] at H
      have c29b0 : (t242 == 8) = false := beq_eq_false_iff_ne.mpr c29
      have c29b1 : (t242 != 8) = true := bne_iff_ne.mpr c29
      have H' := Aside0.mk H
      clear H
      go_wp2
      go_meet
      case rel => exact ⟨_, (true), (by first | rfl | (simp; done) | (simp [*]; done)), H', ⟨by first | omega | exact Nat.le_refl _⟩, ⟨by (with_reducible repeat (first | apply Kd.N_alloc | apply Kd.N_drewN | apply Kd.N_drew)); exact Kd.N_mono HO240.out (fun _ hk => trivial)⟩, ⟨by repeat (first | (with_reducible first | exact HB.out | apply below_alloc | apply pw_below_drewN | apply below_drew1) | exact HB.out)⟩⟩
    ·rw [if_neg c28] at H
     have c28b0 : (t254 == 0) = false := beq_eq_false_iff_ne.mpr c28
     have c28b1 : (t254 != 0) = true := bne_iff_ne.mpr c28
     have H' := Aside0.mk H
     clear H
     go_wp2
     go_meet
     case rel => exact ⟨_, (true), (by first | rfl | (simp; done) | (simp [*]; done)), H', ⟨by first | omega | exact Nat.le_refl _⟩, ⟨by (with_reducible repeat (first | apply Kd.N_alloc | apply Kd.N_drewN | apply Kd.N_drew)); exact Kd.N_mono HO240.out (fun _ hk => trivial)⟩, ⟨by repeat (first | (with_reducible first | exact HB.out | apply below_alloc | apply pw_below_drewN | apply below_drew1) | exact HB.out)⟩⟩
   ·rw [if_neg c27] at H
    have c27b0 : (t247 == 0) = false := beq_eq_false_iff_ne.mpr c27
    have c27b1 : (t247 != 0) = true := bne_iff_ne.mpr c27
    have H' := Aside0.mk H
    clear H
    go_wp2
    go_meet
    case rel => exact ⟨_, (true), (by first | rfl | (simp; done) | (simp [*]; done)), H', ⟨by first | omega | exact Nat.le_refl _⟩, ⟨by (with_reducible repeat (first | apply Kd.N_alloc | apply Kd.N_drewN | apply Kd.N_drew)); exact Kd.N_mono HO240.out (fun _ hk => trivial)⟩, ⟨by repeat (first | (with_reducible first | exact HB.out | apply below_alloc | apply pw_below_drewN | apply below_drew1) | exact HB.out)⟩⟩
  ·rw [if_neg c26] at H
   have c26b0 : (t243 == 0) = false := beq_eq_false_iff_ne.mpr c26
   have c26b1 : (t243 != 0) = true := bne_iff_ne.mpr c26
   (first | rw [c26b0] | (simp only [i64_w, i32_w]; rw [c26b0]) | skip)
   have H' := Aside0.mk H
   clear H
   go_wp2
   go_meet
   case rel => exact ⟨_, (true), (by first | rfl | (simp; done) | (simp [*]; done)), H', ⟨by first | omega | exact Nat.le_refl _⟩, ⟨by (with_reducible repeat (first | apply Kd.N_alloc | apply Kd.N_drewN | apply Kd.N_drew)); exact Kd.N_mono HO240.out (fun _ hk => trivial)⟩, ⟨by repeat (first | (with_reducible first | exact HB.out | apply below_alloc | apply pw_below_drewN | apply below_drew1) | exact HB.out)⟩⟩
 case rest =>
  clear HC4
  try clear c1
  try clear c2
  try clear p2
  try clear c3
  try clear c14
  try clear c18
  try clear c21
  try clear c24
  try clear c26
  try clear c26b0
  try clear c26b1
  try clear c27
  try clear c27b0
  try clear c27b1
  try clear c28
  try clear c28b0
  try clear c28b1
  try clear c29
  try clear c29b0
  try clear c29b1
  try clear c30
  try clear c30b0
  try clear c30b1
  try clear c32
  obtain ⟨kq, x64_3, rfl, HA, HJ3, HO_1, HB⟩ := hcut
  cases kq with
  | zero => exact absurd HA.out (by simp [worldmintlaw28_lives.j0])
  | succ kj3 =>
   have H := HA.out
   clear HA
   simp only [worldmintlaw28_lives.j0] at H
   by_cases c46 : x64_3 = true
   ·subst c46
    have H1 : (some false) = some r := by rw [if_pos rfl] at H; exact H
    clear H
    have H := H1
    clear H1
    obtain rfl := Option.some.inj H
    go_wp2
    go_ret
    exact ⟨by first | rfl | (simp [errW_none, errW_some] <;> rfl) | (simp [*, errW_none, errW_some] <;> rfl), by repeat (first | (with_reducible first | exact HB.out | apply below_alloc | apply pw_below_drewN | apply below_drew1) | exact HB.out)⟩
   ·replace c46 := Bool.eq_false_iff.mpr c46
    subst c46
    have H1 : (if 0 < (y238.length : Int) then ((clear_Best.f 2 (y238.set (0 : Int).toNat (⟨(rd_T45 y238 0).f0, 8, (rd_T45 y238 0).f2⟩ : S45))).bind fun bt264 => (if bt264.2.2 = 0 then ((worldmintref01_SameInts.f kj3 bt264.1 (([0] : List Int))).bind fun t272 => (some t272)) else (some false))) else (none)) = some r := by rw [if_neg (show ¬ (false = true) by decide)] at H; exact H
    clear H
    have H := H1
    clear H1
    by_cases c47 : 0 < (y238.length : Int)
    ·rw [if_pos c47] at H
     have c47b0 : decide (0 < (y238.length : Int)) = true := decide_eq_true c47
     have c47b1 : decide (0 < y238.length) = true := decide_eq_true (by omega)
     clear c47
     obtain ⟨y263, hy263⟩ : ∃ y_ : List (S45), y_ = (y238.set (0 : Int).toNat (⟨(rd_T45 y238 0).f0, 8, (rd_T45 y238 0).f2⟩ : S45)) := ⟨_, rfl⟩
     replace H : ((clear_Best.f 2 y263).bind fun bt264 => (if bt264.2.2 = 0 then ((worldmintref01_SameInts.f kj3 bt264.1 (([0] : List Int))).bind fun t272 => (some t272)) else (some false))) = some r := by first | (rw [hy263]; with_reducible exact H) | (have H2_ := (Option.bind_some _ _).symm.trans H; rw [hy263]; with_reducible exact H2_) | (have H2_ := (Option.bind_some _ _).symm.trans H; with_reducible exact H2_) | with_reducible exact H | (rw [hy263]; exact H) | exact H
     have Ny263 := Aside0.mk hy263
     clear hy263
     replace H := Option.bind_eq_some_iff.mp H
     obtain ⟨⟨t264, t265, t266⟩, A490, H⟩ := H
     replace H : (if t266 = 0 then ((worldmintref01_SameInts.f kj3 t264 (([0] : List Int))).bind fun t272 => (some t272)) else (some false)) = some r := H
     have A49 := Aside0.mk A490
     clear A490
     by_cases c50 : t266 = 0
     ·rw [if_pos c50] at H
      have c50b0 : (t266 == 0) = true := beq_iff_eq.mpr c50
      have c50b1 : (t266 != 0) = false := bne_eq_false_iff_eq.mpr c50
      clear c50
      obtain ⟨y269, hy269⟩ : ∃ y_ : List Int, y_ = (([0] : List Int)) := ⟨_, rfl⟩
      replace H : ((worldmintref01_SameInts.f kj3 t264 y269).bind fun t272 => (some t272)) = some r := by first | (rw [hy269]; with_reducible exact H) | (have H2_ := (Option.bind_some _ _).symm.trans H; rw [hy269]; with_reducible exact H2_) | (have H2_ := (Option.bind_some _ _).symm.trans H; with_reducible exact H2_) | with_reducible exact H | (rw [hy269]; exact H) | exact H
      have Ny269 := Aside0.mk hy269
      clear hy269
      replace H := Option.bind_eq_some_iff.mp H
      obtain ⟨t272, A510, H⟩ := H
      replace H : (some t272) = some r := H
      have A51 := Aside0.mk A510
      clear A510
      obtain rfl := Option.some.inj H
      have p48 : 0 ≤ (0 : Int) := (by omega)
      have q48 : (0 : Int) < ((y238.length : Int) : Int) := of_decide_eq_true (by first | (with_reducible assumption) | assumption)
      have qi48 : (0 < y238.length) = True := eq_true (by omega)
      obtain ⟨go48, co48, eo48, gb48, gl48, cl48, HG48⟩ := Kd.N_form HO_1.out (by omega)
      (first | cases eo48 | (injection eo48 with ea_ en_ ec_; (first | subst ea_ | (injection ea_ with ea_; subst ea_)); subst ec_; clear en_))
      have GB48 := Aside0.mk gb48
      have GG48 := Aside0.mk HG48
      clear gb48 gl48 HG48
      obtain ⟨ce48, hcl48, hM48, hcc48, hfr48⟩ := Kd.N_elem HO_1.out z45 (0 : Int) p48 q48
      obtain ⟨ua48_2, uc48_2, rfl, ul48_2, ge48_2⟩ := k45_openF hM48
      have hx48_0 : wc.cell? ⟨go48, (0 : Int).toNat * 3, none⟩ = some (.int .i64 ((rd_T45 y238 0).f0)) := hcc48 0 _ rfl
      have hx48_1 : wc.cell? ⟨go48, (0 : Int).toNat * 3 + 1, none⟩ = some (.int .i64 ((rd_T45 y238 0).f1)) := hcc48 1 _ rfl
      have hx48_2 : wc.cell? ⟨go48, (0 : Int).toNat * 3 + 2, none⟩ = some (.slice ua48_2 ((rd_T45 y238 0).f2).length uc48_2) := hcc48 2 _ rfl
      have hf48_0 : wc.frozen? ⟨go48, (0 : Int).toNat * 3, none⟩ = false := hfr48 0
      have hf48_1 : wc.frozen? ⟨go48, (0 : Int).toNat * 3 + 1, none⟩ = false := hfr48 1
      have hf48_2 : wc.frozen? ⟨go48, (0 : Int).toNat * 3 + 2, none⟩ = false := hfr48 2
      clear hcl48 hcc48 hfr48 hM48
      (try rw [show ((0 : Int)).toNat = 0 from rfl] at hx48_0)
      (try simp only [Nat.reduceMul, Nat.zero_mul, Nat.zero_add, Nat.reduceAdd] at hx48_0)
      (try rw [show ((0 : Int)).toNat = 0 from rfl] at hf48_0)
      (try simp only [Nat.reduceMul, Nat.zero_mul, Nat.zero_add, Nat.reduceAdd] at hf48_0)
      (try rw [show ((0 : Int)).toNat = 0 from rfl] at hx48_1)
      (try simp only [Nat.reduceMul, Nat.zero_mul, Nat.zero_add, Nat.reduceAdd] at hx48_1)
      (try rw [show ((0 : Int)).toNat = 0 from rfl] at hf48_1)
      (try simp only [Nat.reduceMul, Nat.zero_mul, Nat.zero_add, Nat.reduceAdd] at hf48_1)
      (try rw [show ((0 : Int)).toNat = 0 from rfl] at hx48_2)
      (try simp only [Nat.reduceMul, Nat.zero_mul, Nat.zero_add, Nat.reduceAdd] at hx48_2)
      (try rw [show ((0 : Int)).toNat = 0 from rfl] at hf48_2)
      (try simp only [Nat.reduceMul, Nat.zero_mul, Nat.zero_add, Nat.reduceAdd] at hf48_2)
      replace p48 := eq_true p48
      replace q48 := eq_true q48
      have HX52 := Aside0.mk (show Kd.N k45 45 wc w.heap.size (fun _ => True) (.slice (some ⟨go48, 0, none⟩) y238.length co19) y238 from (by (with_reducible repeat (first | apply Kd.N_alloc | apply Kd.N_drewN | apply Kd.N_drew)); exact HO_1.out))
      obtain ⟨ce52, hcl52, hM52, hcc52, hfr52⟩ := Kd.N_elem HX52.out z45 (0 : Int) (by omega) (by have h_ : (0 : Int) < ((y238.length : Int) : Int) := of_decide_eq_true (by first | (with_reducible assumption) | assumption); first | exact h_ | (have e_ := (Kd.N_reads' HO_1.out).1; omega) | simpa using h_)
      obtain ⟨ua52_2, uc52_2, rfl, ul52_2, ge52_2⟩ := k45_openF hM52
      have HP52 := Kd.N_seg HX52.out (0 : Int) (by omega) (by have h_ : (0 : Int) < ((y238.length : Int) : Int) := of_decide_eq_true (by first | (with_reducible assumption) | assumption); first | exact h_ | (have e_ := (Kd.N_reads' HO_1.out).1; omega) | simpa using h_) (seg := [.int .i64 8]) (j := 1) hcl52 hcc52 (show 2 ≤ 3 from by decide) (x' := (⟨(rd_T45 y238 0).f0, 8, (rd_T45 y238 0).f2⟩ : S45)) (k45_mkF _ _ (⟨(rd_T45 y238 0).f0, 8, (rd_T45 y238 0).f2⟩ : S45) ul52_2 ge52_2) (fun _ hk => hk)
      have hx52_1 := hcc52 1 _ rfl
      (try simp only [show (k45).sz = 3 from rfl, Nat.mul_one, Nat.add_zero] at hx52_1)
      (try rw [show ((0 : Int)).toNat = 0 from rfl] at hx52_1)
      (try simp only [Nat.reduceMul, Nat.zero_mul, Nat.zero_add, Nat.reduceAdd] at hx52_1)
      have hf52_1 := hfr52 1
      (try simp only [show (k45).sz = 3 from rfl, Nat.mul_one, Nat.add_zero] at hf52_1)
      (try rw [show ((0 : Int)).toNat = 0 from rfl] at hf52_1)
      (try simp only [Nat.reduceMul, Nat.zero_mul, Nat.zero_add, Nat.reduceAdd] at hf52_1)
      clear hcl52 hcc52 hfr52 hM52
      go_wp2_with (first | ((with_reducible refine gate_store (t := 3) (p := 67) rfl ?_); refine store_event (t := 3) (p := 67) (v := ?vo_w53) (w1 := (wc.setCell ⟨go48, 1, none⟩ (.int .i64 8))) ?hg ?ho ?hn ?hr ?_; (case ho => rfl); (case hg => rfl); (case hn => rfl); (case hr => first | (go_simp; done) | (go_simp; rfl)); intro w53 hw; have hg : wc.grownBy w53 (some go48) := (by rw [hw]; exact HP52.2); have hp_ : Kd.N k45 45 w53 w.heap.size (fun _ => True) (.slice (some ⟨go48, 0, none⟩) y238.length co19) y263 := (by rw [hw, Ny263.out]; exact HP52.1); clear HP52; have n0_ := Aside0.mk (hp_); have n1_ := Aside0.mk ((by rw [hw]; exact below_set (HB.out) GB48.out : Below w.heap.size w w53)); clear HO_1; clear HB; have HO_1 := n0_; have HB := n1_; clear n0_ n1_; clear hg hw hp_) | ((with_reducible refine gate_callee (f := 24) rfl ?_); refine goesL_ (some 70) rfl rfl Try.func24 (by kernel_rfl) rfl #[.int .i64 2, .slice (some ⟨go48, 0, none⟩) y263.length co19] rfl (by (try simp only [List.map_toArray, List.map_cons, List.map_nil]); first | done | (rw [show y263.length = y238.length from (Kd.N_reads' HO_1.out).1.symm] <;> rfl) | rfl | (simp only [List.length_drop, List.length_take]; rfl)) ?_; (with_reducible refine (clear_Best.calls 2 _ _ y263 t264 t265 t266 _ ?side1 ?side2 A49.out).mono ?_); (case side1 => repeat (first | exact (Kd.N_reads' HO_1.out).2.2 | (with_reducible refine Kd.C_alloc ?_ _) | (with_reducible refine Kd.C_drewN ?_ _) | (with_reducible refine Kd.C_drew ?_))); (case side2 => rw [show y263.length = y238.length from (Kd.N_reads' HO_1.out).1.symm]; exact (Kd.N_reads' HO_1.out).2.1); rintro e w54 ⟨v267, rfl, ho0, hb⟩; refine ⟨_, rfl, ?_⟩; have n0_ := Aside0.mk (Kd.N_elder' (by (with_reducible repeat (first | apply Kd.N_alloc | apply Kd.N_drewN | apply Kd.N_drew)); exact HO_1.out) (Kd.R_base ho0) hb); have n1_ := Aside0.mk (Kd.R_lower ho0 (below_size (by repeat (first | (with_reducible first | exact HB.out | apply below_alloc | apply pw_below_drewN | apply below_drew1) | exact HB.out)))); have n2_ := Aside0.mk (below_step (by repeat (first | (with_reducible first | exact HB.out | apply below_alloc | apply pw_below_drewN | apply below_drew1) | exact HB.out)) hb); clear HO_1; clear HB; have HO_1 := n0_; have HO268 := n1_; have HB := n2_; clear n0_ n1_ n2_; (try clear hb); (try clear hb2); (try clear hk); (try clear hi); (try clear ho0)) | ((with_reducible refine gate_dst (N := 78) rfl ?_); (try (refine gate_guard (by rfl) ?_; dsimp only)); refine Kd.R_lit (Kd.int .i64) _ 3 ?hg (N := 78) ?hd (xs := ([0] : List Int)) (inner := [.int .i64 0]) (ok := fun _ => True) (okp := fun _ => True) ?hr ?hp (fun _ hk => hk) trivial (Below.refl _ _) (Nat.le_refl _) (by simp) ?_; (case hd => rfl); (case hg => rfl); (case hr => first | (go_simp; done) | (go_simp; rfl)); (case hp => exact (Reps.one (show Kd.M (Kd.int .i64) _ _ _ 0 [.int .i64 0] from rfl) (Reps.none _ _))); intro v270 w55 ho56 hb hg_ hnew_; clear hg_ hnew_; (first | rw [← Ny269.out] at ho56 | (simp only [Int.reduceToNat] at ho56; rw [← Ny269.out] at ho56)); have n0_ := Aside0.mk (Kd.N_elder' (by (with_reducible repeat (first | apply Kd.N_alloc | apply Kd.N_drewN | apply Kd.N_drew)); exact HO_1.out) (Kd.R_base ho56) hb); have n1_ := Aside0.mk (Kd.R_elder' (by (with_reducible repeat (first | apply Kd.R_alloc | apply Kd.R_drewN | apply Kd.R_drew)); exact HO268.out) (Kd.R_base ho56) hb); have n2_ := Aside0.mk (Kd.R_lower (Kd.R_new' ho56 (Kd.R_lt (by (with_reducible repeat (first | apply Kd.R_alloc | apply Kd.R_drewN | apply Kd.R_drew)); exact HO268.out))) (below_size (by repeat (first | (with_reducible first | exact HB.out | apply below_alloc | apply pw_below_drewN | apply below_drew1) | exact HB.out)))); have n3_ := Aside0.mk (below_step (by repeat (first | (with_reducible first | exact HB.out | apply below_alloc | apply pw_below_drewN | apply below_drew1) | exact HB.out)) hb); clear HO_1; clear HO268; clear HB; have HO_1 := n0_; have HO268 := n1_; have HO271 := n2_; have HB := n3_; clear n0_ n1_ n2_ n3_; clear hb ho56; obtain ⟨Ao57, co57, eo57⟩ := Kd.R_slice HO268.out; subst eo57; obtain ⟨Ao58, co58, eo58⟩ := Kd.R_slice HO271.out; subst eo58) | (go_at_call 17; (with_reducible refine (worldmintref01_SameInts.calls kj3 _ _ t264 _ _ y269 t272 _ ?side1 ?side2 ?side3 ?side4 A51.out).mono ?_); (case side1 => repeat (first | exact (Kd.R_reads' HO268.out).2.2 | (with_reducible refine Kd.C_alloc ?_ _) | (with_reducible refine Kd.C_drewN ?_ _) | (with_reducible refine Kd.C_drew ?_))); (case side2 => exact (Kd.R_reads' HO268.out).2.1); (case side3 => repeat (first | exact (Kd.R_reads' HO271.out).2.2 | (with_reducible refine Kd.C_alloc ?_ _) | (with_reducible refine Kd.C_drewN ?_ _) | (with_reducible refine Kd.C_drew ?_))); (case side4 => exact (Kd.R_reads' HO271.out).2.1); rintro e w' ⟨rfl, ⟨nd, rfl⟩⟩))
      go_ret
      exact ⟨by first | rfl | (simp [errW_none, errW_some] <;> rfl) | (simp [*, errW_none, errW_some] <;> rfl), by repeat (first | (with_reducible first | exact HB.out | apply below_alloc | apply pw_below_drewN | apply below_drew1) | exact HB.out)⟩
     ·rw [if_neg c50] at H
      have c50b0 : (t266 == 0) = false := beq_eq_false_iff_ne.mpr c50
      have c50b1 : (t266 != 0) = true := bne_iff_ne.mpr c50
      obtain rfl := Option.some.inj H
      have p48 : 0 ≤ (0 : Int) := (by omega)
      have q48 : (0 : Int) < ((y238.length : Int) : Int) := of_decide_eq_true (by first | (with_reducible assumption) | assumption)
      have qi48 : (0 < y238.length) = True := eq_true (by omega)
      obtain ⟨go48, co48, eo48, gb48, gl48, cl48, HG48⟩ := Kd.N_form HO_1.out (by omega)
      (first | cases eo48 | (injection eo48 with ea_ en_ ec_; (first | subst ea_ | (injection ea_ with ea_; subst ea_)); subst ec_; clear en_))
      have GB48 := Aside0.mk gb48
      have GG48 := Aside0.mk HG48
      clear gb48 gl48 HG48
      obtain ⟨ce48, hcl48, hM48, hcc48, hfr48⟩ := Kd.N_elem HO_1.out z45 (0 : Int) p48 q48
      obtain ⟨ua48_2, uc48_2, rfl, ul48_2, ge48_2⟩ := k45_openF hM48
      have hx48_0 : wc.cell? ⟨go48, (0 : Int).toNat * 3, none⟩ = some (.int .i64 ((rd_T45 y238 0).f0)) := hcc48 0 _ rfl
      have hx48_1 : wc.cell? ⟨go48, (0 : Int).toNat * 3 + 1, none⟩ = some (.int .i64 ((rd_T45 y238 0).f1)) := hcc48 1 _ rfl
      have hx48_2 : wc.cell? ⟨go48, (0 : Int).toNat * 3 + 2, none⟩ = some (.slice ua48_2 ((rd_T45 y238 0).f2).length uc48_2) := hcc48 2 _ rfl
      have hf48_0 : wc.frozen? ⟨go48, (0 : Int).toNat * 3, none⟩ = false := hfr48 0
      have hf48_1 : wc.frozen? ⟨go48, (0 : Int).toNat * 3 + 1, none⟩ = false := hfr48 1
      have hf48_2 : wc.frozen? ⟨go48, (0 : Int).toNat * 3 + 2, none⟩ = false := hfr48 2
      clear hcl48 hcc48 hfr48 hM48
      (try rw [show ((0 : Int)).toNat = 0 from rfl] at hx48_0)
      (try simp only [Nat.reduceMul, Nat.zero_mul, Nat.zero_add, Nat.reduceAdd] at hx48_0)
      (try rw [show ((0 : Int)).toNat = 0 from rfl] at hf48_0)
      (try simp only [Nat.reduceMul, Nat.zero_mul, Nat.zero_add, Nat.reduceAdd] at hf48_0)
      (try rw [show ((0 : Int)).toNat = 0 from rfl] at hx48_1)
      (try simp only [Nat.reduceMul, Nat.zero_mul, Nat.zero_add, Nat.reduceAdd] at hx48_1)
      (try rw [show ((0 : Int)).toNat = 0 from rfl] at hf48_1)
      (try simp only [Nat.reduceMul, Nat.zero_mul, Nat.zero_add, Nat.reduceAdd] at hf48_1)
      (try rw [show ((0 : Int)).toNat = 0 from rfl] at hx48_2)
      (try simp only [Nat.reduceMul, Nat.zero_mul, Nat.zero_add, Nat.reduceAdd] at hx48_2)
      (try rw [show ((0 : Int)).toNat = 0 from rfl] at hf48_2)
      (try simp only [Nat.reduceMul, Nat.zero_mul, Nat.zero_add, Nat.reduceAdd] at hf48_2)
      replace p48 := eq_true p48
      replace q48 := eq_true q48
      have HX59 := Aside0.mk (show Kd.N k45 45 wc w.heap.size (fun _ => True) (.slice (some ⟨go48, 0, none⟩) y238.length co19) y238 from (by (with_reducible repeat (first | apply Kd.N_alloc | apply Kd.N_drewN | apply Kd.N_drew)); exact HO_1.out))
      obtain ⟨ce59, hcl59, hM59, hcc59, hfr59⟩ := Kd.N_elem HX59.out z45 (0 : Int) (by omega) (by have h_ : (0 : Int) < ((y238.length : Int) : Int) := of_decide_eq_true (by first | (with_reducible assumption) | assumption); first | exact h_ | (have e_ := (Kd.N_reads' HO_1.out).1; omega) | simpa using h_)
      obtain ⟨ua59_2, uc59_2, rfl, ul59_2, ge59_2⟩ := k45_openF hM59
      have HP59 := Kd.N_seg HX59.out (0 : Int) (by omega) (by have h_ : (0 : Int) < ((y238.length : Int) : Int) := of_decide_eq_true (by first | (with_reducible assumption) | assumption); first | exact h_ | (have e_ := (Kd.N_reads' HO_1.out).1; omega) | simpa using h_) (seg := [.int .i64 8]) (j := 1) hcl59 hcc59 (show 2 ≤ 3 from by decide) (x' := (⟨(rd_T45 y238 0).f0, 8, (rd_T45 y238 0).f2⟩ : S45)) (k45_mkF _ _ (⟨(rd_T45 y238 0).f0, 8, (rd_T45 y238 0).f2⟩ : S45) ul59_2 ge59_2) (fun _ hk => hk)
      have hx59_1 := hcc59 1 _ rfl
      (try simp only [show (k45).sz = 3 from rfl, Nat.mul_one, Nat.add_zero] at hx59_1)
      (try rw [show ((0 : Int)).toNat = 0 from rfl] at hx59_1)
      (try simp only [Nat.reduceMul, Nat.zero_mul, Nat.zero_add, Nat.reduceAdd] at hx59_1)
      have hf59_1 := hfr59 1
      (try simp only [show (k45).sz = 3 from rfl, Nat.mul_one, Nat.add_zero] at hf59_1)
      (try rw [show ((0 : Int)).toNat = 0 from rfl] at hf59_1)
      (try simp only [Nat.reduceMul, Nat.zero_mul, Nat.zero_add, Nat.reduceAdd] at hf59_1)
      clear hcl59 hcc59 hfr59 hM59
      go_wp2_with (first | ((with_reducible refine gate_store (t := 3) (p := 67) rfl ?_); refine store_event (t := 3) (p := 67) (v := ?vo_w60) (w1 := (wc.setCell ⟨go48, 1, none⟩ (.int .i64 8))) ?hg ?ho ?hn ?hr ?_; (case ho => rfl); (case hg => rfl); (case hn => rfl); (case hr => first | (go_simp; done) | (go_simp; rfl)); intro w60 hw; have hg : wc.grownBy w60 (some go48) := (by rw [hw]; exact HP59.2); have hp_ : Kd.N k45 45 w60 w.heap.size (fun _ => True) (.slice (some ⟨go48, 0, none⟩) y238.length co19) y263 := (by rw [hw, Ny263.out]; exact HP59.1); clear HP59; have n0_ := Aside0.mk (hp_); have n1_ := Aside0.mk ((by rw [hw]; exact below_set (HB.out) GB48.out : Below w.heap.size w w60)); clear HO_1; clear HB; have HO_1 := n0_; have HB := n1_; clear n0_ n1_; clear hg hw hp_) | ((with_reducible refine gate_callee (f := 24) rfl ?_); refine goesL_ (some 70) rfl rfl Try.func24 (by kernel_rfl) rfl #[.int .i64 2, .slice (some ⟨go48, 0, none⟩) y263.length co19] rfl (by (try simp only [List.map_toArray, List.map_cons, List.map_nil]); first | done | (rw [show y263.length = y238.length from (Kd.N_reads' HO_1.out).1.symm] <;> rfl) | rfl | (simp only [List.length_drop, List.length_take]; rfl)) ?_; (with_reducible refine (clear_Best.calls 2 _ _ y263 t264 t265 t266 _ ?side1 ?side2 A49.out).mono ?_); (case side1 => repeat (first | exact (Kd.N_reads' HO_1.out).2.2 | (with_reducible refine Kd.C_alloc ?_ _) | (with_reducible refine Kd.C_drewN ?_ _) | (with_reducible refine Kd.C_drew ?_))); (case side2 => rw [show y263.length = y238.length from (Kd.N_reads' HO_1.out).1.symm]; exact (Kd.N_reads' HO_1.out).2.1); rintro e w61 ⟨v267, rfl, ho0, hb⟩; refine ⟨_, rfl, ?_⟩; have n0_ := Aside0.mk (Kd.N_elder' (by (with_reducible repeat (first | apply Kd.N_alloc | apply Kd.N_drewN | apply Kd.N_drew)); exact HO_1.out) (Kd.R_base ho0) hb); have n1_ := Aside0.mk (Kd.R_lower ho0 (below_size (by repeat (first | (with_reducible first | exact HB.out | apply below_alloc | apply pw_below_drewN | apply below_drew1) | exact HB.out)))); have n2_ := Aside0.mk (below_step (by repeat (first | (with_reducible first | exact HB.out | apply below_alloc | apply pw_below_drewN | apply below_drew1) | exact HB.out)) hb); clear HO_1; clear HB; have HO_1 := n0_; have HO268 := n1_; have HB := n2_; clear n0_ n1_ n2_; (try clear hb); (try clear hb2); (try clear hk); (try clear hi); (try clear ho0)))
      go_ret
      exact ⟨by first | rfl | (simp [errW_none, errW_some] <;> rfl) | (simp [*, errW_none, errW_some] <;> rfl), by repeat (first | (with_reducible first | exact HB.out | apply below_alloc | apply pw_below_drewN | apply below_drew1) | exact HB.out)⟩
    ·rw [if_neg c47] at H
     exact absurd H (by simp)

end Go.Proofs.Ytecbfpcidoilmaa.H

/- Written by a program of this session over the kit's printer: what the functions named below compute, and that the machine's calls compute it. Not trusted: Lean checks it. -/
namespace Go.Proofs.Ytecbfpcidoilmaa.H
open Go.RowKit Go.Proofs.YtecbfpcidoilmaaW.PrintWords Go.Proofs.YtecbfpcidoilmaaW.PrintLast Go.Proofs.YtecbfpcidoilmaaW.PrintMore
attribute [local go_sem] max2_int min2_int max_two min_two max_three min_three max_four min_four   -- for this text's walks alone
set_option linter.unusedVariables false
set_option linter.unusedSimpArgs false

/-! ### worldmintlaw28_gain: function 23 -/
def worldmintlaw28_gain.f (k : Nat) (a0 : Int) (l1 : List (S45)) (a2 : Int) (a3 : Int) : Option (Int) := (clear_Best.f a0 l1).bind fun bt390 => ((clear_Prices.f k a0 l1).bind fun bt395 => ((worldmintref01_Has.f k bt390.1 a2).bind fun t399 => (if t399 = true then (if a2 ≥ (bt395.1.length : Int) then (some 0) else (if 0 ≤ a2 then (if a2 < (bt395.1.length : Int) then (some (wrap64 (a3 - (rd bt395.1 a2)))) else (none)) else (none))) else (some 0))))
set_option maxHeartbeats 8000000 in
set_option maxRecDepth 100000 in
theorem worldmintlaw28_gain.calls (k : Nat) (a0 : Int) (A1 : Option Addr) (c1 : Nat) (l1 : List (S45)) (a2 : Int) (a3 : Int) (r : Int) (w : World) (hr1 : Kd.C k45 w A1 l1.length l1) (hc1 : l1.length ≤ c1) (h : worldmintlaw28_gain.f k a0 l1 a2 a3 = some r) :
  Calls Try.prog 23 #[.int .i64 a0, .slice A1 l1.length c1, .int .i64 a2, .int .i64 a3] w fun e w' => e = .returned (.int .i64 r) ∧ Below w.heap.size w w' := by
 have HR1 := Aside0.mk hr1
 have HC1 := Aside0.mk hc1
 clear hr1 hc1
 have HB := Aside0.mk (Below.refl w.heap.size w)
 have H : ((clear_Best.f a0 l1).bind fun bt390 => ((clear_Prices.f k a0 l1).bind fun bt395 => ((worldmintref01_Has.f k bt390.1 a2).bind fun t399 => (if t399 = true then (if a2 ≥ (bt395.1.length : Int) then (some 0) else (if 0 ≤ a2 then (if a2 < (bt395.1.length : Int) then (some (wrap64 (a3 - (rd bt395.1 a2)))) else (none)) else (none))) else (some 0))))) = some r := h
 clear h
 replace H := Option.bind_eq_some_iff.mp H
 obtain ⟨⟨t390, t391, t392⟩, A50, H⟩ := H
 replace H : ((clear_Prices.f k a0 l1).bind fun bt395 => ((worldmintref01_Has.f k t390 a2).bind fun t399 => (if t399 = true then (if a2 ≥ (bt395.1.length : Int) then (some 0) else (if 0 ≤ a2 then (if a2 < (bt395.1.length : Int) then (some (wrap64 (a3 - (rd bt395.1 a2)))) else (none)) else (none))) else (some 0)))) = some r := H
 have A5 := Aside0.mk A50
 clear A50
 replace H := Option.bind_eq_some_iff.mp H
 obtain ⟨⟨t395, t396⟩, A60, H⟩ := H
 replace H : ((worldmintref01_Has.f k t390 a2).bind fun t399 => (if t399 = true then (if a2 ≥ (t395.length : Int) then (some 0) else (if 0 ≤ a2 then (if a2 < (t395.length : Int) then (some (wrap64 (a3 - (rd t395 a2)))) else (none)) else (none))) else (some 0))) = some r := H
 have A6 := Aside0.mk A60
 clear A60
 replace H := Option.bind_eq_some_iff.mp H
 obtain ⟨t399, A70, H⟩ := H
 replace H : (if t399 = true then (if a2 ≥ (t395.length : Int) then (some 0) else (if 0 ≤ a2 then (if a2 < (t395.length : Int) then (some (wrap64 (a3 - (rd t395 a2)))) else (none)) else (none))) else (some 0)) = some r := H
 have A7 := Aside0.mk A70
 clear A70
 by_cases c8 : t399 = true
 ·subst c8
  have H1 : (if a2 ≥ (t395.length : Int) then (some 0) else (if 0 ≤ a2 then (if a2 < (t395.length : Int) then (some (wrap64 (a3 - (rd t395 a2)))) else (none)) else (none))) = some r := by rw [if_pos rfl] at H; exact H
  clear H
  have H := H1
  clear H1
  by_cases c9 : a2 ≥ (t395.length : Int)
  ·rw [if_pos c9] at H
   have c9b0 : decide ((t395.length : Int) ≤ a2) = true := decide_eq_true c9
   clear c9
   obtain rfl := Option.some.inj H
   go_enter Try.func23, Try.ntmps23
   go_wp2_with (first | ((with_reducible refine gate_callee (f := 24) rfl ?_); refine goesL_ (some 17) rfl rfl Try.func24 (by kernel_rfl) rfl #[.int .i64 a0, .slice A1 l1.length c1] rfl (by (try simp only [List.map_toArray, List.map_cons, List.map_nil]); first | done | rfl | (simp only [List.length_drop, List.length_take]; rfl)) ?_; (with_reducible refine (clear_Best.calls a0 _ _ l1 t390 t391 t392 _ ?side1 ?side2 A5.out).mono ?_); (case side1 => repeat (first | exact HR1.out | (with_reducible refine Kd.C_alloc ?_ _) | (with_reducible refine Kd.C_drewN ?_ _) | (with_reducible refine Kd.C_drew ?_))); (case side2 => exact HC1.out); rintro e w10 ⟨v393, rfl, ho0, hb⟩; refine ⟨_, rfl, ?_⟩; have n0_ := Aside0.mk (Kd.R_lower ho0 (below_size (by repeat (first | (with_reducible first | exact HB.out | apply below_alloc | apply pw_below_drewN | apply below_drew1) | exact HB.out)))); have n1_ := Aside0.mk (below_step (by repeat (first | (with_reducible first | exact HB.out | apply below_alloc | apply pw_below_drewN | apply below_drew1) | exact HB.out)) hb); clear HB; have HO394 := n0_; have HB := n1_; clear n0_ n1_; (try clear hb); (try clear hb2); (try clear hk); (try clear hi); (try clear ho0)) | ((with_reducible refine gate_callee (f := 14) rfl ?_); refine goesL_ (some 24) rfl rfl Try.func14 (by kernel_rfl) rfl #[.int .i64 a0, .slice A1 l1.length c1] rfl (by (try simp only [List.map_toArray, List.map_cons, List.map_nil]); first | done | rfl | (simp only [List.length_drop, List.length_take]; rfl)) ?_; (with_reducible refine (clear_Prices.calls k a0 _ _ l1 t395 t396 _ ?side1 ?side2 A6.out).mono ?_); (case side1 => repeat (first | exact (Kd.C_below HR1.out HB.out) | (with_reducible refine Kd.C_alloc ?_ _) | (with_reducible refine Kd.C_drewN ?_ _) | (with_reducible refine Kd.C_drew ?_))); (case side2 => exact HC1.out); rintro e w11 ⟨v397, rfl, ho0, hb⟩; refine ⟨_, rfl, ?_⟩; have n0_ := Aside0.mk (Kd.R_elder' (by (with_reducible repeat (first | apply Kd.R_alloc | apply Kd.R_drewN | apply Kd.R_drew)); exact HO394.out) (Kd.R_base ho0) hb); have n1_ := Aside0.mk (Kd.R_lower (Kd.R_new' ho0 (Kd.R_lt (by (with_reducible repeat (first | apply Kd.R_alloc | apply Kd.R_drewN | apply Kd.R_drew)); exact HO394.out))) (below_size (by repeat (first | (with_reducible first | exact HB.out | apply below_alloc | apply pw_below_drewN | apply below_drew1) | exact HB.out)))); have n2_ := Aside0.mk (below_step (by repeat (first | (with_reducible first | exact HB.out | apply below_alloc | apply pw_below_drewN | apply below_drew1) | exact HB.out)) hb); clear HO394; clear HB; have HO394 := n0_; have HO398 := n1_; have HB := n2_; clear n0_ n1_ n2_; (try clear hb); (try clear hb2); (try clear hk); (try clear hi); (try clear ho0); obtain ⟨Ao12, co12, eo12⟩ := Kd.R_slice HO394.out; subst eo12) | ((with_reducible refine gate_callee (f := 33) rfl ?_); refine goesL_ (some 29) rfl rfl Try.func33 (by kernel_rfl) rfl #[.slice Ao12 t390.length co12, .int .i64 a2] rfl (by (try simp only [List.map_toArray, List.map_cons, List.map_nil]); first | done | rfl | (simp only [List.length_drop, List.length_take]; rfl)) ?_; (with_reducible refine (worldmintref01_Has.calls k _ _ t390 a2 true _ ?side1 ?side2 A7.out).mono ?_); (case side1 => repeat (first | exact (Kd.R_reads' HO394.out).2.2 | (with_reducible refine Kd.C_alloc ?_ _) | (with_reducible refine Kd.C_drewN ?_ _) | (with_reducible refine Kd.C_drew ?_))); (case side2 => exact (Kd.R_reads' HO394.out).2.1); rintro e w' ⟨rfl, ⟨nd, rfl⟩⟩; refine ⟨_, rfl, ?_⟩; obtain ⟨Ao13, co13, eo13⟩ := Kd.R_slice HO398.out; subst eo13))
   go_ret
   exact ⟨by first | rfl | (simp [errW_none, errW_some] <;> rfl) | (simp [*, errW_none, errW_some] <;> rfl), by repeat (first | (with_reducible first | exact HB.out | apply below_alloc | apply pw_below_drewN | apply below_drew1) | exact HB.out)⟩
  ·rw [if_neg c9] at H
   have c9b0 : decide ((t395.length : Int) ≤ a2) = false := decide_eq_false c9
   clear c9
   by_cases c14 : 0 ≤ a2
   ·rw [if_pos c14] at H
    have c14b0 : decide (0 ≤ a2) = true := decide_eq_true c14
    clear c14
    by_cases c15 : a2 < (t395.length : Int)
    ·rw [if_pos c15] at H
     have c15b0 : decide (a2 < (t395.length : Int)) = true := decide_eq_true c15
     clear c15
     obtain rfl := Option.some.inj H
     go_enter Try.func23, Try.ntmps23
     go_wp2_with (first | ((with_reducible refine gate_callee (f := 24) rfl ?_); refine goesL_ (some 17) rfl rfl Try.func24 (by kernel_rfl) rfl #[.int .i64 a0, .slice A1 l1.length c1] rfl (by (try simp only [List.map_toArray, List.map_cons, List.map_nil]); first | done | rfl | (simp only [List.length_drop, List.length_take]; rfl)) ?_; (with_reducible refine (clear_Best.calls a0 _ _ l1 t390 t391 t392 _ ?side1 ?side2 A5.out).mono ?_); (case side1 => repeat (first | exact HR1.out | (with_reducible refine Kd.C_alloc ?_ _) | (with_reducible refine Kd.C_drewN ?_ _) | (with_reducible refine Kd.C_drew ?_))); (case side2 => exact HC1.out); rintro e w16 ⟨v393, rfl, ho0, hb⟩; refine ⟨_, rfl, ?_⟩; have n0_ := Aside0.mk (Kd.R_lower ho0 (below_size (by repeat (first | (with_reducible first | exact HB.out | apply below_alloc | apply pw_below_drewN | apply below_drew1) | exact HB.out)))); have n1_ := Aside0.mk (below_step (by repeat (first | (with_reducible first | exact HB.out | apply below_alloc | apply pw_below_drewN | apply below_drew1) | exact HB.out)) hb); clear HB; have HO394 := n0_; have HB := n1_; clear n0_ n1_; (try clear hb); (try clear hb2); (try clear hk); (try clear hi); (try clear ho0)) | ((with_reducible refine gate_callee (f := 14) rfl ?_); refine goesL_ (some 24) rfl rfl Try.func14 (by kernel_rfl) rfl #[.int .i64 a0, .slice A1 l1.length c1] rfl (by (try simp only [List.map_toArray, List.map_cons, List.map_nil]); first | done | rfl | (simp only [List.length_drop, List.length_take]; rfl)) ?_; (with_reducible refine (clear_Prices.calls k a0 _ _ l1 t395 t396 _ ?side1 ?side2 A6.out).mono ?_); (case side1 => repeat (first | exact (Kd.C_below HR1.out HB.out) | (with_reducible refine Kd.C_alloc ?_ _) | (with_reducible refine Kd.C_drewN ?_ _) | (with_reducible refine Kd.C_drew ?_))); (case side2 => exact HC1.out); rintro e w17 ⟨v397, rfl, ho0, hb⟩; refine ⟨_, rfl, ?_⟩; have n0_ := Aside0.mk (Kd.R_elder' (by (with_reducible repeat (first | apply Kd.R_alloc | apply Kd.R_drewN | apply Kd.R_drew)); exact HO394.out) (Kd.R_base ho0) hb); have n1_ := Aside0.mk (Kd.R_lower (Kd.R_new' ho0 (Kd.R_lt (by (with_reducible repeat (first | apply Kd.R_alloc | apply Kd.R_drewN | apply Kd.R_drew)); exact HO394.out))) (below_size (by repeat (first | (with_reducible first | exact HB.out | apply below_alloc | apply pw_below_drewN | apply below_drew1) | exact HB.out)))); have n2_ := Aside0.mk (below_step (by repeat (first | (with_reducible first | exact HB.out | apply below_alloc | apply pw_below_drewN | apply below_drew1) | exact HB.out)) hb); clear HO394; clear HB; have HO394 := n0_; have HO398 := n1_; have HB := n2_; clear n0_ n1_ n2_; (try clear hb); (try clear hb2); (try clear hk); (try clear hi); (try clear ho0); obtain ⟨Ao18, co18, eo18⟩ := Kd.R_slice HO394.out; subst eo18) | ((with_reducible refine gate_callee (f := 33) rfl ?_); refine goesL_ (some 29) rfl rfl Try.func33 (by kernel_rfl) rfl #[.slice Ao18 t390.length co18, .int .i64 a2] rfl (by (try simp only [List.map_toArray, List.map_cons, List.map_nil]); first | done | rfl | (simp only [List.length_drop, List.length_take]; rfl)) ?_; (with_reducible refine (worldmintref01_Has.calls k _ _ t390 a2 true _ ?side1 ?side2 A7.out).mono ?_); (case side1 => repeat (first | exact (Kd.R_reads' HO394.out).2.2 | (with_reducible refine Kd.C_alloc ?_ _) | (with_reducible refine Kd.C_drewN ?_ _) | (with_reducible refine Kd.C_drew ?_))); (case side2 => exact (Kd.R_reads' HO394.out).2.1); rintro e w' ⟨rfl, ⟨nd, rfl⟩⟩; refine ⟨_, rfl, ?_⟩; obtain ⟨Ao19, co19, eo19⟩ := Kd.R_slice HO398.out; subst eo19; have p400 : 0 ≤ (a2 : Int) := of_decide_eq_true (by first | (with_reducible assumption) | assumption); have q400 : a2 < (t395.length : Int) := of_decide_eq_true (by first | (with_reducible assumption) | assumption); obtain ⟨ad400, e400, hx400_0⟩ := Kd.at_int (Kd.R_reads' HO398.out).2.2 a2 p400 q400; cases e400; replace p400 := eq_true p400; replace q400 := eq_true q400))
     go_ret
     exact ⟨by first | rfl | (simp [errW_none, errW_some] <;> rfl) | (simp [*, errW_none, errW_some] <;> rfl), by repeat (first | (with_reducible first | exact HB.out | apply below_alloc | apply pw_below_drewN | apply below_drew1) | exact HB.out)⟩
    ·rw [if_neg c15] at H
     exact absurd H (by simp)
   ·rw [if_neg c14] at H
    exact absurd H (by simp)
 ·replace c8 := Bool.eq_false_iff.mpr c8
  subst c8
  have H1 : (some 0) = some r := by rw [if_neg (show ¬ (false = true) by decide)] at H; exact H
  clear H
  have H := H1
  clear H1
  obtain rfl := Option.some.inj H
  go_enter Try.func23, Try.ntmps23
  go_wp2_with (first | ((with_reducible refine gate_callee (f := 24) rfl ?_); refine goesL_ (some 17) rfl rfl Try.func24 (by kernel_rfl) rfl #[.int .i64 a0, .slice A1 l1.length c1] rfl (by (try simp only [List.map_toArray, List.map_cons, List.map_nil]); first | done | rfl | (simp only [List.length_drop, List.length_take]; rfl)) ?_; (with_reducible refine (clear_Best.calls a0 _ _ l1 t390 t391 t392 _ ?side1 ?side2 A5.out).mono ?_); (case side1 => repeat (first | exact HR1.out | (with_reducible refine Kd.C_alloc ?_ _) | (with_reducible refine Kd.C_drewN ?_ _) | (with_reducible refine Kd.C_drew ?_))); (case side2 => exact HC1.out); rintro e w20 ⟨v393, rfl, ho0, hb⟩; refine ⟨_, rfl, ?_⟩; have n0_ := Aside0.mk (Kd.R_lower ho0 (below_size (by repeat (first | (with_reducible first | exact HB.out | apply below_alloc | apply pw_below_drewN | apply below_drew1) | exact HB.out)))); have n1_ := Aside0.mk (below_step (by repeat (first | (with_reducible first | exact HB.out | apply below_alloc | apply pw_below_drewN | apply below_drew1) | exact HB.out)) hb); clear HB; have HO394 := n0_; have HB := n1_; clear n0_ n1_; (try clear hb); (try clear hb2); (try clear hk); (try clear hi); (try clear ho0)) | ((with_reducible refine gate_callee (f := 14) rfl ?_); refine goesL_ (some 24) rfl rfl Try.func14 (by kernel_rfl) rfl #[.int .i64 a0, .slice A1 l1.length c1] rfl (by (try simp only [List.map_toArray, List.map_cons, List.map_nil]); first | done | rfl | (simp only [List.length_drop, List.length_take]; rfl)) ?_; (with_reducible refine (clear_Prices.calls k a0 _ _ l1 t395 t396 _ ?side1 ?side2 A6.out).mono ?_); (case side1 => repeat (first | exact (Kd.C_below HR1.out HB.out) | (with_reducible refine Kd.C_alloc ?_ _) | (with_reducible refine Kd.C_drewN ?_ _) | (with_reducible refine Kd.C_drew ?_))); (case side2 => exact HC1.out); rintro e w21 ⟨v397, rfl, ho0, hb⟩; refine ⟨_, rfl, ?_⟩; have n0_ := Aside0.mk (Kd.R_elder' (by (with_reducible repeat (first | apply Kd.R_alloc | apply Kd.R_drewN | apply Kd.R_drew)); exact HO394.out) (Kd.R_base ho0) hb); have n1_ := Aside0.mk (Kd.R_lower (Kd.R_new' ho0 (Kd.R_lt (by (with_reducible repeat (first | apply Kd.R_alloc | apply Kd.R_drewN | apply Kd.R_drew)); exact HO394.out))) (below_size (by repeat (first | (with_reducible first | exact HB.out | apply below_alloc | apply pw_below_drewN | apply below_drew1) | exact HB.out)))); have n2_ := Aside0.mk (below_step (by repeat (first | (with_reducible first | exact HB.out | apply below_alloc | apply pw_below_drewN | apply below_drew1) | exact HB.out)) hb); clear HO394; clear HB; have HO394 := n0_; have HO398 := n1_; have HB := n2_; clear n0_ n1_ n2_; (try clear hb); (try clear hb2); (try clear hk); (try clear hi); (try clear ho0); obtain ⟨Ao22, co22, eo22⟩ := Kd.R_slice HO394.out; subst eo22) | ((with_reducible refine gate_callee (f := 33) rfl ?_); refine goesL_ (some 29) rfl rfl Try.func33 (by kernel_rfl) rfl #[.slice Ao22 t390.length co22, .int .i64 a2] rfl (by (try simp only [List.map_toArray, List.map_cons, List.map_nil]); first | done | rfl | (simp only [List.length_drop, List.length_take]; rfl)) ?_; (with_reducible refine (worldmintref01_Has.calls k _ _ t390 a2 false _ ?side1 ?side2 A7.out).mono ?_); (case side1 => repeat (first | exact (Kd.R_reads' HO394.out).2.2 | (with_reducible refine Kd.C_alloc ?_ _) | (with_reducible refine Kd.C_drewN ?_ _) | (with_reducible refine Kd.C_drew ?_))); (case side2 => exact (Kd.R_reads' HO394.out).2.1); rintro e w' ⟨rfl, ⟨nd, rfl⟩⟩; refine ⟨_, rfl, ?_⟩))
  go_ret
  exact ⟨by first | rfl | (simp [errW_none, errW_some] <;> rfl) | (simp [*, errW_none, errW_some] <;> rfl), by repeat (first | (with_reducible first | exact HB.out | apply below_alloc | apply pw_below_drewN | apply below_drew1) | exact HB.out)⟩

end Go.Proofs.Ytecbfpcidoilmaa.H

/- Written by a program of this session over the kit's printer: what the functions named below compute, and that the machine's calls compute it. Not trusted: Lean checks it. -/
namespace Go.Proofs.Ytecbfpcidoilmaa.H
open Go.RowKit Go.Proofs.YtecbfpcidoilmaaW.PrintWords Go.Proofs.YtecbfpcidoilmaaW.PrintLast Go.Proofs.YtecbfpcidoilmaaW.PrintMore
attribute [local go_sem] max2_int min2_int max_two min_two max_three min_three max_four min_four   -- for this text's walks alone
set_option linter.unusedVariables false
set_option linter.unusedSimpArgs false

/-! ### worldmintlaw28_ClearTruthful: function 5 -/
mutual
def worldmintlaw28_ClearTruthful.l0 : Nat → Int → Int → List (S45) → Int → Int → Option (Bool)
 | 0, _, _, _, _, _ => none
 | k + 1, x3, x9, x10, x11, x12 => if x12 < (x10.length : Int) then (if x12 = x11 then (worldmintlaw28_ClearTruthful.l0 k x3 x9 x10 x11 (wrap64 (x12 + 1))) else (if 0 ≤ x12 then (if 0 ≤ x11 then (if x11 < (x10.length : Int) then (if ((rd_T45 x10 x12).f0) = ((rd_T45 x10 x11).f0) then (worldmintlaw28_ClearTruthful.l0 k x3 x9 (x10.set (x12 : Int).toNat (⟨wrap64 (100 + x12), (rd_T45 x10 x12).f1, (rd_T45 x10 x12).f2⟩ : S45)) x11 (wrap64 (x12 + 1))) else (worldmintlaw28_ClearTruthful.l0 k x3 x9 x10 x11 (wrap64 (x12 + 1)))) else (none)) else (none)) else (none))) else (if 0 ≤ x11 then (if x11 < (x10.length : Int) then ((worldmintlaw28_gain.f k x9 x10 x11 ((rd_T45 x10 x11).f1)).bind fun t414 => (worldmintlaw28_ClearTruthful.l1 k x3 x9 x10 x11 ((rd_T45 x10 x11).f1) t414 0)) else (none)) else (none))
def worldmintlaw28_ClearTruthful.l1 : Nat → Int → Int → List (S45) → Int → Int → Int → Int → Option (Bool)
 | 0, _, _, _, _, _, _, _ => none
 | k + 1, x3, x9, x10, x11, x13, x14, x15 => if x15 < 4 then ((some (([] : List (S45)) : List (S45))).bind fun y416 => (if y416.length + x10.length < 3518437208883 then ((some (y416 ++ x10 : List (S45))).bind fun y419 => ((worldmintref01_Around.f (wrap64 (x3 + (wrap64 (17 * x15)))) 40).bind fun t422 => (if 0 ≤ x11 then (if x11 < (y419.length : Int) then ((worldmintlaw28_gain.f k x9 (y419.set (x11 : Int).toNat (⟨(rd_T45 y419 x11).f0, wrap64 (1 + t422), (rd_T45 y419 x11).f2⟩ : S45)) x11 x13).bind fun t424 => (if t424 > x14 then (some false) else (worldmintlaw28_ClearTruthful.l1 k x3 x9 x10 x11 x13 x14 (wrap64 (x15 + 1))))) else (none)) else (none)))) else (none))) else ((worldmintlaw28_lives.f k).bind fun t415 => (some t415))
end
def worldmintlaw28_ClearTruthful.f (k : Nat) (a0 : Int) (l1 : List Int) (a2 : Int) (a3 : Int) : Option (Bool) := (worldmintref27_Lots.f a0).bind fun t401 => ((worldmintref27_Bids.f k t401 l1 7).bind fun t402 => ((worldmintlaw28_given.f k t402).bind fun t405 => (if (t405.length : Int) = 0 then ((worldmintlaw28_lives.f k).bind fun t408 => (some t408)) else ((worldmintref01_Around.f a2 (t405.length : Int)).bind fun t409 => (worldmintlaw28_ClearTruthful.l0 k a3 t401 t405 t409 0)))))
set_option maxHeartbeats 8000000 in
set_option maxRecDepth 100000 in
theorem worldmintlaw28_ClearTruthful.calls (k : Nat) (a0 : Int) (A1 : Option Addr) (c1 : Nat) (l1 : List Int) (a2 : Int) (a3 : Int) (r : Bool) (w : World) (hr1 : Kd.C (Kd.int .i64) w A1 l1.length l1) (hc1 : l1.length ≤ c1) (h : worldmintlaw28_ClearTruthful.f k a0 l1 a2 a3 = some r) :
  Calls Try.prog 5 #[.int .i64 a0, .slice A1 l1.length c1, .int .i64 a2, .int .i64 a3] w fun e w' => e = .returned (.bool r) ∧ Below w.heap.size w w' := by
 have HR1 := Aside0.mk hr1
 have HC1 := Aside0.mk hc1
 clear hr1 hc1
 have HB := Aside0.mk (Below.refl w.heap.size w)
 have H : ((worldmintref27_Lots.f a0).bind fun t401 => ((worldmintref27_Bids.f k t401 l1 7).bind fun t402 => ((worldmintlaw28_given.f k t402).bind fun t405 => (if (t405.length : Int) = 0 then ((worldmintlaw28_lives.f k).bind fun t408 => (some t408)) else ((worldmintref01_Around.f a2 (t405.length : Int)).bind fun t409 => (worldmintlaw28_ClearTruthful.l0 k a3 t401 t405 t409 0)))))) = some r := h
 clear h
 replace H := Option.bind_eq_some_iff.mp H
 obtain ⟨t401, A50, H⟩ := H
 replace H : ((worldmintref27_Bids.f k t401 l1 7).bind fun t402 => ((worldmintlaw28_given.f k t402).bind fun t405 => (if (t405.length : Int) = 0 then ((worldmintlaw28_lives.f k).bind fun t408 => (some t408)) else ((worldmintref01_Around.f a2 (t405.length : Int)).bind fun t409 => (worldmintlaw28_ClearTruthful.l0 k a3 t401 t405 t409 0))))) = some r := H
 have A5 := Aside0.mk A50
 clear A50
 replace H := Option.bind_eq_some_iff.mp H
 obtain ⟨t402, A60, H⟩ := H
 replace H : ((worldmintlaw28_given.f k t402).bind fun t405 => (if (t405.length : Int) = 0 then ((worldmintlaw28_lives.f k).bind fun t408 => (some t408)) else ((worldmintref01_Around.f a2 (t405.length : Int)).bind fun t409 => (worldmintlaw28_ClearTruthful.l0 k a3 t401 t405 t409 0)))) = some r := H
 have A6 := Aside0.mk A60
 clear A60
 replace H := Option.bind_eq_some_iff.mp H
 obtain ⟨t405, A70, H⟩ := H
 replace H : (if (t405.length : Int) = 0 then ((worldmintlaw28_lives.f k).bind fun t408 => (some t408)) else ((worldmintref01_Around.f a2 (t405.length : Int)).bind fun t409 => (worldmintlaw28_ClearTruthful.l0 k a3 t401 t405 t409 0))) = some r := H
 have A7 := Aside0.mk A70
 clear A70
 by_cases c8 : (t405.length : Int) = 0
 ·rw [if_pos c8] at H
  have c8b0 : ((t405.length : Int) == 0) = true := beq_iff_eq.mpr c8
  have c8b1 : ((t405.length : Int) != 0) = false := bne_eq_false_iff_eq.mpr c8
  clear c8
  replace H := Option.bind_eq_some_iff.mp H
  obtain ⟨t408, A90, H⟩ := H
  replace H : (some t408) = some r := H
  have A9 := Aside0.mk A90
  clear A90
  obtain rfl := Option.some.inj H
  go_enter Try.func5, Try.ntmps5
  go_wp2_with (first | (go_at_call 11; (with_reducible refine (worldmintref27_Lots.calls a0 t401 _ A5.out).mono ?_); rintro e w' ⟨rfl, ⟨nd, rfl⟩⟩; (try first | exact ⟨rfl, _, World.drewN_drewN _ _ _⟩ | exact ⟨rfl, _, Eq.trans (World.drewN_drewN _ _ _) (congrArg (World.drewN _) (Nat.add_assoc _ _ _))⟩)) | (go_at_call 12; (with_reducible refine (worldmintref27_Bids.calls k t401 _ _ l1 7 t402 _ ?side1 ?side2 A6.out).mono ?_); (case side1 => repeat (first | exact HR1.out | (with_reducible refine Kd.C_alloc ?_ _) | (with_reducible refine Kd.C_drewN ?_ _) | (with_reducible refine Kd.C_drew ?_))); (case side2 => exact HC1.out); rintro e w10 ⟨v403, rfl, ho0, hb⟩; have n0_ := Aside0.mk (Kd.N_lower (Kd.N_mono (ok' := fun k_ => True) (Kd.S_N (Kd.S_bound ho0)) (fun k_ hk_ => trivial)) (below_size (by repeat (first | (with_reducible first | exact HB.out | apply below_alloc | apply pw_below_drewN | apply below_drew1) | exact HB.out)))); have n1_ := Aside0.mk (below_step (by repeat (first | (with_reducible first | exact HB.out | apply below_alloc | apply pw_below_drewN | apply below_drew1) | exact HB.out)) hb); clear HB; have HO404 := n0_; have HB := n1_; clear n0_ n1_; (try clear hb); (try clear hb2); (try clear hk); (try clear hi); (try clear ho0); obtain ⟨Ao11, co11, eo11⟩ := Kd.N_slice HO404.out; subst eo11) | (go_at_call 15; (with_reducible refine (worldmintlaw28_given.calls k (fun k_ => True) _ _ t402 t405 _ ?side1 A7.out).mono ?_); (case side1 => exact Kd.N_V (HO404.out)); rintro e w12 ⟨v406, rfl, ho0, hb⟩; have n0_ := Aside0.mk (Kd.N_elder' (by (with_reducible repeat (first | apply Kd.N_alloc | apply Kd.N_drewN | apply Kd.N_drew)); exact HO404.out) (by first | exact Kd.N_base ho0 | exact Kd.N_base (Kd.S_N ho0)) hb); have n1_ := Aside0.mk (Kd.N_lower (Kd.N_mono (ok' := fun k_ => True) ho0 (fun k_ hk_ => trivial)) (below_size (by repeat (first | (with_reducible first | exact HB.out | apply below_alloc | apply pw_below_drewN | apply below_drew1) | exact HB.out)))); have n2_ := Aside0.mk (below_step (by repeat (first | (with_reducible first | exact HB.out | apply below_alloc | apply pw_below_drewN | apply below_drew1) | exact HB.out)) hb); clear HO404; clear HB; have HO404 := n0_; have HO407 := n1_; have HB := n2_; clear n0_ n1_ n2_; (try clear hb); (try clear hb2); (try clear hk); (try clear hi); (try clear ho0); obtain ⟨Ao13, co13, eo13⟩ := Kd.N_slice HO407.out; subst eo13) | (go_at_call 18; (with_reducible refine (worldmintlaw28_lives.calls k  t408 _ A9.out).mono ?_); rintro e w14 ⟨rfl, hb⟩; have n0_ := Aside0.mk (Kd.N_below (by (with_reducible repeat (first | apply Kd.N_alloc | apply Kd.N_drewN | apply Kd.N_drew)); exact HO404.out) hb); have n1_ := Aside0.mk (Kd.N_below (by (with_reducible repeat (first | apply Kd.N_alloc | apply Kd.N_drewN | apply Kd.N_drew)); exact HO407.out) hb); have n2_ := Aside0.mk (below_step (by repeat (first | (with_reducible first | exact HB.out | apply below_alloc | apply pw_below_drewN | apply below_drew1) | exact HB.out)) hb); clear HO404; clear HO407; clear HB; have HO404 := n0_; have HO407 := n1_; have HB := n2_; clear n0_ n1_ n2_; (try clear hb); (try clear hb2); (try clear hk); (try clear hi)))
  repeat (go_quiet (first | (go_at_call 11; (with_reducible refine (worldmintref27_Lots.calls a0 t401 _ A5.out).mono ?_); rintro e w' ⟨rfl, ⟨nd, rfl⟩⟩; (try first | exact ⟨rfl, _, World.drewN_drewN _ _ _⟩ | exact ⟨rfl, _, Eq.trans (World.drewN_drewN _ _ _) (congrArg (World.drewN _) (Nat.add_assoc _ _ _))⟩)) | (go_at_call 12; (with_reducible refine (worldmintref27_Bids.calls k t401 _ _ l1 7 t402 _ ?side1 ?side2 A6.out).mono ?_); (case side1 => repeat (first | exact HR1.out | (with_reducible refine Kd.C_alloc ?_ _) | (with_reducible refine Kd.C_drewN ?_ _) | (with_reducible refine Kd.C_drew ?_))); (case side2 => exact HC1.out); rintro e w10 ⟨v403, rfl, ho0, hb⟩; have n0_ := Aside0.mk (Kd.N_lower (Kd.N_mono (ok' := fun k_ => True) (Kd.S_N (Kd.S_bound ho0)) (fun k_ hk_ => trivial)) (below_size (by repeat (first | (with_reducible first | exact HB.out | apply below_alloc | apply pw_below_drewN | apply below_drew1) | exact HB.out)))); have n1_ := Aside0.mk (below_step (by repeat (first | (with_reducible first | exact HB.out | apply below_alloc | apply pw_below_drewN | apply below_drew1) | exact HB.out)) hb); clear HB; have HO404 := n0_; have HB := n1_; clear n0_ n1_; (try clear hb); (try clear hb2); (try clear hk); (try clear hi); (try clear ho0); obtain ⟨Ao11, co11, eo11⟩ := Kd.N_slice HO404.out; subst eo11) | (go_at_call 15; (with_reducible refine (worldmintlaw28_given.calls k (fun k_ => True) _ _ t402 t405 _ ?side1 A7.out).mono ?_); (case side1 => exact Kd.N_V (HO404.out)); rintro e w12 ⟨v406, rfl, ho0, hb⟩; have n0_ := Aside0.mk (Kd.N_elder' (by (with_reducible repeat (first | apply Kd.N_alloc | apply Kd.N_drewN | apply Kd.N_drew)); exact HO404.out) (by first | exact Kd.N_base ho0 | exact Kd.N_base (Kd.S_N ho0)) hb); have n1_ := Aside0.mk (Kd.N_lower (Kd.N_mono (ok' := fun k_ => True) ho0 (fun k_ hk_ => trivial)) (below_size (by repeat (first | (with_reducible first | exact HB.out | apply below_alloc | apply pw_below_drewN | apply below_drew1) | exact HB.out)))); have n2_ := Aside0.mk (below_step (by repeat (first | (with_reducible first | exact HB.out | apply below_alloc | apply pw_below_drewN | apply below_drew1) | exact HB.out)) hb); clear HO404; clear HB; have HO404 := n0_; have HO407 := n1_; have HB := n2_; clear n0_ n1_ n2_; (try clear hb); (try clear hb2); (try clear hk); (try clear hi); (try clear ho0); obtain ⟨Ao13, co13, eo13⟩ := Kd.N_slice HO407.out; subst eo13) | (go_at_call 18; (with_reducible refine (worldmintlaw28_lives.calls k  t408 _ A9.out).mono ?_); rintro e w14 ⟨rfl, hb⟩; have n0_ := Aside0.mk (Kd.N_below (by (with_reducible repeat (first | apply Kd.N_alloc | apply Kd.N_drewN | apply Kd.N_drew)); exact HO404.out) hb); have n1_ := Aside0.mk (Kd.N_below (by (with_reducible repeat (first | apply Kd.N_alloc | apply Kd.N_drewN | apply Kd.N_drew)); exact HO407.out) hb); have n2_ := Aside0.mk (below_step (by repeat (first | (with_reducible first | exact HB.out | apply below_alloc | apply pw_below_drewN | apply below_drew1) | exact HB.out)) hb); clear HO404; clear HO407; clear HB; have HO404 := n0_; have HO407 := n1_; have HB := n2_; clear n0_ n1_ n2_; (try clear hb); (try clear hb2); (try clear hk); (try clear hi))); try go_wp2_with (first | (go_at_call 11; (with_reducible refine (worldmintref27_Lots.calls a0 t401 _ A5.out).mono ?_); rintro e w' ⟨rfl, ⟨nd, rfl⟩⟩; (try first | exact ⟨rfl, _, World.drewN_drewN _ _ _⟩ | exact ⟨rfl, _, Eq.trans (World.drewN_drewN _ _ _) (congrArg (World.drewN _) (Nat.add_assoc _ _ _))⟩)) | (go_at_call 12; (with_reducible refine (worldmintref27_Bids.calls k t401 _ _ l1 7 t402 _ ?side1 ?side2 A6.out).mono ?_); (case side1 => repeat (first | exact HR1.out | (with_reducible refine Kd.C_alloc ?_ _) | (with_reducible refine Kd.C_drewN ?_ _) | (with_reducible refine Kd.C_drew ?_))); (case side2 => exact HC1.out); rintro e w10 ⟨v403, rfl, ho0, hb⟩; have n0_ := Aside0.mk (Kd.N_lower (Kd.N_mono (ok' := fun k_ => True) (Kd.S_N (Kd.S_bound ho0)) (fun k_ hk_ => trivial)) (below_size (by repeat (first | (with_reducible first | exact HB.out | apply below_alloc | apply pw_below_drewN | apply below_drew1) | exact HB.out)))); have n1_ := Aside0.mk (below_step (by repeat (first | (with_reducible first | exact HB.out | apply below_alloc | apply pw_below_drewN | apply below_drew1) | exact HB.out)) hb); clear HB; have HO404 := n0_; have HB := n1_; clear n0_ n1_; (try clear hb); (try clear hb2); (try clear hk); (try clear hi); (try clear ho0); obtain ⟨Ao11, co11, eo11⟩ := Kd.N_slice HO404.out; subst eo11) | (go_at_call 15; (with_reducible refine (worldmintlaw28_given.calls k (fun k_ => True) _ _ t402 t405 _ ?side1 A7.out).mono ?_); (case side1 => exact Kd.N_V (HO404.out)); rintro e w12 ⟨v406, rfl, ho0, hb⟩; have n0_ := Aside0.mk (Kd.N_elder' (by (with_reducible repeat (first | apply Kd.N_alloc | apply Kd.N_drewN | apply Kd.N_drew)); exact HO404.out) (by first | exact Kd.N_base ho0 | exact Kd.N_base (Kd.S_N ho0)) hb); have n1_ := Aside0.mk (Kd.N_lower (Kd.N_mono (ok' := fun k_ => True) ho0 (fun k_ hk_ => trivial)) (below_size (by repeat (first | (with_reducible first | exact HB.out | apply below_alloc | apply pw_below_drewN | apply below_drew1) | exact HB.out)))); have n2_ := Aside0.mk (below_step (by repeat (first | (with_reducible first | exact HB.out | apply below_alloc | apply pw_below_drewN | apply below_drew1) | exact HB.out)) hb); clear HO404; clear HB; have HO404 := n0_; have HO407 := n1_; have HB := n2_; clear n0_ n1_ n2_; (try clear hb); (try clear hb2); (try clear hk); (try clear hi); (try clear ho0); obtain ⟨Ao13, co13, eo13⟩ := Kd.N_slice HO407.out; subst eo13) | (go_at_call 18; (with_reducible refine (worldmintlaw28_lives.calls k  t408 _ A9.out).mono ?_); rintro e w14 ⟨rfl, hb⟩; have n0_ := Aside0.mk (Kd.N_below (by (with_reducible repeat (first | apply Kd.N_alloc | apply Kd.N_drewN | apply Kd.N_drew)); exact HO404.out) hb); have n1_ := Aside0.mk (Kd.N_below (by (with_reducible repeat (first | apply Kd.N_alloc | apply Kd.N_drewN | apply Kd.N_drew)); exact HO407.out) hb); have n2_ := Aside0.mk (below_step (by repeat (first | (with_reducible first | exact HB.out | apply below_alloc | apply pw_below_drewN | apply below_drew1) | exact HB.out)) hb); clear HO404; clear HO407; clear HB; have HO404 := n0_; have HO407 := n1_; have HB := n2_; clear n0_ n1_ n2_; (try clear hb); (try clear hb2); (try clear hk); (try clear hi))))
  go_ret
  exact ⟨by first | rfl | (simp [errW_none, errW_some] <;> rfl) | (simp [*, errW_none, errW_some] <;> rfl), by repeat (first | (with_reducible first | exact HB.out | apply below_alloc | apply pw_below_drewN | apply below_drew1) | exact HB.out)⟩
 ·rw [if_neg c8] at H
  have c8b0 : ((t405.length : Int) == 0) = false := beq_eq_false_iff_ne.mpr c8
  have c8b1 : ((t405.length : Int) != 0) = true := bne_iff_ne.mpr c8
  have c8b2 : ¬ (t405 = []) := fun h_ => c8 (by rw [h_]; rfl)
  replace H := Option.bind_eq_some_iff.mp H
  obtain ⟨t409, A150, H⟩ := H
  replace H : (worldmintlaw28_ClearTruthful.l0 k a3 t401 t405 t409 0) = some r := H
  have A15 := Aside0.mk A150
  clear A150
  have H' := Aside0.mk H
  clear H
  go_enter Try.func5, Try.ntmps5
  go_wp2_with (first | (go_at_call 11; (with_reducible refine (worldmintref27_Lots.calls a0 t401 _ A5.out).mono ?_); rintro e w' ⟨rfl, ⟨nd, rfl⟩⟩; (try first | exact ⟨rfl, _, World.drewN_drewN _ _ _⟩ | exact ⟨rfl, _, Eq.trans (World.drewN_drewN _ _ _) (congrArg (World.drewN _) (Nat.add_assoc _ _ _))⟩)) | (go_at_call 12; (with_reducible refine (worldmintref27_Bids.calls k t401 _ _ l1 7 t402 _ ?side1 ?side2 A6.out).mono ?_); (case side1 => repeat (first | exact HR1.out | (with_reducible refine Kd.C_alloc ?_ _) | (with_reducible refine Kd.C_drewN ?_ _) | (with_reducible refine Kd.C_drew ?_))); (case side2 => exact HC1.out); rintro e w16 ⟨v403, rfl, ho0, hb⟩; have n0_ := Aside0.mk (Kd.N_lower (Kd.N_mono (ok' := fun k_ => True) (Kd.S_N (Kd.S_bound ho0)) (fun k_ hk_ => trivial)) (below_size (by repeat (first | (with_reducible first | exact HB.out | apply below_alloc | apply pw_below_drewN | apply below_drew1) | exact HB.out)))); have n1_ := Aside0.mk (below_step (by repeat (first | (with_reducible first | exact HB.out | apply below_alloc | apply pw_below_drewN | apply below_drew1) | exact HB.out)) hb); clear HB; have HO404 := n0_; have HB := n1_; clear n0_ n1_; (try clear hb); (try clear hb2); (try clear hk); (try clear hi); (try clear ho0); obtain ⟨Ao17, co17, eo17⟩ := Kd.N_slice HO404.out; subst eo17) | (go_at_call 15; (with_reducible refine (worldmintlaw28_given.calls k (fun k_ => True) _ _ t402 t405 _ ?side1 A7.out).mono ?_); (case side1 => exact Kd.N_V (HO404.out)); rintro e w18 ⟨v406, rfl, ho0, hb⟩; have n0_ := Aside0.mk (Kd.N_elder' (by (with_reducible repeat (first | apply Kd.N_alloc | apply Kd.N_drewN | apply Kd.N_drew)); exact HO404.out) (by first | exact Kd.N_base ho0 | exact Kd.N_base (Kd.S_N ho0)) hb); have n1_ := Aside0.mk (Kd.N_lower (Kd.N_mono (ok' := fun k_ => True) ho0 (fun k_ hk_ => trivial)) (below_size (by repeat (first | (with_reducible first | exact HB.out | apply below_alloc | apply pw_below_drewN | apply below_drew1) | exact HB.out)))); have n2_ := Aside0.mk (below_step (by repeat (first | (with_reducible first | exact HB.out | apply below_alloc | apply pw_below_drewN | apply below_drew1) | exact HB.out)) hb); clear HO404; clear HB; have HO404 := n0_; have HO407 := n1_; have HB := n2_; clear n0_ n1_ n2_; (try clear hb); (try clear hb2); (try clear hk); (try clear hi); (try clear ho0); obtain ⟨Ao19, co19, eo19⟩ := Kd.N_slice HO407.out; subst eo19) | (go_at_call 20; (with_reducible refine (worldmintref01_Around.calls a2 (t405.length : Int) t409 _ A15.out).mono ?_); rintro e w' ⟨rfl, ⟨nd, rfl⟩⟩; (try first | exact ⟨rfl, _, World.drewN_drewN _ _ _⟩ | exact ⟨rfl, _, Eq.trans (World.drewN_drewN _ _ _) (congrArg (World.drewN _) (Nat.add_assoc _ _ _))⟩)))
  repeat (go_quiet (first | (go_at_call 11; (with_reducible refine (worldmintref27_Lots.calls a0 t401 _ A5.out).mono ?_); rintro e w' ⟨rfl, ⟨nd, rfl⟩⟩; (try first | exact ⟨rfl, _, World.drewN_drewN _ _ _⟩ | exact ⟨rfl, _, Eq.trans (World.drewN_drewN _ _ _) (congrArg (World.drewN _) (Nat.add_assoc _ _ _))⟩)) | (go_at_call 12; (with_reducible refine (worldmintref27_Bids.calls k t401 _ _ l1 7 t402 _ ?side1 ?side2 A6.out).mono ?_); (case side1 => repeat (first | exact HR1.out | (with_reducible refine Kd.C_alloc ?_ _) | (with_reducible refine Kd.C_drewN ?_ _) | (with_reducible refine Kd.C_drew ?_))); (case side2 => exact HC1.out); rintro e w16 ⟨v403, rfl, ho0, hb⟩; have n0_ := Aside0.mk (Kd.N_lower (Kd.N_mono (ok' := fun k_ => True) (Kd.S_N (Kd.S_bound ho0)) (fun k_ hk_ => trivial)) (below_size (by repeat (first | (with_reducible first | exact HB.out | apply below_alloc | apply pw_below_drewN | apply below_drew1) | exact HB.out)))); have n1_ := Aside0.mk (below_step (by repeat (first | (with_reducible first | exact HB.out | apply below_alloc | apply pw_below_drewN | apply below_drew1) | exact HB.out)) hb); clear HB; have HO404 := n0_; have HB := n1_; clear n0_ n1_; (try clear hb); (try clear hb2); (try clear hk); (try clear hi); (try clear ho0); obtain ⟨Ao17, co17, eo17⟩ := Kd.N_slice HO404.out; subst eo17) | (go_at_call 15; (with_reducible refine (worldmintlaw28_given.calls k (fun k_ => True) _ _ t402 t405 _ ?side1 A7.out).mono ?_); (case side1 => exact Kd.N_V (HO404.out)); rintro e w18 ⟨v406, rfl, ho0, hb⟩; have n0_ := Aside0.mk (Kd.N_elder' (by (with_reducible repeat (first | apply Kd.N_alloc | apply Kd.N_drewN | apply Kd.N_drew)); exact HO404.out) (by first | exact Kd.N_base ho0 | exact Kd.N_base (Kd.S_N ho0)) hb); have n1_ := Aside0.mk (Kd.N_lower (Kd.N_mono (ok' := fun k_ => True) ho0 (fun k_ hk_ => trivial)) (below_size (by repeat (first | (with_reducible first | exact HB.out | apply below_alloc | apply pw_below_drewN | apply below_drew1) | exact HB.out)))); have n2_ := Aside0.mk (below_step (by repeat (first | (with_reducible first | exact HB.out | apply below_alloc | apply pw_below_drewN | apply below_drew1) | exact HB.out)) hb); clear HO404; clear HB; have HO404 := n0_; have HO407 := n1_; have HB := n2_; clear n0_ n1_ n2_; (try clear hb); (try clear hb2); (try clear hk); (try clear hi); (try clear ho0); obtain ⟨Ao19, co19, eo19⟩ := Kd.N_slice HO407.out; subst eo19) | (go_at_call 20; (with_reducible refine (worldmintref01_Around.calls a2 (t405.length : Int) t409 _ A15.out).mono ?_); rintro e w' ⟨rfl, ⟨nd, rfl⟩⟩; (try first | exact ⟨rfl, _, World.drewN_drewN _ _ _⟩ | exact ⟨rfl, _, Eq.trans (World.drewN_drewN _ _ _) (congrArg (World.drewN _) (Nat.add_assoc _ _ _))⟩))); try go_wp2_with (first | (go_at_call 11; (with_reducible refine (worldmintref27_Lots.calls a0 t401 _ A5.out).mono ?_); rintro e w' ⟨rfl, ⟨nd, rfl⟩⟩; (try first | exact ⟨rfl, _, World.drewN_drewN _ _ _⟩ | exact ⟨rfl, _, Eq.trans (World.drewN_drewN _ _ _) (congrArg (World.drewN _) (Nat.add_assoc _ _ _))⟩)) | (go_at_call 12; (with_reducible refine (worldmintref27_Bids.calls k t401 _ _ l1 7 t402 _ ?side1 ?side2 A6.out).mono ?_); (case side1 => repeat (first | exact HR1.out | (with_reducible refine Kd.C_alloc ?_ _) | (with_reducible refine Kd.C_drewN ?_ _) | (with_reducible refine Kd.C_drew ?_))); (case side2 => exact HC1.out); rintro e w16 ⟨v403, rfl, ho0, hb⟩; have n0_ := Aside0.mk (Kd.N_lower (Kd.N_mono (ok' := fun k_ => True) (Kd.S_N (Kd.S_bound ho0)) (fun k_ hk_ => trivial)) (below_size (by repeat (first | (with_reducible first | exact HB.out | apply below_alloc | apply pw_below_drewN | apply below_drew1) | exact HB.out)))); have n1_ := Aside0.mk (below_step (by repeat (first | (with_reducible first | exact HB.out | apply below_alloc | apply pw_below_drewN | apply below_drew1) | exact HB.out)) hb); clear HB; have HO404 := n0_; have HB := n1_; clear n0_ n1_; (try clear hb); (try clear hb2); (try clear hk); (try clear hi); (try clear ho0); obtain ⟨Ao17, co17, eo17⟩ := Kd.N_slice HO404.out; subst eo17) | (go_at_call 15; (with_reducible refine (worldmintlaw28_given.calls k (fun k_ => True) _ _ t402 t405 _ ?side1 A7.out).mono ?_); (case side1 => exact Kd.N_V (HO404.out)); rintro e w18 ⟨v406, rfl, ho0, hb⟩; have n0_ := Aside0.mk (Kd.N_elder' (by (with_reducible repeat (first | apply Kd.N_alloc | apply Kd.N_drewN | apply Kd.N_drew)); exact HO404.out) (by first | exact Kd.N_base ho0 | exact Kd.N_base (Kd.S_N ho0)) hb); have n1_ := Aside0.mk (Kd.N_lower (Kd.N_mono (ok' := fun k_ => True) ho0 (fun k_ hk_ => trivial)) (below_size (by repeat (first | (with_reducible first | exact HB.out | apply below_alloc | apply pw_below_drewN | apply below_drew1) | exact HB.out)))); have n2_ := Aside0.mk (below_step (by repeat (first | (with_reducible first | exact HB.out | apply below_alloc | apply pw_below_drewN | apply below_drew1) | exact HB.out)) hb); clear HO404; clear HB; have HO404 := n0_; have HO407 := n1_; have HB := n2_; clear n0_ n1_ n2_; (try clear hb); (try clear hb2); (try clear hk); (try clear hi); (try clear ho0); obtain ⟨Ao19, co19, eo19⟩ := Kd.N_slice HO407.out; subst eo19) | (go_at_call 20; (with_reducible refine (worldmintref01_Around.calls a2 (t405.length : Int) t409 _ A15.out).mono ?_); rintro e w' ⟨rfl, ⟨nd, rfl⟩⟩; (try first | exact ⟨rfl, _, World.drewN_drewN _ _ _⟩ | exact ⟨rfl, _, Eq.trans (World.drewN_drewN _ _ _) (congrArg (World.drewN _) (Nat.add_assoc _ _ _))⟩))))
  go_loopg [12] k (fun kq v12 w' => ∃ (x10_1 : List (S45)) (x12_1 : Int), v12 = .int .i64 x12_1 ∧ Aside0 (worldmintlaw28_ClearTruthful.l0 kq a3 t401 x10_1 t409 x12_1 = some r) ∧ Aside0 (kq ≤ k) ∧ Aside0 (Kd.N k45 45 w' w.heap.size (fun _ => True) (.slice Ao19 t405.length co19) x10_1) ∧ Aside0 (Below w.heap.size w w'))
  case atStart => exact ⟨(t405), (0), (by first | rfl | (simp; done) | (simp [*]; done)), H', ⟨Nat.le_refl _⟩, ⟨by (with_reducible repeat (first | apply Kd.N_alloc | apply Kd.N_drewN | apply Kd.N_drew)); exact HO407.out⟩, ⟨by repeat (first | (with_reducible first | exact HB.out | apply below_alloc | apply pw_below_drewN | apply below_drew1) | exact HB.out)⟩⟩
  case round =>
   clear H'
   try clear c1
   try clear p2
   try clear c5
   try clear c8
   try clear c8b0
   try clear c8b1
   try clear c8b2
   obtain ⟨x10_1, x12_1, rfl, HA, HK1, HO_10, HB⟩ := hrel
   have hl10_1 := (Kd.N_reads' HO_10.out).1
   rw [hl10_1] at HO_10
   (try simp only [hl10_1])
   cases gk with
   | zero => exact absurd HA.out (by simp [worldmintlaw28_ClearTruthful.l0])
   | succ k1 =>
    have H := HA.out
    clear HA
    simp only [worldmintlaw28_ClearTruthful.l0] at H
    by_cases c20 : x12_1 < (x10_1.length : Int)
    ·rw [if_pos c20] at H
     have c20b0 : decide (x12_1 < (x10_1.length : Int)) = true := decide_eq_true c20
     clear c20
     by_cases c21 : x12_1 = t409
     ·rw [if_pos c21] at H
      have c21b0 : (x12_1 == t409) = true := beq_iff_eq.mpr c21
      have c21b1 : (x12_1 != t409) = false := bne_eq_false_iff_eq.mpr c21
      clear c21
      have H' := Aside0.mk H
      clear H
      go_wp2
      repeat (go_quiet (fail); try go_wp2)
      (try simp only [← hl10_1])
      go_roundg k1
      case measure => have := HK1.out; omega
      case rel => exact ⟨(x10_1), (wrap64 (x12_1 + 1)), (by first | rfl | (simp; done) | (simp [*]; done)), H', ⟨by have := HK1.out; omega⟩, ⟨by (try simp only [hl10_1]); (with_reducible repeat (first | apply Kd.N_alloc | apply Kd.N_drewN | apply Kd.N_drew)); exact HO_10.out⟩, ⟨by repeat (first | (with_reducible first | exact HB.out | apply below_alloc | apply pw_below_drewN | apply below_drew1) | exact HB.out)⟩⟩
     ·rw [if_neg c21] at H
      have c21b0 : (x12_1 == t409) = false := beq_eq_false_iff_ne.mpr c21
      have c21b1 : (x12_1 != t409) = true := bne_iff_ne.mpr c21
      by_cases c22 : 0 ≤ x12_1
      ·rw [if_pos c22] at H
       have c22b0 : decide (0 ≤ x12_1) = true := decide_eq_true c22
       clear c22
       by_cases c23 : 0 ≤ t409
       ·rw [if_pos c23] at H
        have c23b0 : decide (0 ≤ t409) = true := decide_eq_true c23
        clear c23
        by_cases c24 : t409 < (x10_1.length : Int)
        ·rw [if_pos c24] at H
         have c24b0 : decide (t409 < (x10_1.length : Int)) = true := decide_eq_true c24
         clear c24
         by_cases c25 : ((rd_T45 x10_1 x12_1).f0) = ((rd_T45 x10_1 t409).f0)
         ·rw [if_pos c25] at H
          have c25b0 : (((rd_T45 x10_1 x12_1).f0) == ((rd_T45 x10_1 t409).f0)) = true := beq_iff_eq.mpr c25
          have c25b1 : (((rd_T45 x10_1 x12_1).f0) != ((rd_T45 x10_1 t409).f0)) = false := bne_eq_false_iff_eq.mpr c25
          clear c25
          obtain ⟨y412, hy412⟩ : ∃ y_ : List (S45), y_ = (x10_1.set (x12_1 : Int).toNat (⟨wrap64 (100 + x12_1), (rd_T45 x10_1 x12_1).f1, (rd_T45 x10_1 x12_1).f2⟩ : S45)) := ⟨_, rfl⟩
          replace H : (worldmintlaw28_ClearTruthful.l0 k1 a3 t401 y412 t409 (wrap64 (x12_1 + 1))) = some r := by first | (rw [hy412]; with_reducible exact H) | (have H2_ := (Option.bind_some _ _).symm.trans H; rw [hy412]; with_reducible exact H2_) | (have H2_ := (Option.bind_some _ _).symm.trans H; with_reducible exact H2_) | with_reducible exact H | (rw [hy412]; exact H) | exact H
          have Ny412 := Aside0.mk hy412
          clear hy412
          have H' := Aside0.mk H
          clear H
          have p410 : 0 ≤ (x12_1 : Int) := of_decide_eq_true (by first | (with_reducible assumption) | assumption)
          have q410 : x12_1 < (x10_1.length : Int) := of_decide_eq_true (by first | (with_reducible assumption) | assumption)
          obtain ⟨ad410, A410_2, c410_2, e410, hx410_0, hx410_1, hx410_2, hl410_2, hi410_2⟩ := at_T45 (Kd.N_reads' HO_10.out).2.2 x12_1 p410 q410
          cases e410
          obtain ⟨ce410, hce410, hMe410, hcc410⟩ := Kd.N_get HO_10.out z45 x12_1 p410 (by first | exact q410 | exact of_decide_eq_true (by first | (with_reducible assumption) | assumption) | (have e_ := (Kd.N_reads' HO_10.out).1; omega))
          obtain ⟨ua410_2, uc410_2, rfl, ul410_2, ge410_2⟩ := k45_openF hMe410
          have hv410_2 := hcc410 2 _ rfl
          rw [add_field _ _ 2 (by omega)] at hv410_2
          replace hv410_2 := Option.some.inj (hv410_2.symm.trans hx410_2)
          injection hv410_2 with hva_ hvn_ hvc_
          rw [hva_] at ge410_2
          rw [hvc_] at ul410_2
          have HL410_2 := Aside0.mk (show Kd.V (Kd.int .i64) 3 _ w.heap.size _ _ ((rd_T45 x10_1 x12_1).f2) from Kd.V_mk ul410_2 ge410_2)
          clear hva_ hvn_ hvc_ ge410_2 ul410_2
          clear hcc410 hce410
          have HR410_2 := Aside0.mk hi410_2
          have HC410_2 := Aside0.mk hl410_2
          clear hi410_2 hl410_2
          replace p410 := eq_true p410
          replace q410 := eq_true q410
          have p411 : 0 ≤ (t409 : Int) := of_decide_eq_true (by first | (with_reducible assumption) | assumption)
          have q411 : t409 < (x10_1.length : Int) := of_decide_eq_true (by first | (with_reducible assumption) | assumption)
          obtain ⟨ad411, A411_2, c411_2, e411, hx411_0, hx411_1, hx411_2, hl411_2, hi411_2⟩ := at_T45 (Kd.N_reads' HO_10.out).2.2 t409 p411 q411
          obtain rfl : ad410 = ad411 := (by injection e411)
          obtain ⟨ce411, hce411, hMe411, hcc411⟩ := Kd.N_get HO_10.out z45 t409 p411 (by first | exact q411 | exact of_decide_eq_true (by first | (with_reducible assumption) | assumption) | (have e_ := (Kd.N_reads' HO_10.out).1; omega))
          obtain ⟨ua411_2, uc411_2, rfl, ul411_2, ge411_2⟩ := k45_openF hMe411
          have hv411_2 := hcc411 2 _ rfl
          rw [add_field _ _ 2 (by omega)] at hv411_2
          replace hv411_2 := Option.some.inj (hv411_2.symm.trans hx411_2)
          injection hv411_2 with hva_ hvn_ hvc_
          rw [hva_] at ge411_2
          rw [hvc_] at ul411_2
          have HL411_2 := Aside0.mk (show Kd.V (Kd.int .i64) 3 _ w.heap.size _ _ ((rd_T45 x10_1 t409).f2) from Kd.V_mk ul411_2 ge411_2)
          clear hva_ hvn_ hvc_ ge411_2 ul411_2
          clear hcc411 hce411
          have HR411_2 := Aside0.mk hi411_2
          have HC411_2 := Aside0.mk hl411_2
          clear hi411_2 hl411_2
          replace p411 := eq_true p411
          replace q411 := eq_true q411
          have p26 : 0 ≤ (x12_1 : Int) := of_decide_eq_true (by first | (with_reducible assumption) | assumption)
          have q26 : (x12_1 : Int) < ((x10_1.length : Int) : Int) := of_decide_eq_true (by first | (with_reducible assumption) | assumption)
          obtain ⟨go26, co26, eo26, gb26, gl26, cl26, HG26⟩ := Kd.N_form HO_10.out (by omega)
          (first | cases eo26 | (injection eo26 with ea_ en_ ec_; (first | subst ea_ | (injection ea_ with ea_; subst ea_)); subst ec_; clear en_))
          have GB26 := Aside0.mk gb26
          have GG26 := Aside0.mk HG26
          clear gb26 gl26 HG26
          (first | simp only [add_plain] at hx410_0 | skip)
          (first | simp only [add_plain] at hx410_1 | skip)
          (first | simp only [add_plain] at hx410_2 | skip)
          (first | simp only [add_plain] at hx411_0 | skip)
          (first | simp only [add_plain] at hx411_1 | skip)
          (first | simp only [add_plain] at hx411_2 | skip)
          obtain ⟨ce26, hcl26, hM26, hcc26, hfr26⟩ := Kd.N_elem HO_10.out z45 (x12_1 : Int) p26 q26
          obtain ⟨ua26_2, uc26_2, rfl, ul26_2, ge26_2⟩ := k45_openF hM26
          have hx26_0 : wr.cell? ⟨go26, (x12_1 : Int).toNat * 3, none⟩ = some (.int .i64 ((rd_T45 x10_1 x12_1).f0)) := hcc26 0 _ rfl
          have hx26_1 : wr.cell? ⟨go26, (x12_1 : Int).toNat * 3 + 1, none⟩ = some (.int .i64 ((rd_T45 x10_1 x12_1).f1)) := hcc26 1 _ rfl
          have hx26_2 : wr.cell? ⟨go26, (x12_1 : Int).toNat * 3 + 2, none⟩ = some (.slice ua26_2 ((rd_T45 x10_1 x12_1).f2).length uc26_2) := hcc26 2 _ rfl
          have hf26_0 : wr.frozen? ⟨go26, (x12_1 : Int).toNat * 3, none⟩ = false := hfr26 0
          have hf26_1 : wr.frozen? ⟨go26, (x12_1 : Int).toNat * 3 + 1, none⟩ = false := hfr26 1
          have hf26_2 : wr.frozen? ⟨go26, (x12_1 : Int).toNat * 3 + 2, none⟩ = false := hfr26 2
          clear hcl26 hcc26 hfr26 hM26
          replace p26 := eq_true p26
          replace q26 := eq_true q26
          have HX27 := Aside0.mk (show Kd.N k45 45 wr w.heap.size (fun _ => True) (.slice (some ⟨go26, 0, none⟩) x10_1.length co19) x10_1 from (by (with_reducible repeat (first | apply Kd.N_alloc | apply Kd.N_drewN | apply Kd.N_drew)); exact HO_10.out))
          obtain ⟨ce27, hcl27, hM27, hcc27, hfr27⟩ := Kd.N_elem HX27.out z45 (x12_1 : Int) (of_decide_eq_true (by first | (with_reducible assumption) | assumption)) (by have h_ : (x12_1 : Int) < ((x10_1.length : Int) : Int) := of_decide_eq_true (by first | (with_reducible assumption) | assumption); first | exact h_ | (have e_ := (Kd.N_reads' HO_10.out).1; omega) | simpa using h_)
          obtain ⟨ua27_2, uc27_2, rfl, ul27_2, ge27_2⟩ := k45_openF hM27
          have HP27 := Kd.N_seg HX27.out (x12_1 : Int) (of_decide_eq_true (by first | (with_reducible assumption) | assumption)) (by have h_ : (x12_1 : Int) < ((x10_1.length : Int) : Int) := of_decide_eq_true (by first | (with_reducible assumption) | assumption); first | exact h_ | (have e_ := (Kd.N_reads' HO_10.out).1; omega) | simpa using h_) (seg := [.int .i64 (wrap64 (100 + x12_1))]) (j := 0) hcl27 hcc27 (show 1 ≤ 3 from by decide) (x' := (⟨wrap64 (100 + x12_1), (rd_T45 x10_1 x12_1).f1, (rd_T45 x10_1 x12_1).f2⟩ : S45)) (k45_mkF _ _ (⟨wrap64 (100 + x12_1), (rd_T45 x10_1 x12_1).f1, (rd_T45 x10_1 x12_1).f2⟩ : S45) ul27_2 ge27_2) (fun _ hk => hk)
          have hx27_0 := hcc27 0 _ rfl
          (try simp only [show (k45).sz = 3 from rfl, Nat.mul_one, Nat.add_zero] at hx27_0)
          have hf27_0 := hfr27 0
          (try simp only [show (k45).sz = 3 from rfl, Nat.mul_one, Nat.add_zero] at hf27_0)
          clear hcl27 hcc27 hfr27 hM27
          go_wp2_with (first | ((with_reducible refine gate_store (t := 3) (p := 58) rfl ?_); (try (rw [drewN_self wr]; generalize hq_ : World.drewN wr _ = wr; have n0_ := Aside0.mk (Kd.N_at hq_ HO_10.out); have n1_ := Aside0.mk (Kd.V_at hq_ HL410_2.out); have n2_ := Aside0.mk (Kd.V_at hq_ HL411_2.out); have n3_ := Aside0.mk (below_at hq_ HB.out); clear hq_ HO_10 HL410_2 HL411_2 HB; have HO_10 := n0_; have HL410_2 := n1_; have HL411_2 := n2_; have HB := n3_; clear n0_ n1_ n2_ n3_; (try (have HX27 := Aside0.mk (show Kd.N k45 45 wr w.heap.size (fun _ => True) (.slice (some ⟨go26, 0, none⟩) x10_1.length co19) x10_1 from (by (with_reducible repeat (first | apply Kd.N_alloc | apply Kd.N_drewN | apply Kd.N_drew)); exact HO_10.out)))); (try (obtain ⟨ce27, hcl27, hM27, hcc27, hfr27⟩ := Kd.N_elem HX27.out z45 (x12_1 : Int) (of_decide_eq_true (by first | (with_reducible assumption) | assumption)) (by have h_ : (x12_1 : Int) < ((x10_1.length : Int) : Int) := of_decide_eq_true (by first | (with_reducible assumption) | assumption); first | exact h_ | (have e_ := (Kd.N_reads' HO_10.out).1; omega) | simpa using h_))); (try (obtain ⟨ua27_2, uc27_2, rfl, ul27_2, ge27_2⟩ := k45_openF hM27)); (try (have HP27 := Kd.N_seg HX27.out (x12_1 : Int) (of_decide_eq_true (by first | (with_reducible assumption) | assumption)) (by have h_ : (x12_1 : Int) < ((x10_1.length : Int) : Int) := of_decide_eq_true (by first | (with_reducible assumption) | assumption); first | exact h_ | (have e_ := (Kd.N_reads' HO_10.out).1; omega) | simpa using h_) (seg := [.int .i64 (wrap64 (100 + x12_1))]) (j := 0) hcl27 hcc27 (show 1 ≤ 3 from by decide) (x' := (⟨wrap64 (100 + x12_1), (rd_T45 x10_1 x12_1).f1, (rd_T45 x10_1 x12_1).f2⟩ : S45)) (k45_mkF _ _ (⟨wrap64 (100 + x12_1), (rd_T45 x10_1 x12_1).f1, (rd_T45 x10_1 x12_1).f2⟩ : S45) ul27_2 ge27_2) (fun _ hk => hk))); (try (have hx27_0 := hcc27 0 _ rfl)); (try (try simp only [show (k45).sz = 3 from rfl, Nat.mul_one, Nat.add_zero] at hx27_0)); (try (have hf27_0 := hfr27 0)); (try (try simp only [show (k45).sz = 3 from rfl, Nat.mul_one, Nat.add_zero] at hf27_0)); (try (clear hcl27 hcc27 hfr27 hM27)))); refine store_event (t := 3) (p := 58) (v := ?vo_w28) (w1 := (wr.setCell ⟨go26, (x12_1 : Int).toNat * 3, none⟩ (.int .i64 (wrap64 (100 + x12_1))))) ?hg ?ho ?hn ?hr ?_; (case ho => rfl); (case hg => rfl); (case hn => rfl); (case hr => first | (go_simp; done) | (go_simp; rfl)); intro w28 hw; have hg : wr.grownBy w28 (some go26) := (by rw [hw]; exact HP27.2); have hp_ : Kd.N k45 45 w28 w.heap.size (fun _ => True) (.slice (some ⟨go26, 0, none⟩) x10_1.length co19) y412 := (by rw [hw, Ny412.out]; exact HP27.1); clear HP27; have n0_ := Aside0.mk (hp_); have n1_ := Aside0.mk (Kd.V_afterv (v := (.slice (some ⟨go26, 0, none⟩) x10_1.length co19)) (v1 := (.slice (some ⟨go26, 0, none⟩) x10_1.length co19)) (ok := (fun _ => True)) (by (with_reducible repeat (first | apply Kd.V_alloc | apply Kd.V_drewN | apply Kd.V_drew)); first | exact HL410_2.out | exact Kd.V_mono HL410_2.out (fun k_ h_ => ⟨⟨h_.1, h_.2.1⟩, h_.2.2⟩) | exact Kd.V_mono HL410_2.out (fun k_ h_ => ⟨⟨h_.1, h_.2.1, h_.2.2.1⟩, h_.2.2.2⟩) | exact Kd.V_mono HL410_2.out (fun k_ h_ => ⟨h_.1, h_.2⟩)) hg (.inl rfl)); have n2_ := Aside0.mk (Kd.V_afterv (v := (.slice (some ⟨go26, 0, none⟩) x10_1.length co19)) (v1 := (.slice (some ⟨go26, 0, none⟩) x10_1.length co19)) (ok := (fun _ => True)) (by (with_reducible repeat (first | apply Kd.V_alloc | apply Kd.V_drewN | apply Kd.V_drew)); first | exact HL411_2.out | exact Kd.V_mono HL411_2.out (fun k_ h_ => ⟨⟨h_.1, h_.2.1⟩, h_.2.2⟩) | exact Kd.V_mono HL411_2.out (fun k_ h_ => ⟨⟨h_.1, h_.2.1, h_.2.2.1⟩, h_.2.2.2⟩) | exact Kd.V_mono HL411_2.out (fun k_ h_ => ⟨h_.1, h_.2⟩)) hg (.inl rfl)); have n3_ := Aside0.mk ((by rw [hw]; exact below_set (HB.out) GB26.out : Below w.heap.size w w28)); clear HO_10; clear HL410_2; clear HL411_2; clear HB; have HO_10 := n0_; have HL410_2 := n1_; have HL411_2 := n2_; have HB := n3_; clear n0_ n1_ n2_ n3_; clear hg hw hp_))
          repeat (go_quiet (first | ((with_reducible refine gate_store (t := 3) (p := 58) rfl ?_); (try (rw [drewN_self wr]; generalize hq_ : World.drewN wr _ = wr; have n0_ := Aside0.mk (Kd.N_at hq_ HO_10.out); have n1_ := Aside0.mk (Kd.V_at hq_ HL410_2.out); have n2_ := Aside0.mk (Kd.V_at hq_ HL411_2.out); have n3_ := Aside0.mk (below_at hq_ HB.out); clear hq_ HO_10 HL410_2 HL411_2 HB; have HO_10 := n0_; have HL410_2 := n1_; have HL411_2 := n2_; have HB := n3_; clear n0_ n1_ n2_ n3_; (try (have HX27 := Aside0.mk (show Kd.N k45 45 wr w.heap.size (fun _ => True) (.slice (some ⟨go26, 0, none⟩) x10_1.length co19) x10_1 from (by (with_reducible repeat (first | apply Kd.N_alloc | apply Kd.N_drewN | apply Kd.N_drew)); exact HO_10.out)))); (try (obtain ⟨ce27, hcl27, hM27, hcc27, hfr27⟩ := Kd.N_elem HX27.out z45 (x12_1 : Int) (of_decide_eq_true (by first | (with_reducible assumption) | assumption)) (by have h_ : (x12_1 : Int) < ((x10_1.length : Int) : Int) := of_decide_eq_true (by first | (with_reducible assumption) | assumption); first | exact h_ | (have e_ := (Kd.N_reads' HO_10.out).1; omega) | simpa using h_))); (try (obtain ⟨ua27_2, uc27_2, rfl, ul27_2, ge27_2⟩ := k45_openF hM27)); (try (have HP27 := Kd.N_seg HX27.out (x12_1 : Int) (of_decide_eq_true (by first | (with_reducible assumption) | assumption)) (by have h_ : (x12_1 : Int) < ((x10_1.length : Int) : Int) := of_decide_eq_true (by first | (with_reducible assumption) | assumption); first | exact h_ | (have e_ := (Kd.N_reads' HO_10.out).1; omega) | simpa using h_) (seg := [.int .i64 (wrap64 (100 + x12_1))]) (j := 0) hcl27 hcc27 (show 1 ≤ 3 from by decide) (x' := (⟨wrap64 (100 + x12_1), (rd_T45 x10_1 x12_1).f1, (rd_T45 x10_1 x12_1).f2⟩ : S45)) (k45_mkF _ _ (⟨wrap64 (100 + x12_1), (rd_T45 x10_1 x12_1).f1, (rd_T45 x10_1 x12_1).f2⟩ : S45) ul27_2 ge27_2) (fun _ hk => hk))); (try (have hx27_0 := hcc27 0 _ rfl)); (try (try simp only [show (k45).sz = 3 from rfl, Nat.mul_one, Nat.add_zero] at hx27_0)); (try (have hf27_0 := hfr27 0)); (try (try simp only [show (k45).sz = 3 from rfl, Nat.mul_one, Nat.add_zero] at hf27_0)); (try (clear hcl27 hcc27 hfr27 hM27)))); refine store_event (t := 3) (p := 58) (v := ?vo_w28) (w1 := (wr.setCell ⟨go26, (x12_1 : Int).toNat * 3, none⟩ (.int .i64 (wrap64 (100 + x12_1))))) ?hg ?ho ?hn ?hr ?_; (case ho => rfl); (case hg => rfl); (case hn => rfl); (case hr => first | (go_simp; done) | (go_simp; rfl)); intro w28 hw; have hg : wr.grownBy w28 (some go26) := (by rw [hw]; exact HP27.2); have hp_ : Kd.N k45 45 w28 w.heap.size (fun _ => True) (.slice (some ⟨go26, 0, none⟩) x10_1.length co19) y412 := (by rw [hw, Ny412.out]; exact HP27.1); clear HP27; have n0_ := Aside0.mk (hp_); have n1_ := Aside0.mk (Kd.V_afterv (v := (.slice (some ⟨go26, 0, none⟩) x10_1.length co19)) (v1 := (.slice (some ⟨go26, 0, none⟩) x10_1.length co19)) (ok := (fun _ => True)) (by (with_reducible repeat (first | apply Kd.V_alloc | apply Kd.V_drewN | apply Kd.V_drew)); first | exact HL410_2.out | exact Kd.V_mono HL410_2.out (fun k_ h_ => ⟨⟨h_.1, h_.2.1⟩, h_.2.2⟩) | exact Kd.V_mono HL410_2.out (fun k_ h_ => ⟨⟨h_.1, h_.2.1, h_.2.2.1⟩, h_.2.2.2⟩) | exact Kd.V_mono HL410_2.out (fun k_ h_ => ⟨h_.1, h_.2⟩)) hg (.inl rfl)); have n2_ := Aside0.mk (Kd.V_afterv (v := (.slice (some ⟨go26, 0, none⟩) x10_1.length co19)) (v1 := (.slice (some ⟨go26, 0, none⟩) x10_1.length co19)) (ok := (fun _ => True)) (by (with_reducible repeat (first | apply Kd.V_alloc | apply Kd.V_drewN | apply Kd.V_drew)); first | exact HL411_2.out | exact Kd.V_mono HL411_2.out (fun k_ h_ => ⟨⟨h_.1, h_.2.1⟩, h_.2.2⟩) | exact Kd.V_mono HL411_2.out (fun k_ h_ => ⟨⟨h_.1, h_.2.1, h_.2.2.1⟩, h_.2.2.2⟩) | exact Kd.V_mono HL411_2.out (fun k_ h_ => ⟨h_.1, h_.2⟩)) hg (.inl rfl)); have n3_ := Aside0.mk ((by rw [hw]; exact below_set (HB.out) GB26.out : Below w.heap.size w w28)); clear HO_10; clear HL410_2; clear HL411_2; clear HB; have HO_10 := n0_; have HL410_2 := n1_; have HL411_2 := n2_; have HB := n3_; clear n0_ n1_ n2_ n3_; clear hg hw hp_)); try go_wp2_with (first | ((with_reducible refine gate_store (t := 3) (p := 58) rfl ?_); (try (rw [drewN_self wr]; generalize hq_ : World.drewN wr _ = wr; have n0_ := Aside0.mk (Kd.N_at hq_ HO_10.out); have n1_ := Aside0.mk (Kd.V_at hq_ HL410_2.out); have n2_ := Aside0.mk (Kd.V_at hq_ HL411_2.out); have n3_ := Aside0.mk (below_at hq_ HB.out); clear hq_ HO_10 HL410_2 HL411_2 HB; have HO_10 := n0_; have HL410_2 := n1_; have HL411_2 := n2_; have HB := n3_; clear n0_ n1_ n2_ n3_; (try (have HX27 := Aside0.mk (show Kd.N k45 45 wr w.heap.size (fun _ => True) (.slice (some ⟨go26, 0, none⟩) x10_1.length co19) x10_1 from (by (with_reducible repeat (first | apply Kd.N_alloc | apply Kd.N_drewN | apply Kd.N_drew)); exact HO_10.out)))); (try (obtain ⟨ce27, hcl27, hM27, hcc27, hfr27⟩ := Kd.N_elem HX27.out z45 (x12_1 : Int) (of_decide_eq_true (by first | (with_reducible assumption) | assumption)) (by have h_ : (x12_1 : Int) < ((x10_1.length : Int) : Int) := of_decide_eq_true (by first | (with_reducible assumption) | assumption); first | exact h_ | (have e_ := (Kd.N_reads' HO_10.out).1; omega) | simpa using h_))); (try (obtain ⟨ua27_2, uc27_2, rfl, ul27_2, ge27_2⟩ := k45_openF hM27)); (try (have HP27 := Kd.N_seg HX27.out (x12_1 : Int) (of_decide_eq_true (by first | (with_reducible assumption) | assumption)) (by have h_ : (x12_1 : Int) < ((x10_1.length : Int) : Int) := of_decide_eq_true (by first | (with_reducible assumption) | assumption); first | exact h_ | (have e_ := (Kd.N_reads' HO_10.out).1; omega) | simpa using h_) (seg := [.int .i64 (wrap64 (100 + x12_1))]) (j := 0) hcl27 hcc27 (show 1 ≤ 3 from by decide) (x' := (⟨wrap64 (100 + x12_1), (rd_T45 x10_1 x12_1).f1, (rd_T45 x10_1 x12_1).f2⟩ : S45)) (k45_mkF _ _ (⟨wrap64 (100 + x12_1), (rd_T45 x10_1 x12_1).f1, (rd_T45 x10_1 x12_1).f2⟩ : S45) ul27_2 ge27_2) (fun _ hk => hk))); (try (have hx27_0 := hcc27 0 _ rfl)); (try (try simp only [show (k45).sz = 3 from rfl, Nat.mul_one, Nat.add_zero] at hx27_0)); (try (have hf27_0 := hfr27 0)); (try (try simp only [show (k45).sz = 3 from rfl, Nat.mul_one, Nat.add_zero] at hf27_0)); (try (clear hcl27 hcc27 hfr27 hM27)))); refine store_event (t := 3) (p := 58) (v := ?vo_w28) (w1 := (wr.setCell ⟨go26, (x12_1 : Int).toNat * 3, none⟩ (.int .i64 (wrap64 (100 + x12_1))))) ?hg ?ho ?hn ?hr ?_; (case ho => rfl); (case hg => rfl); (case hn => rfl); (case hr => first | (go_simp; done) | (go_simp; rfl)); intro w28 hw; have hg : wr.grownBy w28 (some go26) := (by rw [hw]; exact HP27.2); have hp_ : Kd.N k45 45 w28 w.heap.size (fun _ => True) (.slice (some ⟨go26, 0, none⟩) x10_1.length co19) y412 := (by rw [hw, Ny412.out]; exact HP27.1); clear HP27; have n0_ := Aside0.mk (hp_); have n1_ := Aside0.mk (Kd.V_afterv (v := (.slice (some ⟨go26, 0, none⟩) x10_1.length co19)) (v1 := (.slice (some ⟨go26, 0, none⟩) x10_1.length co19)) (ok := (fun _ => True)) (by (with_reducible repeat (first | apply Kd.V_alloc | apply Kd.V_drewN | apply Kd.V_drew)); first | exact HL410_2.out | exact Kd.V_mono HL410_2.out (fun k_ h_ => ⟨⟨h_.1, h_.2.1⟩, h_.2.2⟩) | exact Kd.V_mono HL410_2.out (fun k_ h_ => ⟨⟨h_.1, h_.2.1, h_.2.2.1⟩, h_.2.2.2⟩) | exact Kd.V_mono HL410_2.out (fun k_ h_ => ⟨h_.1, h_.2⟩)) hg (.inl rfl)); have n2_ := Aside0.mk (Kd.V_afterv (v := (.slice (some ⟨go26, 0, none⟩) x10_1.length co19)) (v1 := (.slice (some ⟨go26, 0, none⟩) x10_1.length co19)) (ok := (fun _ => True)) (by (with_reducible repeat (first | apply Kd.V_alloc | apply Kd.V_drewN | apply Kd.V_drew)); first | exact HL411_2.out | exact Kd.V_mono HL411_2.out (fun k_ h_ => ⟨⟨h_.1, h_.2.1⟩, h_.2.2⟩) | exact Kd.V_mono HL411_2.out (fun k_ h_ => ⟨⟨h_.1, h_.2.1, h_.2.2.1⟩, h_.2.2.2⟩) | exact Kd.V_mono HL411_2.out (fun k_ h_ => ⟨h_.1, h_.2⟩)) hg (.inl rfl)); have n3_ := Aside0.mk ((by rw [hw]; exact below_set (HB.out) GB26.out : Below w.heap.size w w28)); clear HO_10; clear HL410_2; clear HL411_2; clear HB; have HO_10 := n0_; have HL410_2 := n1_; have HL411_2 := n2_; have HB := n3_; clear n0_ n1_ n2_ n3_; clear hg hw hp_)))
          (try simp only [← hl10_1])
          go_roundg k1
          case measure => have := HK1.out; omega
          case rel => exact ⟨(y412), (wrap64 (x12_1 + 1)), (by first | rfl | (simp; done) | (simp [*]; done)), H', ⟨by have := HK1.out; omega⟩, ⟨by (try simp only [hl10_1]); (with_reducible repeat (first | apply Kd.N_alloc | apply Kd.N_drewN | apply Kd.N_drew)); first | exact HO_10.out | (rw [Ny412.out]; exact Kd.N_drewN HP27.1 _)⟩, ⟨by repeat (first | (with_reducible first | exact HB.out | apply below_alloc | apply pw_below_drewN | apply below_drew1) | refine below_set ?_ GB26.out | exact HB.out)⟩⟩
         ·rw [if_neg c25] at H
          have c25b0 : (((rd_T45 x10_1 x12_1).f0) == ((rd_T45 x10_1 t409).f0)) = false := beq_eq_false_iff_ne.mpr c25
          have c25b1 : (((rd_T45 x10_1 x12_1).f0) != ((rd_T45 x10_1 t409).f0)) = true := bne_iff_ne.mpr c25
          have H' := Aside0.mk H
          clear H
          have p410 : 0 ≤ (x12_1 : Int) := of_decide_eq_true (by first | (with_reducible assumption) | assumption)
          have q410 : x12_1 < (x10_1.length : Int) := of_decide_eq_true (by first | (with_reducible assumption) | assumption)
          obtain ⟨ad410, A410_2, c410_2, e410, hx410_0, hx410_1, hx410_2, hl410_2, hi410_2⟩ := at_T45 (Kd.N_reads' HO_10.out).2.2 x12_1 p410 q410
          cases e410
          obtain ⟨ce410, hce410, hMe410, hcc410⟩ := Kd.N_get HO_10.out z45 x12_1 p410 (by first | exact q410 | exact of_decide_eq_true (by first | (with_reducible assumption) | assumption) | (have e_ := (Kd.N_reads' HO_10.out).1; omega))
          obtain ⟨ua410_2, uc410_2, rfl, ul410_2, ge410_2⟩ := k45_openF hMe410
          have hv410_2 := hcc410 2 _ rfl
          rw [add_field _ _ 2 (by omega)] at hv410_2
          replace hv410_2 := Option.some.inj (hv410_2.symm.trans hx410_2)
          injection hv410_2 with hva_ hvn_ hvc_
          rw [hva_] at ge410_2
          rw [hvc_] at ul410_2
          have HL410_2 := Aside0.mk (show Kd.V (Kd.int .i64) 3 _ w.heap.size _ _ ((rd_T45 x10_1 x12_1).f2) from Kd.V_mk ul410_2 ge410_2)
          clear hva_ hvn_ hvc_ ge410_2 ul410_2
          clear hcc410 hce410
          have HR410_2 := Aside0.mk hi410_2
          have HC410_2 := Aside0.mk hl410_2
          clear hi410_2 hl410_2
          replace p410 := eq_true p410
          replace q410 := eq_true q410
          have p411 : 0 ≤ (t409 : Int) := of_decide_eq_true (by first | (with_reducible assumption) | assumption)
          have q411 : t409 < (x10_1.length : Int) := of_decide_eq_true (by first | (with_reducible assumption) | assumption)
          obtain ⟨ad411, A411_2, c411_2, e411, hx411_0, hx411_1, hx411_2, hl411_2, hi411_2⟩ := at_T45 (Kd.N_reads' HO_10.out).2.2 t409 p411 q411
          obtain rfl : ad410 = ad411 := (by injection e411)
          obtain ⟨ce411, hce411, hMe411, hcc411⟩ := Kd.N_get HO_10.out z45 t409 p411 (by first | exact q411 | exact of_decide_eq_true (by first | (with_reducible assumption) | assumption) | (have e_ := (Kd.N_reads' HO_10.out).1; omega))
          obtain ⟨ua411_2, uc411_2, rfl, ul411_2, ge411_2⟩ := k45_openF hMe411
          have hv411_2 := hcc411 2 _ rfl
          rw [add_field _ _ 2 (by omega)] at hv411_2
          replace hv411_2 := Option.some.inj (hv411_2.symm.trans hx411_2)
          injection hv411_2 with hva_ hvn_ hvc_
          rw [hva_] at ge411_2
          rw [hvc_] at ul411_2
          have HL411_2 := Aside0.mk (show Kd.V (Kd.int .i64) 3 _ w.heap.size _ _ ((rd_T45 x10_1 t409).f2) from Kd.V_mk ul411_2 ge411_2)
          clear hva_ hvn_ hvc_ ge411_2 ul411_2
          clear hcc411 hce411
          have HR411_2 := Aside0.mk hi411_2
          have HC411_2 := Aside0.mk hl411_2
          clear hi411_2 hl411_2
          replace p411 := eq_true p411
          replace q411 := eq_true q411
          go_wp2
          repeat (go_quiet (fail); try go_wp2)
          (try simp only [← hl10_1])
          go_roundg k1
          case measure => have := HK1.out; omega
          case rel => exact ⟨(x10_1), (wrap64 (x12_1 + 1)), (by first | rfl | (simp; done) | (simp [*]; done)), H', ⟨by have := HK1.out; omega⟩, ⟨by (try simp only [hl10_1]); (with_reducible repeat (first | apply Kd.N_alloc | apply Kd.N_drewN | apply Kd.N_drew)); exact HO_10.out⟩, ⟨by repeat (first | (with_reducible first | exact HB.out | apply below_alloc | apply pw_below_drewN | apply below_drew1) | exact HB.out)⟩⟩
        ·rw [if_neg c24] at H
         exact absurd H (by simp)
       ·rw [if_neg c23] at H
        exact absurd H (by simp)
      ·rw [if_neg c22] at H
       exact absurd H (by simp)
    ·rw [if_neg c20] at H
     have c20b0 : decide (x12_1 < (x10_1.length : Int)) = false := decide_eq_false c20
     clear c20
     by_cases c29 : 0 ≤ t409
     ·rw [if_pos c29] at H
      have c29b0 : decide (0 ≤ t409) = true := decide_eq_true c29
      clear c29
      by_cases c30 : t409 < (x10_1.length : Int)
      ·rw [if_pos c30] at H
       have c30b0 : decide (t409 < (x10_1.length : Int)) = true := decide_eq_true c30
       clear c30
       replace H := Option.bind_eq_some_iff.mp H
       obtain ⟨t414, A310, H⟩ := H
       replace H : (worldmintlaw28_ClearTruthful.l1 k1 a3 t401 x10_1 t409 ((rd_T45 x10_1 t409).f1) t414 0) = some r := H
       have A31 := Aside0.mk A310
       clear A310
       have H' := Aside0.mk H
       clear H
       have p413 : 0 ≤ (t409 : Int) := of_decide_eq_true (by first | (with_reducible assumption) | assumption)
       have q413 : t409 < (x10_1.length : Int) := of_decide_eq_true (by first | (with_reducible assumption) | assumption)
       obtain ⟨ad413, A413_2, c413_2, e413, hx413_0, hx413_1, hx413_2, hl413_2, hi413_2⟩ := at_T45 (Kd.N_reads' HO_10.out).2.2 t409 p413 q413
       cases e413
       obtain ⟨ce413, hce413, hMe413, hcc413⟩ := Kd.N_get HO_10.out z45 t409 p413 (by first | exact q413 | exact of_decide_eq_true (by first | (with_reducible assumption) | assumption) | (have e_ := (Kd.N_reads' HO_10.out).1; omega))
       obtain ⟨ua413_2, uc413_2, rfl, ul413_2, ge413_2⟩ := k45_openF hMe413
       have hv413_2 := hcc413 2 _ rfl
       rw [add_field _ _ 2 (by omega)] at hv413_2
       replace hv413_2 := Option.some.inj (hv413_2.symm.trans hx413_2)
       injection hv413_2 with hva_ hvn_ hvc_
       rw [hva_] at ge413_2
       rw [hvc_] at ul413_2
       have HL413_2 := Aside0.mk (show Kd.V (Kd.int .i64) 3 _ w.heap.size _ _ ((rd_T45 x10_1 t409).f2) from Kd.V_mk ul413_2 ge413_2)
       clear hva_ hvn_ hvc_ ge413_2 ul413_2
       clear hcc413 hce413
       have HR413_2 := Aside0.mk hi413_2
       have HC413_2 := Aside0.mk hl413_2
       clear hi413_2 hl413_2
       replace p413 := eq_true p413
       replace q413 := eq_true q413
       go_wp2_with (first | (go_at_call 23; (with_reducible refine (worldmintlaw28_gain.calls k1 t401 _ _ x10_1 t409 ((rd_T45 x10_1 t409).f1) t414 _ ?side1 ?side2 A31.out).mono ?_); (case side1 => repeat (first | exact (Kd.N_reads' HO_10.out).2.2 | (with_reducible refine Kd.C_alloc ?_ _) | (with_reducible refine Kd.C_drewN ?_ _) | (with_reducible refine Kd.C_drew ?_))); (case side2 => exact (Kd.N_reads' HO_10.out).2.1); rintro e w32 ⟨rfl, hb⟩; have n0_ := Aside0.mk (Kd.N_below (by (with_reducible repeat (first | apply Kd.N_alloc | apply Kd.N_drewN | apply Kd.N_drew)); exact HO_10.out) hb); have n1_ := Aside0.mk (Kd.V_below (by (with_reducible repeat (first | apply Kd.V_alloc | apply Kd.V_drewN | apply Kd.V_drew)); exact HL413_2.out) hb); have n2_ := Aside0.mk (Kd.C_below (by first | (with_reducible exact HR413_2.out) | (with_reducible exact Kd.C_drewN HR413_2.out _)) hb); have n3_ := Aside0.mk (below_step (by repeat (first | (with_reducible first | exact HB.out | apply below_alloc | apply pw_below_drewN | apply below_drew1) | exact HB.out)) hb); clear HO_10; clear HL413_2; clear HR413_2; clear HB; have HO_10 := n0_; have HL413_2 := n1_; have HR413_2 := n2_; have HB := n3_; clear n0_ n1_ n2_ n3_; (try clear hb); (try clear hb2); (try clear hk); (try clear hi)))
       repeat (go_quiet (first | (go_at_call 23; (with_reducible refine (worldmintlaw28_gain.calls k1 t401 _ _ x10_1 t409 ((rd_T45 x10_1 t409).f1) t414 _ ?side1 ?side2 A31.out).mono ?_); (case side1 => repeat (first | exact (Kd.N_reads' HO_10.out).2.2 | (with_reducible refine Kd.C_alloc ?_ _) | (with_reducible refine Kd.C_drewN ?_ _) | (with_reducible refine Kd.C_drew ?_))); (case side2 => exact (Kd.N_reads' HO_10.out).2.1); rintro e w32 ⟨rfl, hb⟩; have n0_ := Aside0.mk (Kd.N_below (by (with_reducible repeat (first | apply Kd.N_alloc | apply Kd.N_drewN | apply Kd.N_drew)); exact HO_10.out) hb); have n1_ := Aside0.mk (Kd.V_below (by (with_reducible repeat (first | apply Kd.V_alloc | apply Kd.V_drewN | apply Kd.V_drew)); exact HL413_2.out) hb); have n2_ := Aside0.mk (Kd.C_below (by first | (with_reducible exact HR413_2.out) | (with_reducible exact Kd.C_drewN HR413_2.out _)) hb); have n3_ := Aside0.mk (below_step (by repeat (first | (with_reducible first | exact HB.out | apply below_alloc | apply pw_below_drewN | apply below_drew1) | exact HB.out)) hb); clear HO_10; clear HL413_2; clear HR413_2; clear HB; have HO_10 := n0_; have HL413_2 := n1_; have HR413_2 := n2_; have HB := n3_; clear n0_ n1_ n2_ n3_; (try clear hb); (try clear hb2); (try clear hk); (try clear hi))); try go_wp2_with (first | (go_at_call 23; (with_reducible refine (worldmintlaw28_gain.calls k1 t401 _ _ x10_1 t409 ((rd_T45 x10_1 t409).f1) t414 _ ?side1 ?side2 A31.out).mono ?_); (case side1 => repeat (first | exact (Kd.N_reads' HO_10.out).2.2 | (with_reducible refine Kd.C_alloc ?_ _) | (with_reducible refine Kd.C_drewN ?_ _) | (with_reducible refine Kd.C_drew ?_))); (case side2 => exact (Kd.N_reads' HO_10.out).2.1); rintro e w32 ⟨rfl, hb⟩; have n0_ := Aside0.mk (Kd.N_below (by (with_reducible repeat (first | apply Kd.N_alloc | apply Kd.N_drewN | apply Kd.N_drew)); exact HO_10.out) hb); have n1_ := Aside0.mk (Kd.V_below (by (with_reducible repeat (first | apply Kd.V_alloc | apply Kd.V_drewN | apply Kd.V_drew)); exact HL413_2.out) hb); have n2_ := Aside0.mk (Kd.C_below (by first | (with_reducible exact HR413_2.out) | (with_reducible exact Kd.C_drewN HR413_2.out _)) hb); have n3_ := Aside0.mk (below_step (by repeat (first | (with_reducible first | exact HB.out | apply below_alloc | apply pw_below_drewN | apply below_drew1) | exact HB.out)) hb); clear HO_10; clear HL413_2; clear HR413_2; clear HB; have HO_10 := n0_; have HL413_2 := n1_; have HR413_2 := n2_; have HB := n3_; clear n0_ n1_ n2_ n3_; (try clear hb); (try clear hb2); (try clear hk); (try clear hi))))
       go_loopg [15] k1 (fun kq v15 w' => ∃ (x10_2 : List (S45)) (x15_2 : Int), v15 = .int .i64 x15_2 ∧ Aside0 (worldmintlaw28_ClearTruthful.l1 kq a3 t401 x10_2 t409 ((rd_T45 x10_1 t409).f1) t414 x15_2 = some r) ∧ Aside0 (kq ≤ k1) ∧ Aside0 (Kd.N k45 45 w' w.heap.size (fun _ => True) (.slice (some ad413) x10_1.length co19) x10_2) ∧ Aside0 (Below w.heap.size w w'))
       case atStart => exact ⟨(x10_1), (0), (by first | rfl | (simp; done) | (simp [*]; done)), H', ⟨Nat.le_refl _⟩, ⟨by (try simp only [hl10_1]); (with_reducible repeat (first | apply Kd.N_alloc | apply Kd.N_drewN | apply Kd.N_drew)); exact HO_10.out⟩, ⟨by repeat (first | (with_reducible first | exact HB.out | apply below_alloc | apply pw_below_drewN | apply below_drew1) | exact HB.out)⟩⟩
       case round =>
        clear H'
        try clear c1
        try clear c2
        try clear p2
        try clear q2
        try clear hx2
        try clear c3
        try clear c4
        try clear p4
        try clear q4
        try clear hx4
        try clear c5
        try clear p6
        try clear c8
        try clear c8b0
        try clear c8b1
        try clear c8b2
        try clear c20
        try clear c20b0
        try clear c21
        try clear c21b0
        try clear c21b1
        try clear c22
        try clear c22b0
        try clear c23
        try clear c23b0
        try clear c24
        try clear c24b0
        try clear c25
        try clear c25b0
        try clear c25b1
        try clear c26
        try clear p26
        try clear q26
        try clear hx26
        try clear hf26
        try clear c27
        try clear hx27
        try clear hf27
        try clear c29
        try clear c29b0
        try clear c30
        try clear c30b0
        try clear hx26_0
        try clear hx26_1
        try clear hx26_2
        try clear hx27_0
        try clear hx410_0
        try clear hx410_1
        try clear hx410_2
        try clear hx411_0
        try clear hx411_1
        try clear hx411_2
        try clear hx413_0
        try clear hx413_1
        try clear hx413_2
        try clear p2
        try clear p26
        try clear p410
        try clear p411
        try clear p413
        try clear q26
        try clear q410
        try clear q411
        try clear q413
        obtain ⟨x10_2, x15_2, rfl, HA, HK2, HO_10, HB⟩ := hrel
        have hl10_2 := (Kd.N_reads' HO_10.out).1
        rw [hl10_2] at HO_10
        (try simp only [hl10_2])
        cases gk with
        | zero => exact absurd HA.out (by simp [worldmintlaw28_ClearTruthful.l1])
        | succ k2 =>
         have H := HA.out
         clear HA
         simp only [worldmintlaw28_ClearTruthful.l1] at H
         by_cases c33 : x15_2 < 4
         ·rw [if_pos c33] at H
          have c33b0 : decide (x15_2 < 4) = true := decide_eq_true c33
          clear c33
          obtain ⟨y416, hy416⟩ : ∃ y_ : List (S45), y_ = (([] : List (S45))) := ⟨_, rfl⟩
          replace H : (if y416.length + x10_2.length < 3518437208883 then ((some (y416 ++ x10_2 : List (S45))).bind fun y419 => ((worldmintref01_Around.f (wrap64 (a3 + (wrap64 (17 * x15_2)))) 40).bind fun t422 => (if 0 ≤ t409 then (if t409 < (y419.length : Int) then ((worldmintlaw28_gain.f k2 t401 (y419.set (t409 : Int).toNat (⟨(rd_T45 y419 t409).f0, wrap64 (1 + t422), (rd_T45 y419 t409).f2⟩ : S45)) t409 ((rd_T45 x10_1 t409).f1)).bind fun t424 => (if t424 > t414 then (some false) else (worldmintlaw28_ClearTruthful.l1 k2 a3 t401 x10_2 t409 ((rd_T45 x10_1 t409).f1) t414 (wrap64 (x15_2 + 1))))) else (none)) else (none)))) else (none)) = some r := by first | (rw [hy416]; with_reducible exact H) | (have H2_ := (Option.bind_some _ _).symm.trans H; rw [hy416]; with_reducible exact H2_) | (have H2_ := (Option.bind_some _ _).symm.trans H; with_reducible exact H2_) | with_reducible exact H | (rw [hy416]; exact H) | exact H
          have Ny416 := Aside0.mk hy416
          clear hy416
          by_cases c34 : y416.length + x10_2.length < 3518437208883
          ·rw [if_pos c34] at H
           have LMc34 := Aside0.mk c34
           clear c34
           obtain ⟨y419, hy419⟩ : ∃ y_ : List (S45), y_ = (y416 ++ x10_2) := ⟨_, rfl⟩
           replace H : ((worldmintref01_Around.f (wrap64 (a3 + (wrap64 (17 * x15_2)))) 40).bind fun t422 => (if 0 ≤ t409 then (if t409 < (y419.length : Int) then ((worldmintlaw28_gain.f k2 t401 (y419.set (t409 : Int).toNat (⟨(rd_T45 y419 t409).f0, wrap64 (1 + t422), (rd_T45 y419 t409).f2⟩ : S45)) t409 ((rd_T45 x10_1 t409).f1)).bind fun t424 => (if t424 > t414 then (some false) else (worldmintlaw28_ClearTruthful.l1 k2 a3 t401 x10_2 t409 ((rd_T45 x10_1 t409).f1) t414 (wrap64 (x15_2 + 1))))) else (none)) else (none))) = some r := by first | (rw [hy419]; with_reducible exact H) | (have H2_ := (Option.bind_some _ _).symm.trans H; rw [hy419]; with_reducible exact H2_) | (have H2_ := (Option.bind_some _ _).symm.trans H; with_reducible exact H2_) | with_reducible exact H | (rw [hy419]; exact H) | exact H
           have Ny419 := Aside0.mk hy419
           clear hy419
           replace H := Option.bind_eq_some_iff.mp H
           obtain ⟨t422, A350, H⟩ := H
           replace H : (if 0 ≤ t409 then (if t409 < (y419.length : Int) then ((worldmintlaw28_gain.f k2 t401 (y419.set (t409 : Int).toNat (⟨(rd_T45 y419 t409).f0, wrap64 (1 + t422), (rd_T45 y419 t409).f2⟩ : S45)) t409 ((rd_T45 x10_1 t409).f1)).bind fun t424 => (if t424 > t414 then (some false) else (worldmintlaw28_ClearTruthful.l1 k2 a3 t401 x10_2 t409 ((rd_T45 x10_1 t409).f1) t414 (wrap64 (x15_2 + 1))))) else (none)) else (none)) = some r := H
           have A35 := Aside0.mk A350
           clear A350
           by_cases c36 : 0 ≤ t409
           ·rw [if_pos c36] at H
            have c36b0 : decide (0 ≤ t409) = true := decide_eq_true c36
            clear c36
            by_cases c37 : t409 < (y419.length : Int)
            ·rw [if_pos c37] at H
             have c37b0 : decide (t409 < (y419.length : Int)) = true := decide_eq_true c37
             clear c37
             obtain ⟨y423, hy423⟩ : ∃ y_ : List (S45), y_ = (y419.set (t409 : Int).toNat (⟨(rd_T45 y419 t409).f0, wrap64 (1 + t422), (rd_T45 y419 t409).f2⟩ : S45)) := ⟨_, rfl⟩
             replace H : ((worldmintlaw28_gain.f k2 t401 y423 t409 ((rd_T45 x10_1 t409).f1)).bind fun t424 => (if t424 > t414 then (some false) else (worldmintlaw28_ClearTruthful.l1 k2 a3 t401 x10_2 t409 ((rd_T45 x10_1 t409).f1) t414 (wrap64 (x15_2 + 1))))) = some r := by first | (rw [hy423]; with_reducible exact H) | (have H2_ := (Option.bind_some _ _).symm.trans H; rw [hy423]; with_reducible exact H2_) | (have H2_ := (Option.bind_some _ _).symm.trans H; with_reducible exact H2_) | with_reducible exact H | (rw [hy423]; exact H) | exact H
             have Ny423 := Aside0.mk hy423
             clear hy423
             replace H := Option.bind_eq_some_iff.mp H
             obtain ⟨t424, A390, H⟩ := H
             replace H : (if t424 > t414 then (some false) else (worldmintlaw28_ClearTruthful.l1 k2 a3 t401 x10_2 t409 ((rd_T45 x10_1 t409).f1) t414 (wrap64 (x15_2 + 1)))) = some r := H
             have A39 := Aside0.mk A390
             clear A390
             by_cases c40 : t424 > t414
             ·rw [if_pos c40] at H
              have c40b0 : decide (t414 < t424) = true := decide_eq_true c40
              clear c40
              obtain rfl := Option.some.inj H
              go_wp2_with (first | ((with_reducible refine gate_dst (N := 73) rfl ?_); refine Kd.N_lit k45 _ 45 ?hg (N' := 73) ?hd (xs := ([] : List (S45))) (inner := []) (ok := (fun k_ => some k_ ≠ (.slice (some ad413) x10_2.length co19 : Value).ownBlock)) (okp := (fun k_ => some k_ ≠ (.slice (some ad413) x10_2.length co19 : Value).ownBlock)) ?hr ?hp (fun _ hk => hk) ((show ∀ k_, wr.heap.size ≤ k_ → (fun k_ => some k_ ≠ (.slice (some ad413) x10_2.length co19 : Value).ownBlock) k_ from fun k_ hk => Kd.fresh' (Kd.N_lt (by (with_reducible repeat (first | apply Kd.N_alloc | apply Kd.N_drewN | apply Kd.N_drew)); exact HO_10.out)) k_ hk) _ (Nat.le_refl _)) (Below.refl _ _) (Nat.le_refl _) (by simp) ?_; (case hd => rfl); (case hg => rfl); (case hr => first | (go_simp; done) | (go_simp; rfl)); (case hp => exact (Reps.none _ _)); intro v417 w41 ho42 hb hg_ hnew_; clear hg_ hnew_; (first | rw [← Ny416.out] at ho42 | (simp only [Int.reduceToNat] at ho42; rw [← Ny416.out] at ho42)); have n0_ := Aside0.mk (Kd.N_elder' (by (with_reducible repeat (first | apply Kd.N_alloc | apply Kd.N_drewN | apply Kd.N_drew)); exact HO_10.out) (Kd.N_base ho42) hb); have n1_ := Aside0.mk (Kd.N_lower ho42 (below_size (by repeat (first | (with_reducible first | exact HB.out | apply below_alloc | apply pw_below_drewN | apply below_drew1) | exact HB.out)))); have n2_ := Aside0.mk (below_step (by repeat (first | (with_reducible first | exact HB.out | apply below_alloc | apply pw_below_drewN | apply below_drew1) | exact HB.out)) hb); clear HO_10; clear HB; have HO_10 := n0_; have HO418 := n1_; have HB := n2_; clear n0_ n1_ n2_; clear hb ho42) | ((with_reducible refine gate_builtin (b := .append) (xs := #[.tmp 73, .tmp 74]) rfl ?_); at_builtin; refine Kd.N_append_rows k45 (w0 := w) w.heap.size rfl (.tmp 73) (.tmp 74) 31 45 (.agg #[(.int .i64 0), (.int .i64 0), (.slice none 0 0)]) 40 rfl Try.underlying31 info45 rfl (by decide) (by omega) v417 y416 x10_2 _ _ _ (fun _ => True) (fun k_ => ((fun _ => True)) k_ ∧ some k_ ≠ (v417 : Value).ownBlock) rfl rfl ?aO ?aR (fun _ hk => hk) ?aF ?aB ?aS ?aL ?_; (case aR => exact (by skip; exact Kd.N_F (Kd.N_mono (ok' := (fun k_ => ((fun _ => True)) k_ ∧ some k_ ≠ (v417 : Value).ownBlock)) (HO_10.out) (fun k_ hk => ⟨trivial, hk.2⟩)))); (case aB => exact (by repeat (first | (with_reducible first | exact HB.out | apply below_alloc | apply pw_below_drewN | apply below_drew1) | exact HB.out))); (case aF => exact (fun _ _ => trivial)); (case aO => exact (by (with_reducible repeat (first | apply Kd.N_alloc | apply Kd.N_drewN | apply Kd.N_drew)); exact Kd.N_mono HO418.out (fun _ hk => trivial))); (case aS => exact (below_size (by repeat (first | (with_reducible first | exact HB.out | apply below_alloc | apply pw_below_drewN | apply below_drew1) | exact HB.out)))); (case aL => have := LMc34.out; omega); intro v420 w43 ho hb hg hat; rw [← Ny419.out] at ho; have n0_ := Aside0.mk (Kd.N_afterv (ok := (fun _ => True)) (by (with_reducible repeat (first | apply Kd.N_alloc | apply Kd.N_drewN | apply Kd.N_drew)); exact HO_10.out) hg hat); have n1_ := Aside0.mk (hb); have n2_ := Aside0.mk (ho); clear HO_10; clear HB; clear HO418; have HO_10 := n0_; have HB := n1_; have HO421 := n2_; clear n0_ n1_ n2_; clear ho hb hg hat) | (go_at_call 20; (with_reducible refine (worldmintref01_Around.calls (wrap64 (a3 + (wrap64 (17 * x15_2)))) 40 t422 _ A35.out).mono ?_); rintro e w' ⟨rfl, ⟨nd, rfl⟩⟩; (try first | exact ⟨rfl, _, World.drewN_drewN _ _ _⟩ | exact ⟨rfl, _, Eq.trans (World.drewN_drewN _ _ _) (congrArg (World.drewN _) (Nat.add_assoc _ _ _))⟩); have p38 : 0 ≤ (t409 : Int) := of_decide_eq_true (by first | (with_reducible assumption) | assumption); have q38 : (t409 : Int) < ((y419.length : Int) : Int) := of_decide_eq_true (by first | (with_reducible assumption) | assumption); obtain ⟨go38, co38, eo38, gb38, gl38, cl38, HG38⟩ := Kd.N_form HO421.out (by omega); (first | cases eo38 | (injection eo38 with ea_ en_ ec_; (first | subst ea_ | (injection ea_ with ea_; subst ea_)); subst ec_; clear en_)); have GB38 := Aside0.mk gb38; have GG38 := Aside0.mk HG38; clear gb38 gl38 HG38; obtain ⟨ce38, hcl38, hM38, hcc38, hfr38⟩ := Kd.N_elem HO421.out z45 (t409 : Int) p38 q38; obtain ⟨ua38_2, uc38_2, rfl, ul38_2, ge38_2⟩ := k45_openF hM38; have hx38_0 : w43.cell? ⟨go38, (t409 : Int).toNat * 3, none⟩ = some (.int .i64 ((rd_T45 y419 t409).f0)) := hcc38 0 _ rfl; have hx38_1 : w43.cell? ⟨go38, (t409 : Int).toNat * 3 + 1, none⟩ = some (.int .i64 ((rd_T45 y419 t409).f1)) := hcc38 1 _ rfl; have hx38_2 : w43.cell? ⟨go38, (t409 : Int).toNat * 3 + 2, none⟩ = some (.slice ua38_2 ((rd_T45 y419 t409).f2).length uc38_2) := hcc38 2 _ rfl; have hf38_0 : w43.frozen? ⟨go38, (t409 : Int).toNat * 3, none⟩ = false := hfr38 0; have hf38_1 : w43.frozen? ⟨go38, (t409 : Int).toNat * 3 + 1, none⟩ = false := hfr38 1; have hf38_2 : w43.frozen? ⟨go38, (t409 : Int).toNat * 3 + 2, none⟩ = false := hfr38 2; clear hcl38 hcc38 hfr38 hM38; replace p38 := eq_true p38; replace q38 := eq_true q38; have HX44 := Aside0.mk (show Kd.N k45 45 w43 w.heap.size (fun _ => True) (.slice (some ⟨go38, 0, none⟩) y419.length co38) y419 from (by (with_reducible repeat (first | apply Kd.N_alloc | apply Kd.N_drewN | apply Kd.N_drew)); exact HO421.out)); obtain ⟨ce44, hcl44, hM44, hcc44, hfr44⟩ := Kd.N_elem HX44.out z45 (t409 : Int) (of_decide_eq_true (by first | (with_reducible assumption) | assumption)) (by have h_ : (t409 : Int) < ((y419.length : Int) : Int) := of_decide_eq_true (by first | (with_reducible assumption) | assumption); first | exact h_ | (have e_ := (Kd.N_reads' HO421.out).1; omega) | simpa using h_); obtain ⟨ua44_2, uc44_2, rfl, ul44_2, ge44_2⟩ := k45_openF hM44; have HP44 := Kd.N_seg HX44.out (t409 : Int) (of_decide_eq_true (by first | (with_reducible assumption) | assumption)) (by have h_ : (t409 : Int) < ((y419.length : Int) : Int) := of_decide_eq_true (by first | (with_reducible assumption) | assumption); first | exact h_ | (have e_ := (Kd.N_reads' HO421.out).1; omega) | simpa using h_) (seg := [.int .i64 (wrap64 (1 + t422))]) (j := 1) hcl44 hcc44 (show 2 ≤ 3 from by decide) (x' := (⟨(rd_T45 y419 t409).f0, wrap64 (1 + t422), (rd_T45 y419 t409).f2⟩ : S45)) (k45_mkF _ _ (⟨(rd_T45 y419 t409).f0, wrap64 (1 + t422), (rd_T45 y419 t409).f2⟩ : S45) ul44_2 ge44_2) (fun _ hk => hk); have hx44_1 := hcc44 1 _ rfl; (try simp only [show (k45).sz = 3 from rfl, Nat.mul_one, Nat.add_zero] at hx44_1); have hf44_1 := hfr44 1; (try simp only [show (k45).sz = 3 from rfl, Nat.mul_one, Nat.add_zero] at hf44_1); clear hcl44 hcc44 hfr44 hM44) | ((with_reducible refine gate_store (t := 3) (p := 85) rfl ?_); (try (rw [drewN_self w43]; generalize hq_ : World.drewN w43 _ = w43; have n0_ := Aside0.mk (Kd.N_at hq_ HO_10.out); have n1_ := Aside0.mk (Kd.N_at hq_ HO421.out); have n2_ := Aside0.mk (below_at hq_ HB.out); clear hq_ HO_10 HO421 HB; have HO_10 := n0_; have HO421 := n1_; have HB := n2_; clear n0_ n1_ n2_; (try (have HX44 := Aside0.mk (show Kd.N k45 45 w43 w.heap.size (fun _ => True) (.slice (some ⟨go38, 0, none⟩) y419.length co38) y419 from (by (with_reducible repeat (first | apply Kd.N_alloc | apply Kd.N_drewN | apply Kd.N_drew)); exact HO421.out)))); (try (obtain ⟨ce44, hcl44, hM44, hcc44, hfr44⟩ := Kd.N_elem HX44.out z45 (t409 : Int) (of_decide_eq_true (by first | (with_reducible assumption) | assumption)) (by have h_ : (t409 : Int) < ((y419.length : Int) : Int) := of_decide_eq_true (by first | (with_reducible assumption) | assumption); first | exact h_ | (have e_ := (Kd.N_reads' HO421.out).1; omega) | simpa using h_))); (try (obtain ⟨ua44_2, uc44_2, rfl, ul44_2, ge44_2⟩ := k45_openF hM44)); (try (have HP44 := Kd.N_seg HX44.out (t409 : Int) (of_decide_eq_true (by first | (with_reducible assumption) | assumption)) (by have h_ : (t409 : Int) < ((y419.length : Int) : Int) := of_decide_eq_true (by first | (with_reducible assumption) | assumption); first | exact h_ | (have e_ := (Kd.N_reads' HO421.out).1; omega) | simpa using h_) (seg := [.int .i64 (wrap64 (1 + t422))]) (j := 1) hcl44 hcc44 (show 2 ≤ 3 from by decide) (x' := (⟨(rd_T45 y419 t409).f0, wrap64 (1 + t422), (rd_T45 y419 t409).f2⟩ : S45)) (k45_mkF _ _ (⟨(rd_T45 y419 t409).f0, wrap64 (1 + t422), (rd_T45 y419 t409).f2⟩ : S45) ul44_2 ge44_2) (fun _ hk => hk))); (try (have hx44_1 := hcc44 1 _ rfl)); (try (try simp only [show (k45).sz = 3 from rfl, Nat.mul_one, Nat.add_zero] at hx44_1)); (try (have hf44_1 := hfr44 1)); (try (try simp only [show (k45).sz = 3 from rfl, Nat.mul_one, Nat.add_zero] at hf44_1)); (try (clear hcl44 hcc44 hfr44 hM44)))); refine store_event (t := 3) (p := 85) (v := ?vo_w45) (w1 := (w43.setCell ⟨go38, (t409 : Int).toNat * 3 + 1, none⟩ (.int .i64 (wrap64 (1 + t422))))) ?hg ?ho ?hn ?hr ?_; (case ho => rfl); (case hg => rfl); (case hn => rfl); (case hr => first | (go_simp; done) | (go_simp; rfl)); intro w45 hw; have hg : w43.grownBy w45 (some go38) := (by rw [hw]; exact HP44.2); have hp_ : Kd.N k45 45 w45 w.heap.size (fun _ => True) (.slice (some ⟨go38, 0, none⟩) y419.length co38) y423 := (by rw [hw, Ny423.out]; exact HP44.1); clear HP44; have n0_ := Aside0.mk (Kd.N_afterv (v := (.slice (some ⟨go38, 0, none⟩) y419.length co38)) (v1 := (.slice (some ⟨go38, 0, none⟩) y419.length co38)) (ok := (fun _ => True)) (by (with_reducible repeat (first | apply Kd.N_alloc | apply Kd.N_drewN | apply Kd.N_drew)); first | exact HO_10.out | exact Kd.N_mono HO_10.out (fun k_ h_ => ⟨⟨h_.1, h_.2.1⟩, h_.2.2⟩) | exact Kd.N_mono HO_10.out (fun k_ h_ => ⟨⟨h_.1, h_.2.1, h_.2.2.1⟩, h_.2.2.2⟩) | exact Kd.N_mono HO_10.out (fun k_ h_ => ⟨h_.1, h_.2⟩)) hg (.inl rfl)); have n1_ := Aside0.mk (hp_); have n2_ := Aside0.mk ((by rw [hw]; exact below_set (HB.out) GB38.out : Below w.heap.size w w45)); clear HO_10; clear HO421; clear HB; have HO_10 := n0_; have HO421 := n1_; have HB := n2_; clear n0_ n1_ n2_; clear hg hw hp_) | (go_at_call 23; refine calls_of_args (args' := #[.int .i64 t401, .slice (some ⟨go38, 0, none⟩) y423.length co38, .int .i64 t409, .int .i64 ((rd_T45 x10_1 t409).f1)]) (by first | (rw [show y423.length = y419.length from (Kd.N_reads' HO421.out).1.symm] <;> rfl) | rfl) ?_; (with_reducible refine (worldmintlaw28_gain.calls k2 t401 _ _ y423 t409 ((rd_T45 x10_1 t409).f1) t424 _ ?side1 ?side2 A39.out).mono ?_); (case side1 => repeat (first | exact (Kd.N_reads' HO421.out).2.2 | (with_reducible refine Kd.C_alloc ?_ _) | (with_reducible refine Kd.C_drewN ?_ _) | (with_reducible refine Kd.C_drew ?_))); (case side2 => rw [show y423.length = y419.length from (Kd.N_reads' HO421.out).1.symm]; exact (Kd.N_reads' HO421.out).2.1); rintro e w46 ⟨rfl, hb⟩; have n0_ := Aside0.mk (Kd.N_below (by (with_reducible repeat (first | apply Kd.N_alloc | apply Kd.N_drewN | apply Kd.N_drew)); exact HO_10.out) hb); have n1_ := Aside0.mk (Kd.N_below (by (with_reducible repeat (first | apply Kd.N_alloc | apply Kd.N_drewN | apply Kd.N_drew)); exact HO421.out) hb); have n2_ := Aside0.mk (below_step (by repeat (first | (with_reducible first | exact HB.out | apply below_alloc | apply pw_below_drewN | apply below_drew1) | exact HB.out)) hb); clear HO_10; clear HO421; clear HB; have HO_10 := n0_; have HO421 := n1_; have HB := n2_; clear n0_ n1_ n2_; (try clear hb); (try clear hb2); (try clear hk); (try clear hi)))
              repeat (go_quiet (first | ((with_reducible refine gate_dst (N := 73) rfl ?_); refine Kd.N_lit k45 _ 45 ?hg (N' := 73) ?hd (xs := ([] : List (S45))) (inner := []) (ok := (fun k_ => some k_ ≠ (.slice (some ad413) x10_2.length co19 : Value).ownBlock)) (okp := (fun k_ => some k_ ≠ (.slice (some ad413) x10_2.length co19 : Value).ownBlock)) ?hr ?hp (fun _ hk => hk) ((show ∀ k_, wr.heap.size ≤ k_ → (fun k_ => some k_ ≠ (.slice (some ad413) x10_2.length co19 : Value).ownBlock) k_ from fun k_ hk => Kd.fresh' (Kd.N_lt (by (with_reducible repeat (first | apply Kd.N_alloc | apply Kd.N_drewN | apply Kd.N_drew)); exact HO_10.out)) k_ hk) _ (Nat.le_refl _)) (Below.refl _ _) (Nat.le_refl _) (by simp) ?_; (case hd => rfl); (case hg => rfl); (case hr => first | (go_simp; done) | (go_simp; rfl)); (case hp => exact (Reps.none _ _)); intro v417 w41 ho42 hb hg_ hnew_; clear hg_ hnew_; (first | rw [← Ny416.out] at ho42 | (simp only [Int.reduceToNat] at ho42; rw [← Ny416.out] at ho42)); have n0_ := Aside0.mk (Kd.N_elder' (by (with_reducible repeat (first | apply Kd.N_alloc | apply Kd.N_drewN | apply Kd.N_drew)); exact HO_10.out) (Kd.N_base ho42) hb); have n1_ := Aside0.mk (Kd.N_lower ho42 (below_size (by repeat (first | (with_reducible first | exact HB.out | apply below_alloc | apply pw_below_drewN | apply below_drew1) | exact HB.out)))); have n2_ := Aside0.mk (below_step (by repeat (first | (with_reducible first | exact HB.out | apply below_alloc | apply pw_below_drewN | apply below_drew1) | exact HB.out)) hb); clear HO_10; clear HB; have HO_10 := n0_; have HO418 := n1_; have HB := n2_; clear n0_ n1_ n2_; clear hb ho42) | ((with_reducible refine gate_builtin (b := .append) (xs := #[.tmp 73, .tmp 74]) rfl ?_); at_builtin; refine Kd.N_append_rows k45 (w0 := w) w.heap.size rfl (.tmp 73) (.tmp 74) 31 45 (.agg #[(.int .i64 0), (.int .i64 0), (.slice none 0 0)]) 40 rfl Try.underlying31 info45 rfl (by decide) (by omega) v417 y416 x10_2 _ _ _ (fun _ => True) (fun k_ => ((fun _ => True)) k_ ∧ some k_ ≠ (v417 : Value).ownBlock) rfl rfl ?aO ?aR (fun _ hk => hk) ?aF ?aB ?aS ?aL ?_; (case aR => exact (by skip; exact Kd.N_F (Kd.N_mono (ok' := (fun k_ => ((fun _ => True)) k_ ∧ some k_ ≠ (v417 : Value).ownBlock)) (HO_10.out) (fun k_ hk => ⟨trivial, hk.2⟩)))); (case aB => exact (by repeat (first | (with_reducible first | exact HB.out | apply below_alloc | apply pw_below_drewN | apply below_drew1) | exact HB.out))); (case aF => exact (fun _ _ => trivial)); (case aO => exact (by (with_reducible repeat (first | apply Kd.N_alloc | apply Kd.N_drewN | apply Kd.N_drew)); exact Kd.N_mono HO418.out (fun _ hk => trivial))); (case aS => exact (below_size (by repeat (first | (with_reducible first | exact HB.out | apply below_alloc | apply pw_below_drewN | apply below_drew1) | exact HB.out)))); (case aL => have := LMc34.out; omega); intro v420 w43 ho hb hg hat; rw [← Ny419.out] at ho; have n0_ := Aside0.mk (Kd.N_afterv (ok := (fun _ => True)) (by (with_reducible repeat (first | apply Kd.N_alloc | apply Kd.N_drewN | apply Kd.N_drew)); exact HO_10.out) hg hat); have n1_ := Aside0.mk (hb); have n2_ := Aside0.mk (ho); clear HO_10; clear HB; clear HO418; have HO_10 := n0_; have HB := n1_; have HO421 := n2_; clear n0_ n1_ n2_; clear ho hb hg hat) | (go_at_call 20; (with_reducible refine (worldmintref01_Around.calls (wrap64 (a3 + (wrap64 (17 * x15_2)))) 40 t422 _ A35.out).mono ?_); rintro e w' ⟨rfl, ⟨nd, rfl⟩⟩; (try first | exact ⟨rfl, _, World.drewN_drewN _ _ _⟩ | exact ⟨rfl, _, Eq.trans (World.drewN_drewN _ _ _) (congrArg (World.drewN _) (Nat.add_assoc _ _ _))⟩); have p38 : 0 ≤ (t409 : Int) := of_decide_eq_true (by first | (with_reducible assumption) | assumption); have q38 : (t409 : Int) < ((y419.length : Int) : Int) := of_decide_eq_true (by first | (with_reducible assumption) | assumption); obtain ⟨go38, co38, eo38, gb38, gl38, cl38, HG38⟩ := Kd.N_form HO421.out (by omega); (first | cases eo38 | (injection eo38 with ea_ en_ ec_; (first | subst ea_ | (injection ea_ with ea_; subst ea_)); subst ec_; clear en_)); have GB38 := Aside0.mk gb38; have GG38 := Aside0.mk HG38; clear gb38 gl38 HG38; obtain ⟨ce38, hcl38, hM38, hcc38, hfr38⟩ := Kd.N_elem HO421.out z45 (t409 : Int) p38 q38; obtain ⟨ua38_2, uc38_2, rfl, ul38_2, ge38_2⟩ := k45_openF hM38; have hx38_0 : w43.cell? ⟨go38, (t409 : Int).toNat * 3, none⟩ = some (.int .i64 ((rd_T45 y419 t409).f0)) := hcc38 0 _ rfl; have hx38_1 : w43.cell? ⟨go38, (t409 : Int).toNat * 3 + 1, none⟩ = some (.int .i64 ((rd_T45 y419 t409).f1)) := hcc38 1 _ rfl; have hx38_2 : w43.cell? ⟨go38, (t409 : Int).toNat * 3 + 2, none⟩ = some (.slice ua38_2 ((rd_T45 y419 t409).f2).length uc38_2) := hcc38 2 _ rfl; have hf38_0 : w43.frozen? ⟨go38, (t409 : Int).toNat * 3, none⟩ = false := hfr38 0; have hf38_1 : w43.frozen? ⟨go38, (t409 : Int).toNat * 3 + 1, none⟩ = false := hfr38 1; have hf38_2 : w43.frozen? ⟨go38, (t409 : Int).toNat * 3 + 2, none⟩ = false := hfr38 2; clear hcl38 hcc38 hfr38 hM38; replace p38 := eq_true p38; replace q38 := eq_true q38; have HX44 := Aside0.mk (show Kd.N k45 45 w43 w.heap.size (fun _ => True) (.slice (some ⟨go38, 0, none⟩) y419.length co38) y419 from (by (with_reducible repeat (first | apply Kd.N_alloc | apply Kd.N_drewN | apply Kd.N_drew)); exact HO421.out)); obtain ⟨ce44, hcl44, hM44, hcc44, hfr44⟩ := Kd.N_elem HX44.out z45 (t409 : Int) (of_decide_eq_true (by first | (with_reducible assumption) | assumption)) (by have h_ : (t409 : Int) < ((y419.length : Int) : Int) := of_decide_eq_true (by first | (with_reducible assumption) | assumption); first | exact h_ | (have e_ := (Kd.N_reads' HO421.out).1; omega) | simpa using h_); obtain ⟨ua44_2, uc44_2, rfl, ul44_2, ge44_2⟩ := k45_openF hM44; have HP44 := Kd.N_seg HX44.out (t409 : Int) (of_decide_eq_true (by first | (with_reducible assumption) | assumption)) (by have h_ : (t409 : Int) < ((y419.length : Int) : Int) := of_decide_eq_true (by first | (with_reducible assumption) | assumption); first | exact h_ | (have e_ := (Kd.N_reads' HO421.out).1; omega) | simpa using h_) (seg := [.int .i64 (wrap64 (1 + t422))]) (j := 1) hcl44 hcc44 (show 2 ≤ 3 from by decide) (x' := (⟨(rd_T45 y419 t409).f0, wrap64 (1 + t422), (rd_T45 y419 t409).f2⟩ : S45)) (k45_mkF _ _ (⟨(rd_T45 y419 t409).f0, wrap64 (1 + t422), (rd_T45 y419 t409).f2⟩ : S45) ul44_2 ge44_2) (fun _ hk => hk); have hx44_1 := hcc44 1 _ rfl; (try simp only [show (k45).sz = 3 from rfl, Nat.mul_one, Nat.add_zero] at hx44_1); have hf44_1 := hfr44 1; (try simp only [show (k45).sz = 3 from rfl, Nat.mul_one, Nat.add_zero] at hf44_1); clear hcl44 hcc44 hfr44 hM44) | ((with_reducible refine gate_store (t := 3) (p := 85) rfl ?_); (try (rw [drewN_self w43]; generalize hq_ : World.drewN w43 _ = w43; have n0_ := Aside0.mk (Kd.N_at hq_ HO_10.out); have n1_ := Aside0.mk (Kd.N_at hq_ HO421.out); have n2_ := Aside0.mk (below_at hq_ HB.out); clear hq_ HO_10 HO421 HB; have HO_10 := n0_; have HO421 := n1_; have HB := n2_; clear n0_ n1_ n2_; (try (have HX44 := Aside0.mk (show Kd.N k45 45 w43 w.heap.size (fun _ => True) (.slice (some ⟨go38, 0, none⟩) y419.length co38) y419 from (by (with_reducible repeat (first | apply Kd.N_alloc | apply Kd.N_drewN | apply Kd.N_drew)); exact HO421.out)))); (try (obtain ⟨ce44, hcl44, hM44, hcc44, hfr44⟩ := Kd.N_elem HX44.out z45 (t409 : Int) (of_decide_eq_true (by first | (with_reducible assumption) | assumption)) (by have h_ : (t409 : Int) < ((y419.length : Int) : Int) := of_decide_eq_true (by first | (with_reducible assumption) | assumption); first | exact h_ | (have e_ := (Kd.N_reads' HO421.out).1; omega) | simpa using h_))); (try (obtain ⟨ua44_2, uc44_2, rfl, ul44_2, ge44_2⟩ := k45_openF hM44)); (try (have HP44 := Kd.N_seg HX44.out (t409 : Int) (of_decide_eq_true (by first | (with_reducible assumption) | assumption)) (by have h_ : (t409 : Int) < ((y419.length : Int) : Int) := of_decide_eq_true (by first | (with_reducible assumption) | assumption); first | exact h_ | (have e_ := (Kd.N_reads' HO421.out).1; omega) | simpa using h_) (seg := [.int .i64 (wrap64 (1 + t422))]) (j := 1) hcl44 hcc44 (show 2 ≤ 3 from by decide) (x' := (⟨(rd_T45 y419 t409).f0, wrap64 (1 + t422), (rd_T45 y419 t409).f2⟩ : S45)) (k45_mkF _ _ (⟨(rd_T45 y419 t409).f0, wrap64 (1 + t422), (rd_T45 y419 t409).f2⟩ : S45) ul44_2 ge44_2) (fun _ hk => hk))); (try (have hx44_1 := hcc44 1 _ rfl)); (try (try simp only [show (k45).sz = 3 from rfl, Nat.mul_one, Nat.add_zero] at hx44_1)); (try (have hf44_1 := hfr44 1)); (try (try simp only [show (k45).sz = 3 from rfl, Nat.mul_one, Nat.add_zero] at hf44_1)); (try (clear hcl44 hcc44 hfr44 hM44)))); refine store_event (t := 3) (p := 85) (v := ?vo_w45) (w1 := (w43.setCell ⟨go38, (t409 : Int).toNat * 3 + 1, none⟩ (.int .i64 (wrap64 (1 + t422))))) ?hg ?ho ?hn ?hr ?_; (case ho => rfl); (case hg => rfl); (case hn => rfl); (case hr => first | (go_simp; done) | (go_simp; rfl)); intro w45 hw; have hg : w43.grownBy w45 (some go38) := (by rw [hw]; exact HP44.2); have hp_ : Kd.N k45 45 w45 w.heap.size (fun _ => True) (.slice (some ⟨go38, 0, none⟩) y419.length co38) y423 := (by rw [hw, Ny423.out]; exact HP44.1); clear HP44; have n0_ := Aside0.mk (Kd.N_afterv (v := (.slice (some ⟨go38, 0, none⟩) y419.length co38)) (v1 := (.slice (some ⟨go38, 0, none⟩) y419.length co38)) (ok := (fun _ => True)) (by (with_reducible repeat (first | apply Kd.N_alloc | apply Kd.N_drewN | apply Kd.N_drew)); first | exact HO_10.out | exact Kd.N_mono HO_10.out (fun k_ h_ => ⟨⟨h_.1, h_.2.1⟩, h_.2.2⟩) | exact Kd.N_mono HO_10.out (fun k_ h_ => ⟨⟨h_.1, h_.2.1, h_.2.2.1⟩, h_.2.2.2⟩) | exact Kd.N_mono HO_10.out (fun k_ h_ => ⟨h_.1, h_.2⟩)) hg (.inl rfl)); have n1_ := Aside0.mk (hp_); have n2_ := Aside0.mk ((by rw [hw]; exact below_set (HB.out) GB38.out : Below w.heap.size w w45)); clear HO_10; clear HO421; clear HB; have HO_10 := n0_; have HO421 := n1_; have HB := n2_; clear n0_ n1_ n2_; clear hg hw hp_) | (go_at_call 23; refine calls_of_args (args' := #[.int .i64 t401, .slice (some ⟨go38, 0, none⟩) y423.length co38, .int .i64 t409, .int .i64 ((rd_T45 x10_1 t409).f1)]) (by first | (rw [show y423.length = y419.length from (Kd.N_reads' HO421.out).1.symm] <;> rfl) | rfl) ?_; (with_reducible refine (worldmintlaw28_gain.calls k2 t401 _ _ y423 t409 ((rd_T45 x10_1 t409).f1) t424 _ ?side1 ?side2 A39.out).mono ?_); (case side1 => repeat (first | exact (Kd.N_reads' HO421.out).2.2 | (with_reducible refine Kd.C_alloc ?_ _) | (with_reducible refine Kd.C_drewN ?_ _) | (with_reducible refine Kd.C_drew ?_))); (case side2 => rw [show y423.length = y419.length from (Kd.N_reads' HO421.out).1.symm]; exact (Kd.N_reads' HO421.out).2.1); rintro e w46 ⟨rfl, hb⟩; have n0_ := Aside0.mk (Kd.N_below (by (with_reducible repeat (first | apply Kd.N_alloc | apply Kd.N_drewN | apply Kd.N_drew)); exact HO_10.out) hb); have n1_ := Aside0.mk (Kd.N_below (by (with_reducible repeat (first | apply Kd.N_alloc | apply Kd.N_drewN | apply Kd.N_drew)); exact HO421.out) hb); have n2_ := Aside0.mk (below_step (by repeat (first | (with_reducible first | exact HB.out | apply below_alloc | apply pw_below_drewN | apply below_drew1) | exact HB.out)) hb); clear HO_10; clear HO421; clear HB; have HO_10 := n0_; have HO421 := n1_; have HB := n2_; clear n0_ n1_ n2_; (try clear hb); (try clear hb2); (try clear hk); (try clear hi))); try go_wp2_with (first | ((with_reducible refine gate_dst (N := 73) rfl ?_); refine Kd.N_lit k45 _ 45 ?hg (N' := 73) ?hd (xs := ([] : List (S45))) (inner := []) (ok := (fun k_ => some k_ ≠ (.slice (some ad413) x10_2.length co19 : Value).ownBlock)) (okp := (fun k_ => some k_ ≠ (.slice (some ad413) x10_2.length co19 : Value).ownBlock)) ?hr ?hp (fun _ hk => hk) ((show ∀ k_, wr.heap.size ≤ k_ → (fun k_ => some k_ ≠ (.slice (some ad413) x10_2.length co19 : Value).ownBlock) k_ from fun k_ hk => Kd.fresh' (Kd.N_lt (by (with_reducible repeat (first | apply Kd.N_alloc | apply Kd.N_drewN | apply Kd.N_drew)); exact HO_10.out)) k_ hk) _ (Nat.le_refl _)) (Below.refl _ _) (Nat.le_refl _) (by simp) ?_; (case hd => rfl); (case hg => rfl); (case hr => first | (go_simp; done) | (go_simp; rfl)); (case hp => exact (Reps.none _ _)); intro v417 w41 ho42 hb hg_ hnew_; clear hg_ hnew_; (first | rw [← Ny416.out] at ho42 | (simp only [Int.reduceToNat] at ho42; rw [← Ny416.out] at ho42)); have n0_ := Aside0.mk (Kd.N_elder' (by (with_reducible repeat (first | apply Kd.N_alloc | apply Kd.N_drewN | apply Kd.N_drew)); exact HO_10.out) (Kd.N_base ho42) hb); have n1_ := Aside0.mk (Kd.N_lower ho42 (below_size (by repeat (first | (with_reducible first | exact HB.out | apply below_alloc | apply pw_below_drewN | apply below_drew1) | exact HB.out)))); have n2_ := Aside0.mk (below_step (by repeat (first | (with_reducible first | exact HB.out | apply below_alloc | apply pw_below_drewN | apply below_drew1) | exact HB.out)) hb); clear HO_10; clear HB; have HO_10 := n0_; have HO418 := n1_; have HB := n2_; clear n0_ n1_ n2_; clear hb ho42) | ((with_reducible refine gate_builtin (b := .append) (xs := #[.tmp 73, .tmp 74]) rfl ?_); at_builtin; refine Kd.N_append_rows k45 (w0 := w) w.heap.size rfl (.tmp 73) (.tmp 74) 31 45 (.agg #[(.int .i64 0), (.int .i64 0), (.slice none 0 0)]) 40 rfl Try.underlying31 info45 rfl (by decide) (by omega) v417 y416 x10_2 _ _ _ (fun _ => True) (fun k_ => ((fun _ => True)) k_ ∧ some k_ ≠ (v417 : Value).ownBlock) rfl rfl ?aO ?aR (fun _ hk => hk) ?aF ?aB ?aS ?aL ?_; (case aR => exact (by skip; exact Kd.N_F (Kd.N_mono (ok' := (fun k_ => ((fun _ => True)) k_ ∧ some k_ ≠ (v417 : Value).ownBlock)) (HO_10.out) (fun k_ hk => ⟨trivial, hk.2⟩)))); (case aB => exact (by repeat (first | (with_reducible first | exact HB.out | apply below_alloc | apply pw_below_drewN | apply below_drew1) | exact HB.out))); (case aF => exact (fun _ _ => trivial)); (case aO => exact (by (with_reducible repeat (first | apply Kd.N_alloc | apply Kd.N_drewN | apply Kd.N_drew)); exact Kd.N_mono HO418.out (fun _ hk => trivial))); (case aS => exact (below_size (by repeat (first | (with_reducible first | exact HB.out | apply below_alloc | apply pw_below_drewN | apply below_drew1) | exact HB.out)))); (case aL => have := LMc34.out; omega); intro v420 w43 ho hb hg hat; rw [← Ny419.out] at ho; have n0_ := Aside0.mk (Kd.N_afterv (ok := (fun _ => True)) (by (with_reducible repeat (first | apply Kd.N_alloc | apply Kd.N_drewN | apply Kd.N_drew)); exact HO_10.out) hg hat); have n1_ := Aside0.mk (hb); have n2_ := Aside0.mk (ho); clear HO_10; clear HB; clear HO418; have HO_10 := n0_; have HB := n1_; have HO421 := n2_; clear n0_ n1_ n2_; clear ho hb hg hat) | (go_at_call 20; (with_reducible refine (worldmintref01_Around.calls (wrap64 (a3 + (wrap64 (17 * x15_2)))) 40 t422 _ A35.out).mono ?_); rintro e w' ⟨rfl, ⟨nd, rfl⟩⟩; (try first | exact ⟨rfl, _, World.drewN_drewN _ _ _⟩ | exact ⟨rfl, _, Eq.trans (World.drewN_drewN _ _ _) (congrArg (World.drewN _) (Nat.add_assoc _ _ _))⟩); have p38 : 0 ≤ (t409 : Int) := of_decide_eq_true (by first | (with_reducible assumption) | assumption); have q38 : (t409 : Int) < ((y419.length : Int) : Int) := of_decide_eq_true (by first | (with_reducible assumption) | assumption); obtain ⟨go38, co38, eo38, gb38, gl38, cl38, HG38⟩ := Kd.N_form HO421.out (by omega); (first | cases eo38 | (injection eo38 with ea_ en_ ec_; (first | subst ea_ | (injection ea_ with ea_; subst ea_)); subst ec_; clear en_)); have GB38 := Aside0.mk gb38; have GG38 := Aside0.mk HG38; clear gb38 gl38 HG38; obtain ⟨ce38, hcl38, hM38, hcc38, hfr38⟩ := Kd.N_elem HO421.out z45 (t409 : Int) p38 q38; obtain ⟨ua38_2, uc38_2, rfl, ul38_2, ge38_2⟩ := k45_openF hM38; have hx38_0 : w43.cell? ⟨go38, (t409 : Int).toNat * 3, none⟩ = some (.int .i64 ((rd_T45 y419 t409).f0)) := hcc38 0 _ rfl; have hx38_1 : w43.cell? ⟨go38, (t409 : Int).toNat * 3 + 1, none⟩ = some (.int .i64 ((rd_T45 y419 t409).f1)) := hcc38 1 _ rfl; have hx38_2 : w43.cell? ⟨go38, (t409 : Int).toNat * 3 + 2, none⟩ = some (.slice ua38_2 ((rd_T45 y419 t409).f2).length uc38_2) := hcc38 2 _ rfl; have hf38_0 : w43.frozen? ⟨go38, (t409 : Int).toNat * 3, none⟩ = false := hfr38 0; have hf38_1 : w43.frozen? ⟨go38, (t409 : Int).toNat * 3 + 1, none⟩ = false := hfr38 1; have hf38_2 : w43.frozen? ⟨go38, (t409 : Int).toNat * 3 + 2, none⟩ = false := hfr38 2; clear hcl38 hcc38 hfr38 hM38; replace p38 := eq_true p38; replace q38 := eq_true q38; have HX44 := Aside0.mk (show Kd.N k45 45 w43 w.heap.size (fun _ => True) (.slice (some ⟨go38, 0, none⟩) y419.length co38) y419 from (by (with_reducible repeat (first | apply Kd.N_alloc | apply Kd.N_drewN | apply Kd.N_drew)); exact HO421.out)); obtain ⟨ce44, hcl44, hM44, hcc44, hfr44⟩ := Kd.N_elem HX44.out z45 (t409 : Int) (of_decide_eq_true (by first | (with_reducible assumption) | assumption)) (by have h_ : (t409 : Int) < ((y419.length : Int) : Int) := of_decide_eq_true (by first | (with_reducible assumption) | assumption); first | exact h_ | (have e_ := (Kd.N_reads' HO421.out).1; omega) | simpa using h_); obtain ⟨ua44_2, uc44_2, rfl, ul44_2, ge44_2⟩ := k45_openF hM44; have HP44 := Kd.N_seg HX44.out (t409 : Int) (of_decide_eq_true (by first | (with_reducible assumption) | assumption)) (by have h_ : (t409 : Int) < ((y419.length : Int) : Int) := of_decide_eq_true (by first | (with_reducible assumption) | assumption); first | exact h_ | (have e_ := (Kd.N_reads' HO421.out).1; omega) | simpa using h_) (seg := [.int .i64 (wrap64 (1 + t422))]) (j := 1) hcl44 hcc44 (show 2 ≤ 3 from by decide) (x' := (⟨(rd_T45 y419 t409).f0, wrap64 (1 + t422), (rd_T45 y419 t409).f2⟩ : S45)) (k45_mkF _ _ (⟨(rd_T45 y419 t409).f0, wrap64 (1 + t422), (rd_T45 y419 t409).f2⟩ : S45) ul44_2 ge44_2) (fun _ hk => hk); have hx44_1 := hcc44 1 _ rfl; (try simp only [show (k45).sz = 3 from rfl, Nat.mul_one, Nat.add_zero] at hx44_1); have hf44_1 := hfr44 1; (try simp only [show (k45).sz = 3 from rfl, Nat.mul_one, Nat.add_zero] at hf44_1); clear hcl44 hcc44 hfr44 hM44) | ((with_reducible refine gate_store (t := 3) (p := 85) rfl ?_); (try (rw [drewN_self w43]; generalize hq_ : World.drewN w43 _ = w43; have n0_ := Aside0.mk (Kd.N_at hq_ HO_10.out); have n1_ := Aside0.mk (Kd.N_at hq_ HO421.out); have n2_ := Aside0.mk (below_at hq_ HB.out); clear hq_ HO_10 HO421 HB; have HO_10 := n0_; have HO421 := n1_; have HB := n2_; clear n0_ n1_ n2_; (try (have HX44 := Aside0.mk (show Kd.N k45 45 w43 w.heap.size (fun _ => True) (.slice (some ⟨go38, 0, none⟩) y419.length co38) y419 from (by (with_reducible repeat (first | apply Kd.N_alloc | apply Kd.N_drewN | apply Kd.N_drew)); exact HO421.out)))); (try (obtain ⟨ce44, hcl44, hM44, hcc44, hfr44⟩ := Kd.N_elem HX44.out z45 (t409 : Int) (of_decide_eq_true (by first | (with_reducible assumption) | assumption)) (by have h_ : (t409 : Int) < ((y419.length : Int) : Int) := of_decide_eq_true (by first | (with_reducible assumption) | assumption); first | exact h_ | (have e_ := (Kd.N_reads' HO421.out).1; omega) | simpa using h_))); (try (obtain ⟨ua44_2, uc44_2, rfl, ul44_2, ge44_2⟩ := k45_openF hM44)); (try (have HP44 := Kd.N_seg HX44.out (t409 : Int) (of_decide_eq_true (by first | (with_reducible assumption) | assumption)) (by have h_ : (t409 : Int) < ((y419.length : Int) : Int) := of_decide_eq_true (by first | (with_reducible assumption) | assumption); first | exact h_ | (have e_ := (Kd.N_reads' HO421.out).1; omega) | simpa using h_) (seg := [.int .i64 (wrap64 (1 + t422))]) (j := 1) hcl44 hcc44 (show 2 ≤ 3 from by decide) (x' := (⟨(rd_T45 y419 t409).f0, wrap64 (1 + t422), (rd_T45 y419 t409).f2⟩ : S45)) (k45_mkF _ _ (⟨(rd_T45 y419 t409).f0, wrap64 (1 + t422), (rd_T45 y419 t409).f2⟩ : S45) ul44_2 ge44_2) (fun _ hk => hk))); (try (have hx44_1 := hcc44 1 _ rfl)); (try (try simp only [show (k45).sz = 3 from rfl, Nat.mul_one, Nat.add_zero] at hx44_1)); (try (have hf44_1 := hfr44 1)); (try (try simp only [show (k45).sz = 3 from rfl, Nat.mul_one, Nat.add_zero] at hf44_1)); (try (clear hcl44 hcc44 hfr44 hM44)))); refine store_event (t := 3) (p := 85) (v := ?vo_w45) (w1 := (w43.setCell ⟨go38, (t409 : Int).toNat * 3 + 1, none⟩ (.int .i64 (wrap64 (1 + t422))))) ?hg ?ho ?hn ?hr ?_; (case ho => rfl); (case hg => rfl); (case hn => rfl); (case hr => first | (go_simp; done) | (go_simp; rfl)); intro w45 hw; have hg : w43.grownBy w45 (some go38) := (by rw [hw]; exact HP44.2); have hp_ : Kd.N k45 45 w45 w.heap.size (fun _ => True) (.slice (some ⟨go38, 0, none⟩) y419.length co38) y423 := (by rw [hw, Ny423.out]; exact HP44.1); clear HP44; have n0_ := Aside0.mk (Kd.N_afterv (v := (.slice (some ⟨go38, 0, none⟩) y419.length co38)) (v1 := (.slice (some ⟨go38, 0, none⟩) y419.length co38)) (ok := (fun _ => True)) (by (with_reducible repeat (first | apply Kd.N_alloc | apply Kd.N_drewN | apply Kd.N_drew)); first | exact HO_10.out | exact Kd.N_mono HO_10.out (fun k_ h_ => ⟨⟨h_.1, h_.2.1⟩, h_.2.2⟩) | exact Kd.N_mono HO_10.out (fun k_ h_ => ⟨⟨h_.1, h_.2.1, h_.2.2.1⟩, h_.2.2.2⟩) | exact Kd.N_mono HO_10.out (fun k_ h_ => ⟨h_.1, h_.2⟩)) hg (.inl rfl)); have n1_ := Aside0.mk (hp_); have n2_ := Aside0.mk ((by rw [hw]; exact below_set (HB.out) GB38.out : Below w.heap.size w w45)); clear HO_10; clear HO421; clear HB; have HO_10 := n0_; have HO421 := n1_; have HB := n2_; clear n0_ n1_ n2_; clear hg hw hp_) | (go_at_call 23; refine calls_of_args (args' := #[.int .i64 t401, .slice (some ⟨go38, 0, none⟩) y423.length co38, .int .i64 t409, .int .i64 ((rd_T45 x10_1 t409).f1)]) (by first | (rw [show y423.length = y419.length from (Kd.N_reads' HO421.out).1.symm] <;> rfl) | rfl) ?_; (with_reducible refine (worldmintlaw28_gain.calls k2 t401 _ _ y423 t409 ((rd_T45 x10_1 t409).f1) t424 _ ?side1 ?side2 A39.out).mono ?_); (case side1 => repeat (first | exact (Kd.N_reads' HO421.out).2.2 | (with_reducible refine Kd.C_alloc ?_ _) | (with_reducible refine Kd.C_drewN ?_ _) | (with_reducible refine Kd.C_drew ?_))); (case side2 => rw [show y423.length = y419.length from (Kd.N_reads' HO421.out).1.symm]; exact (Kd.N_reads' HO421.out).2.1); rintro e w46 ⟨rfl, hb⟩; have n0_ := Aside0.mk (Kd.N_below (by (with_reducible repeat (first | apply Kd.N_alloc | apply Kd.N_drewN | apply Kd.N_drew)); exact HO_10.out) hb); have n1_ := Aside0.mk (Kd.N_below (by (with_reducible repeat (first | apply Kd.N_alloc | apply Kd.N_drewN | apply Kd.N_drew)); exact HO421.out) hb); have n2_ := Aside0.mk (below_step (by repeat (first | (with_reducible first | exact HB.out | apply below_alloc | apply pw_below_drewN | apply below_drew1) | exact HB.out)) hb); clear HO_10; clear HO421; clear HB; have HO_10 := n0_; have HO421 := n1_; have HB := n2_; clear n0_ n1_ n2_; (try clear hb); (try clear hb2); (try clear hk); (try clear hi))))
              go_ret
              exact ⟨by first | rfl | (simp [errW_none, errW_some] <;> rfl) | (simp [*, errW_none, errW_some] <;> rfl), by repeat (first | (with_reducible first | exact HB.out | apply below_alloc | apply pw_below_drewN | apply below_drew1) | exact HB.out)⟩
             ·rw [if_neg c40] at H
              have c40b0 : decide (t414 < t424) = false := decide_eq_false c40
              clear c40
              have H' := Aside0.mk H
              clear H
              go_wp2_with (first | ((with_reducible refine gate_dst (N := 73) rfl ?_); refine Kd.N_lit k45 _ 45 ?hg (N' := 73) ?hd (xs := ([] : List (S45))) (inner := []) (ok := (fun k_ => some k_ ≠ (.slice (some ad413) x10_2.length co19 : Value).ownBlock)) (okp := (fun k_ => some k_ ≠ (.slice (some ad413) x10_2.length co19 : Value).ownBlock)) ?hr ?hp (fun _ hk => hk) ((show ∀ k_, wr.heap.size ≤ k_ → (fun k_ => some k_ ≠ (.slice (some ad413) x10_2.length co19 : Value).ownBlock) k_ from fun k_ hk => Kd.fresh' (Kd.N_lt (by (with_reducible repeat (first | apply Kd.N_alloc | apply Kd.N_drewN | apply Kd.N_drew)); exact HO_10.out)) k_ hk) _ (Nat.le_refl _)) (Below.refl _ _) (Nat.le_refl _) (by simp) ?_; (case hd => rfl); (case hg => rfl); (case hr => first | (go_simp; done) | (go_simp; rfl)); (case hp => exact (Reps.none _ _)); intro v417 w47 ho48 hb hg_ hnew_; clear hg_ hnew_; (first | rw [← Ny416.out] at ho48 | (simp only [Int.reduceToNat] at ho48; rw [← Ny416.out] at ho48)); have n0_ := Aside0.mk (Kd.N_elder' (by (with_reducible repeat (first | apply Kd.N_alloc | apply Kd.N_drewN | apply Kd.N_drew)); exact HO_10.out) (Kd.N_base ho48) hb); have n1_ := Aside0.mk (Kd.N_lower ho48 (below_size (by repeat (first | (with_reducible first | exact HB.out | apply below_alloc | apply pw_below_drewN | apply below_drew1) | exact HB.out)))); have n2_ := Aside0.mk (below_step (by repeat (first | (with_reducible first | exact HB.out | apply below_alloc | apply pw_below_drewN | apply below_drew1) | exact HB.out)) hb); clear HO_10; clear HB; have HO_10 := n0_; have HO418 := n1_; have HB := n2_; clear n0_ n1_ n2_; clear hb ho48) | ((with_reducible refine gate_builtin (b := .append) (xs := #[.tmp 73, .tmp 74]) rfl ?_); at_builtin; refine Kd.N_append_rows k45 (w0 := w) w.heap.size rfl (.tmp 73) (.tmp 74) 31 45 (.agg #[(.int .i64 0), (.int .i64 0), (.slice none 0 0)]) 40 rfl Try.underlying31 info45 rfl (by decide) (by omega) v417 y416 x10_2 _ _ _ (fun _ => True) (fun k_ => ((fun _ => True)) k_ ∧ some k_ ≠ (v417 : Value).ownBlock) rfl rfl ?aO ?aR (fun _ hk => hk) ?aF ?aB ?aS ?aL ?_; (case aR => exact (by skip; exact Kd.N_F (Kd.N_mono (ok' := (fun k_ => ((fun _ => True)) k_ ∧ some k_ ≠ (v417 : Value).ownBlock)) (HO_10.out) (fun k_ hk => ⟨trivial, hk.2⟩)))); (case aB => exact (by repeat (first | (with_reducible first | exact HB.out | apply below_alloc | apply pw_below_drewN | apply below_drew1) | exact HB.out))); (case aF => exact (fun _ _ => trivial)); (case aO => exact (by (with_reducible repeat (first | apply Kd.N_alloc | apply Kd.N_drewN | apply Kd.N_drew)); exact Kd.N_mono HO418.out (fun _ hk => trivial))); (case aS => exact (below_size (by repeat (first | (with_reducible first | exact HB.out | apply below_alloc | apply pw_below_drewN | apply below_drew1) | exact HB.out)))); (case aL => have := LMc34.out; omega); intro v420 w49 ho hb hg hat; rw [← Ny419.out] at ho; have n0_ := Aside0.mk (Kd.N_afterv (ok := (fun _ => True)) (by (with_reducible repeat (first | apply Kd.N_alloc | apply Kd.N_drewN | apply Kd.N_drew)); exact HO_10.out) hg hat); have n1_ := Aside0.mk (hb); have n2_ := Aside0.mk (ho); clear HO_10; clear HB; clear HO418; have HO_10 := n0_; have HB := n1_; have HO421 := n2_; clear n0_ n1_ n2_; clear ho hb hg hat) | (go_at_call 20; (with_reducible refine (worldmintref01_Around.calls (wrap64 (a3 + (wrap64 (17 * x15_2)))) 40 t422 _ A35.out).mono ?_); rintro e w' ⟨rfl, ⟨nd, rfl⟩⟩; (try first | exact ⟨rfl, _, World.drewN_drewN _ _ _⟩ | exact ⟨rfl, _, Eq.trans (World.drewN_drewN _ _ _) (congrArg (World.drewN _) (Nat.add_assoc _ _ _))⟩); have p38 : 0 ≤ (t409 : Int) := of_decide_eq_true (by first | (with_reducible assumption) | assumption); have q38 : (t409 : Int) < ((y419.length : Int) : Int) := of_decide_eq_true (by first | (with_reducible assumption) | assumption); obtain ⟨go38, co38, eo38, gb38, gl38, cl38, HG38⟩ := Kd.N_form HO421.out (by omega); (first | cases eo38 | (injection eo38 with ea_ en_ ec_; (first | subst ea_ | (injection ea_ with ea_; subst ea_)); subst ec_; clear en_)); have GB38 := Aside0.mk gb38; have GG38 := Aside0.mk HG38; clear gb38 gl38 HG38; obtain ⟨ce38, hcl38, hM38, hcc38, hfr38⟩ := Kd.N_elem HO421.out z45 (t409 : Int) p38 q38; obtain ⟨ua38_2, uc38_2, rfl, ul38_2, ge38_2⟩ := k45_openF hM38; have hx38_0 : w49.cell? ⟨go38, (t409 : Int).toNat * 3, none⟩ = some (.int .i64 ((rd_T45 y419 t409).f0)) := hcc38 0 _ rfl; have hx38_1 : w49.cell? ⟨go38, (t409 : Int).toNat * 3 + 1, none⟩ = some (.int .i64 ((rd_T45 y419 t409).f1)) := hcc38 1 _ rfl; have hx38_2 : w49.cell? ⟨go38, (t409 : Int).toNat * 3 + 2, none⟩ = some (.slice ua38_2 ((rd_T45 y419 t409).f2).length uc38_2) := hcc38 2 _ rfl; have hf38_0 : w49.frozen? ⟨go38, (t409 : Int).toNat * 3, none⟩ = false := hfr38 0; have hf38_1 : w49.frozen? ⟨go38, (t409 : Int).toNat * 3 + 1, none⟩ = false := hfr38 1; have hf38_2 : w49.frozen? ⟨go38, (t409 : Int).toNat * 3 + 2, none⟩ = false := hfr38 2; clear hcl38 hcc38 hfr38 hM38; replace p38 := eq_true p38; replace q38 := eq_true q38; have HX50 := Aside0.mk (show Kd.N k45 45 w49 w.heap.size (fun _ => True) (.slice (some ⟨go38, 0, none⟩) y419.length co38) y419 from (by (with_reducible repeat (first | apply Kd.N_alloc | apply Kd.N_drewN | apply Kd.N_drew)); exact HO421.out)); obtain ⟨ce50, hcl50, hM50, hcc50, hfr50⟩ := Kd.N_elem HX50.out z45 (t409 : Int) (of_decide_eq_true (by first | (with_reducible assumption) | assumption)) (by have h_ : (t409 : Int) < ((y419.length : Int) : Int) := of_decide_eq_true (by first | (with_reducible assumption) | assumption); first | exact h_ | (have e_ := (Kd.N_reads' HO421.out).1; omega) | simpa using h_); obtain ⟨ua50_2, uc50_2, rfl, ul50_2, ge50_2⟩ := k45_openF hM50; have HP50 := Kd.N_seg HX50.out (t409 : Int) (of_decide_eq_true (by first | (with_reducible assumption) | assumption)) (by have h_ : (t409 : Int) < ((y419.length : Int) : Int) := of_decide_eq_true (by first | (with_reducible assumption) | assumption); first | exact h_ | (have e_ := (Kd.N_reads' HO421.out).1; omega) | simpa using h_) (seg := [.int .i64 (wrap64 (1 + t422))]) (j := 1) hcl50 hcc50 (show 2 ≤ 3 from by decide) (x' := (⟨(rd_T45 y419 t409).f0, wrap64 (1 + t422), (rd_T45 y419 t409).f2⟩ : S45)) (k45_mkF _ _ (⟨(rd_T45 y419 t409).f0, wrap64 (1 + t422), (rd_T45 y419 t409).f2⟩ : S45) ul50_2 ge50_2) (fun _ hk => hk); have hx50_1 := hcc50 1 _ rfl; (try simp only [show (k45).sz = 3 from rfl, Nat.mul_one, Nat.add_zero] at hx50_1); have hf50_1 := hfr50 1; (try simp only [show (k45).sz = 3 from rfl, Nat.mul_one, Nat.add_zero] at hf50_1); clear hcl50 hcc50 hfr50 hM50) | ((with_reducible refine gate_store (t := 3) (p := 85) rfl ?_); (try (rw [drewN_self w49]; generalize hq_ : World.drewN w49 _ = w49; have n0_ := Aside0.mk (Kd.N_at hq_ HO_10.out); have n1_ := Aside0.mk (Kd.N_at hq_ HO421.out); have n2_ := Aside0.mk (below_at hq_ HB.out); clear hq_ HO_10 HO421 HB; have HO_10 := n0_; have HO421 := n1_; have HB := n2_; clear n0_ n1_ n2_; (try (have HX50 := Aside0.mk (show Kd.N k45 45 w49 w.heap.size (fun _ => True) (.slice (some ⟨go38, 0, none⟩) y419.length co38) y419 from (by (with_reducible repeat (first | apply Kd.N_alloc | apply Kd.N_drewN | apply Kd.N_drew)); exact HO421.out)))); (try (obtain ⟨ce50, hcl50, hM50, hcc50, hfr50⟩ := Kd.N_elem HX50.out z45 (t409 : Int) (of_decide_eq_true (by first | (with_reducible assumption) | assumption)) (by have h_ : (t409 : Int) < ((y419.length : Int) : Int) := of_decide_eq_true (by first | (with_reducible assumption) | assumption); first | exact h_ | (have e_ := (Kd.N_reads' HO421.out).1; omega) | simpa using h_))); (try (obtain ⟨ua50_2, uc50_2, rfl, ul50_2, ge50_2⟩ := k45_openF hM50)); (try (have HP50 := Kd.N_seg HX50.out (t409 : Int) (of_decide_eq_true (by first | (with_reducible assumption) | assumption)) (by have h_ : (t409 : Int) < ((y419.length : Int) : Int) := of_decide_eq_true (by first | (with_reducible assumption) | assumption); first | exact h_ | (have e_ := (Kd.N_reads' HO421.out).1; omega) | simpa using h_) (seg := [.int .i64 (wrap64 (1 + t422))]) (j := 1) hcl50 hcc50 (show 2 ≤ 3 from by decide) (x' := (⟨(rd_T45 y419 t409).f0, wrap64 (1 + t422), (rd_T45 y419 t409).f2⟩ : S45)) (k45_mkF _ _ (⟨(rd_T45 y419 t409).f0, wrap64 (1 + t422), (rd_T45 y419 t409).f2⟩ : S45) ul50_2 ge50_2) (fun _ hk => hk))); (try (have hx50_1 := hcc50 1 _ rfl)); (try (try simp only [show (k45).sz = 3 from rfl, Nat.mul_one, Nat.add_zero] at hx50_1)); (try (have hf50_1 := hfr50 1)); (try (try simp only [show (k45).sz = 3 from rfl, Nat.mul_one, Nat.add_zero] at hf50_1)); (try (clear hcl50 hcc50 hfr50 hM50)))); refine store_event (t := 3) (p := 85) (v := ?vo_w51) (w1 := (w49.setCell ⟨go38, (t409 : Int).toNat * 3 + 1, none⟩ (.int .i64 (wrap64 (1 + t422))))) ?hg ?ho ?hn ?hr ?_; (case ho => rfl); (case hg => rfl); (case hn => rfl); (case hr => first | (go_simp; done) | (go_simp; rfl)); intro w51 hw; have hg : w49.grownBy w51 (some go38) := (by rw [hw]; exact HP50.2); have hp_ : Kd.N k45 45 w51 w.heap.size (fun _ => True) (.slice (some ⟨go38, 0, none⟩) y419.length co38) y423 := (by rw [hw, Ny423.out]; exact HP50.1); clear HP50; have n0_ := Aside0.mk (Kd.N_afterv (v := (.slice (some ⟨go38, 0, none⟩) y419.length co38)) (v1 := (.slice (some ⟨go38, 0, none⟩) y419.length co38)) (ok := (fun _ => True)) (by (with_reducible repeat (first | apply Kd.N_alloc | apply Kd.N_drewN | apply Kd.N_drew)); first | exact HO_10.out | exact Kd.N_mono HO_10.out (fun k_ h_ => ⟨⟨h_.1, h_.2.1⟩, h_.2.2⟩) | exact Kd.N_mono HO_10.out (fun k_ h_ => ⟨⟨h_.1, h_.2.1, h_.2.2.1⟩, h_.2.2.2⟩) | exact Kd.N_mono HO_10.out (fun k_ h_ => ⟨h_.1, h_.2⟩)) hg (.inl rfl)); have n1_ := Aside0.mk (hp_); have n2_ := Aside0.mk ((by rw [hw]; exact below_set (HB.out) GB38.out : Below w.heap.size w w51)); clear HO_10; clear HO421; clear HB; have HO_10 := n0_; have HO421 := n1_; have HB := n2_; clear n0_ n1_ n2_; clear hg hw hp_) | (go_at_call 23; refine calls_of_args (args' := #[.int .i64 t401, .slice (some ⟨go38, 0, none⟩) y423.length co38, .int .i64 t409, .int .i64 ((rd_T45 x10_1 t409).f1)]) (by first | (rw [show y423.length = y419.length from (Kd.N_reads' HO421.out).1.symm] <;> rfl) | rfl) ?_; (with_reducible refine (worldmintlaw28_gain.calls k2 t401 _ _ y423 t409 ((rd_T45 x10_1 t409).f1) t424 _ ?side1 ?side2 A39.out).mono ?_); (case side1 => repeat (first | exact (Kd.N_reads' HO421.out).2.2 | (with_reducible refine Kd.C_alloc ?_ _) | (with_reducible refine Kd.C_drewN ?_ _) | (with_reducible refine Kd.C_drew ?_))); (case side2 => rw [show y423.length = y419.length from (Kd.N_reads' HO421.out).1.symm]; exact (Kd.N_reads' HO421.out).2.1); rintro e w52 ⟨rfl, hb⟩; have n0_ := Aside0.mk (Kd.N_below (by (with_reducible repeat (first | apply Kd.N_alloc | apply Kd.N_drewN | apply Kd.N_drew)); exact HO_10.out) hb); have n1_ := Aside0.mk (Kd.N_below (by (with_reducible repeat (first | apply Kd.N_alloc | apply Kd.N_drewN | apply Kd.N_drew)); exact HO421.out) hb); have n2_ := Aside0.mk (below_step (by repeat (first | (with_reducible first | exact HB.out | apply below_alloc | apply pw_below_drewN | apply below_drew1) | exact HB.out)) hb); clear HO_10; clear HO421; clear HB; have HO_10 := n0_; have HO421 := n1_; have HB := n2_; clear n0_ n1_ n2_; (try clear hb); (try clear hb2); (try clear hk); (try clear hi)))
              repeat (go_quiet (first | ((with_reducible refine gate_dst (N := 73) rfl ?_); refine Kd.N_lit k45 _ 45 ?hg (N' := 73) ?hd (xs := ([] : List (S45))) (inner := []) (ok := (fun k_ => some k_ ≠ (.slice (some ad413) x10_2.length co19 : Value).ownBlock)) (okp := (fun k_ => some k_ ≠ (.slice (some ad413) x10_2.length co19 : Value).ownBlock)) ?hr ?hp (fun _ hk => hk) ((show ∀ k_, wr.heap.size ≤ k_ → (fun k_ => some k_ ≠ (.slice (some ad413) x10_2.length co19 : Value).ownBlock) k_ from fun k_ hk => Kd.fresh' (Kd.N_lt (by (with_reducible repeat (first | apply Kd.N_alloc | apply Kd.N_drewN | apply Kd.N_drew)); exact HO_10.out)) k_ hk) _ (Nat.le_refl _)) (Below.refl _ _) (Nat.le_refl _) (by simp) ?_; (case hd => rfl); (case hg => rfl); (case hr => first | (go_simp; done) | (go_simp; rfl)); (case hp => exact (Reps.none _ _)); intro v417 w47 ho48 hb hg_ hnew_; clear hg_ hnew_; (first | rw [← Ny416.out] at ho48 | (simp only [Int.reduceToNat] at ho48; rw [← Ny416.out] at ho48)); have n0_ := Aside0.mk (Kd.N_elder' (by (with_reducible repeat (first | apply Kd.N_alloc | apply Kd.N_drewN | apply Kd.N_drew)); exact HO_10.out) (Kd.N_base ho48) hb); have n1_ := Aside0.mk (Kd.N_lower ho48 (below_size (by repeat (first | (with_reducible first | exact HB.out | apply below_alloc | apply pw_below_drewN | apply below_drew1) | exact HB.out)))); have n2_ := Aside0.mk (below_step (by repeat (first | (with_reducible first | exact HB.out | apply below_alloc | apply pw_below_drewN | apply below_drew1) | exact HB.out)) hb); clear HO_10; clear HB; have HO_10 := n0_; have HO418 := n1_; have HB := n2_; clear n0_ n1_ n2_; clear hb ho48) | ((with_reducible refine gate_builtin (b := .append) (xs := #[.tmp 73, .tmp 74]) rfl ?_); at_builtin; refine Kd.N_append_rows k45 (w0 := w) w.heap.size rfl (.tmp 73) (.tmp 74) 31 45 (.agg #[(.int .i64 0), (.int .i64 0), (.slice none 0 0)]) 40 rfl Try.underlying31 info45 rfl (by decide) (by omega) v417 y416 x10_2 _ _ _ (fun _ => True) (fun k_ => ((fun _ => True)) k_ ∧ some k_ ≠ (v417 : Value).ownBlock) rfl rfl ?aO ?aR (fun _ hk => hk) ?aF ?aB ?aS ?aL ?_; (case aR => exact (by skip; exact Kd.N_F (Kd.N_mono (ok' := (fun k_ => ((fun _ => True)) k_ ∧ some k_ ≠ (v417 : Value).ownBlock)) (HO_10.out) (fun k_ hk => ⟨trivial, hk.2⟩)))); (case aB => exact (by repeat (first | (with_reducible first | exact HB.out | apply below_alloc | apply pw_below_drewN | apply below_drew1) | exact HB.out))); (case aF => exact (fun _ _ => trivial)); (case aO => exact (by (with_reducible repeat (first | apply Kd.N_alloc | apply Kd.N_drewN | apply Kd.N_drew)); exact Kd.N_mono HO418.out (fun _ hk => trivial))); (case aS => exact (below_size (by repeat (first | (with_reducible first | exact HB.out | apply below_alloc | apply pw_below_drewN | apply below_drew1) | exact HB.out)))); (case aL => have := LMc34.out; omega); intro v420 w49 ho hb hg hat; rw [← Ny419.out] at ho; have n0_ := Aside0.mk (Kd.N_afterv (ok := (fun _ => True)) (by (with_reducible repeat (first | apply Kd.N_alloc | apply Kd.N_drewN | apply Kd.N_drew)); exact HO_10.out) hg hat); have n1_ := Aside0.mk (hb); have n2_ := Aside0.mk (ho); clear HO_10; clear HB; clear HO418; have HO_10 := n0_; have HB := n1_; have HO421 := n2_; clear n0_ n1_ n2_; clear ho hb hg hat) | (go_at_call 20; (with_reducible refine (worldmintref01_Around.calls (wrap64 (a3 + (wrap64 (17 * x15_2)))) 40 t422 _ A35.out).mono ?_); rintro e w' ⟨rfl, ⟨nd, rfl⟩⟩; (try first | exact ⟨rfl, _, World.drewN_drewN _ _ _⟩ | exact ⟨rfl, _, Eq.trans (World.drewN_drewN _ _ _) (congrArg (World.drewN _) (Nat.add_assoc _ _ _))⟩); have p38 : 0 ≤ (t409 : Int) := of_decide_eq_true (by first | (with_reducible assumption) | assumption); have q38 : (t409 : Int) < ((y419.length : Int) : Int) := of_decide_eq_true (by first | (with_reducible assumption) | assumption); obtain ⟨go38, co38, eo38, gb38, gl38, cl38, HG38⟩ := Kd.N_form HO421.out (by omega); (first | cases eo38 | (injection eo38 with ea_ en_ ec_; (first | subst ea_ | (injection ea_ with ea_; subst ea_)); subst ec_; clear en_)); have GB38 := Aside0.mk gb38; have GG38 := Aside0.mk HG38; clear gb38 gl38 HG38; obtain ⟨ce38, hcl38, hM38, hcc38, hfr38⟩ := Kd.N_elem HO421.out z45 (t409 : Int) p38 q38; obtain ⟨ua38_2, uc38_2, rfl, ul38_2, ge38_2⟩ := k45_openF hM38; have hx38_0 : w49.cell? ⟨go38, (t409 : Int).toNat * 3, none⟩ = some (.int .i64 ((rd_T45 y419 t409).f0)) := hcc38 0 _ rfl; have hx38_1 : w49.cell? ⟨go38, (t409 : Int).toNat * 3 + 1, none⟩ = some (.int .i64 ((rd_T45 y419 t409).f1)) := hcc38 1 _ rfl; have hx38_2 : w49.cell? ⟨go38, (t409 : Int).toNat * 3 + 2, none⟩ = some (.slice ua38_2 ((rd_T45 y419 t409).f2).length uc38_2) := hcc38 2 _ rfl; have hf38_0 : w49.frozen? ⟨go38, (t409 : Int).toNat * 3, none⟩ = false := hfr38 0; have hf38_1 : w49.frozen? ⟨go38, (t409 : Int).toNat * 3 + 1, none⟩ = false := hfr38 1; have hf38_2 : w49.frozen? ⟨go38, (t409 : Int).toNat * 3 + 2, none⟩ = false := hfr38 2; clear hcl38 hcc38 hfr38 hM38; replace p38 := eq_true p38; replace q38 := eq_true q38; have HX50 := Aside0.mk (show Kd.N k45 45 w49 w.heap.size (fun _ => True) (.slice (some ⟨go38, 0, none⟩) y419.length co38) y419 from (by (with_reducible repeat (first | apply Kd.N_alloc | apply Kd.N_drewN | apply Kd.N_drew)); exact HO421.out)); obtain ⟨ce50, hcl50, hM50, hcc50, hfr50⟩ := Kd.N_elem HX50.out z45 (t409 : Int) (of_decide_eq_true (by first | (with_reducible assumption) | assumption)) (by have h_ : (t409 : Int) < ((y419.length : Int) : Int) := of_decide_eq_true (by first | (with_reducible assumption) | assumption); first | exact h_ | (have e_ := (Kd.N_reads' HO421.out).1; omega) | simpa using h_); obtain ⟨ua50_2, uc50_2, rfl, ul50_2, ge50_2⟩ := k45_openF hM50; have HP50 := Kd.N_seg HX50.out (t409 : Int) (of_decide_eq_true (by first | (with_reducible assumption) | assumption)) (by have h_ : (t409 : Int) < ((y419.length : Int) : Int) := of_decide_eq_true (by first | (with_reducible assumption) | assumption); first | exact h_ | (have e_ := (Kd.N_reads' HO421.out).1; omega) | simpa using h_) (seg := [.int .i64 (wrap64 (1 + t422))]) (j := 1) hcl50 hcc50 (show 2 ≤ 3 from by decide) (x' := (⟨(rd_T45 y419 t409).f0, wrap64 (1 + t422), (rd_T45 y419 t409).f2⟩ : S45)) (k45_mkF _ _ (⟨(rd_T45 y419 t409).f0, wrap64 (1 + t422), (rd_T45 y419 t409).f2⟩ : S45) ul50_2 ge50_2) (fun _ hk => hk); have hx50_1 := hcc50 1 _ rfl; (try simp only [show (k45).sz = 3 from rfl, Nat.mul_one, Nat.add_zero] at hx50_1); have hf50_1 := hfr50 1; (try simp only [show (k45).sz = 3 from rfl, Nat.mul_one, Nat.add_zero] at hf50_1); clear hcl50 hcc50 hfr50 hM50) | ((with_reducible refine gate_store (t := 3) (p := 85) rfl ?_); (try (rw [drewN_self w49]; generalize hq_ : World.drewN w49 _ = w49; have n0_ := Aside0.mk (Kd.N_at hq_ HO_10.out); have n1_ := Aside0.mk (Kd.N_at hq_ HO421.out); have n2_ := Aside0.mk (below_at hq_ HB.out); clear hq_ HO_10 HO421 HB; have HO_10 := n0_; have HO421 := n1_; have HB := n2_; clear n0_ n1_ n2_; (try (have HX50 := Aside0.mk (show Kd.N k45 45 w49 w.heap.size (fun _ => True) (.slice (some ⟨go38, 0, none⟩) y419.length co38) y419 from (by (with_reducible repeat (first | apply Kd.N_alloc | apply Kd.N_drewN | apply Kd.N_drew)); exact HO421.out)))); (try (obtain ⟨ce50, hcl50, hM50, hcc50, hfr50⟩ := Kd.N_elem HX50.out z45 (t409 : Int) (of_decide_eq_true (by first | (with_reducible assumption) | assumption)) (by have h_ : (t409 : Int) < ((y419.length : Int) : Int) := of_decide_eq_true (by first | (with_reducible assumption) | assumption); first | exact h_ | (have e_ := (Kd.N_reads' HO421.out).1; omega) | simpa using h_))); (try (obtain ⟨ua50_2, uc50_2, rfl, ul50_2, ge50_2⟩ := k45_openF hM50)); (try (have HP50 := Kd.N_seg HX50.out (t409 : Int) (of_decide_eq_true (by first | (with_reducible assumption) | assumption)) (by have h_ : (t409 : Int) < ((y419.length : Int) : Int) := of_decide_eq_true (by first | (with_reducible assumption) | assumption); first | exact h_ | (have e_ := (Kd.N_reads' HO421.out).1; omega) | simpa using h_) (seg := [.int .i64 (wrap64 (1 + t422))]) (j := 1) hcl50 hcc50 (show 2 ≤ 3 from by decide) (x' := (⟨(rd_T45 y419 t409).f0, wrap64 (1 + t422), (rd_T45 y419 t409).f2⟩ : S45)) (k45_mkF _ _ (⟨(rd_T45 y419 t409).f0, wrap64 (1 + t422), (rd_T45 y419 t409).f2⟩ : S45) ul50_2 ge50_2) (fun _ hk => hk))); (try (have hx50_1 := hcc50 1 _ rfl)); (try (try simp only [show (k45).sz = 3 from rfl, Nat.mul_one, Nat.add_zero] at hx50_1)); (try (have hf50_1 := hfr50 1)); (try (try simp only [show (k45).sz = 3 from rfl, Nat.mul_one, Nat.add_zero] at hf50_1)); (try (clear hcl50 hcc50 hfr50 hM50)))); refine store_event (t := 3) (p := 85) (v := ?vo_w51) (w1 := (w49.setCell ⟨go38, (t409 : Int).toNat * 3 + 1, none⟩ (.int .i64 (wrap64 (1 + t422))))) ?hg ?ho ?hn ?hr ?_; (case ho => rfl); (case hg => rfl); (case hn => rfl); (case hr => first | (go_simp; done) | (go_simp; rfl)); intro w51 hw; have hg : w49.grownBy w51 (some go38) := (by rw [hw]; exact HP50.2); have hp_ : Kd.N k45 45 w51 w.heap.size (fun _ => True) (.slice (some ⟨go38, 0, none⟩) y419.length co38) y423 := (by rw [hw, Ny423.out]; exact HP50.1); clear HP50; have n0_ := Aside0.mk (Kd.N_afterv (v := (.slice (some ⟨go38, 0, none⟩) y419.length co38)) (v1 := (.slice (some ⟨go38, 0, none⟩) y419.length co38)) (ok := (fun _ => True)) (by (with_reducible repeat (first | apply Kd.N_alloc | apply Kd.N_drewN | apply Kd.N_drew)); first | exact HO_10.out | exact Kd.N_mono HO_10.out (fun k_ h_ => ⟨⟨h_.1, h_.2.1⟩, h_.2.2⟩) | exact Kd.N_mono HO_10.out (fun k_ h_ => ⟨⟨h_.1, h_.2.1, h_.2.2.1⟩, h_.2.2.2⟩) | exact Kd.N_mono HO_10.out (fun k_ h_ => ⟨h_.1, h_.2⟩)) hg (.inl rfl)); have n1_ := Aside0.mk (hp_); have n2_ := Aside0.mk ((by rw [hw]; exact below_set (HB.out) GB38.out : Below w.heap.size w w51)); clear HO_10; clear HO421; clear HB; have HO_10 := n0_; have HO421 := n1_; have HB := n2_; clear n0_ n1_ n2_; clear hg hw hp_) | (go_at_call 23; refine calls_of_args (args' := #[.int .i64 t401, .slice (some ⟨go38, 0, none⟩) y423.length co38, .int .i64 t409, .int .i64 ((rd_T45 x10_1 t409).f1)]) (by first | (rw [show y423.length = y419.length from (Kd.N_reads' HO421.out).1.symm] <;> rfl) | rfl) ?_; (with_reducible refine (worldmintlaw28_gain.calls k2 t401 _ _ y423 t409 ((rd_T45 x10_1 t409).f1) t424 _ ?side1 ?side2 A39.out).mono ?_); (case side1 => repeat (first | exact (Kd.N_reads' HO421.out).2.2 | (with_reducible refine Kd.C_alloc ?_ _) | (with_reducible refine Kd.C_drewN ?_ _) | (with_reducible refine Kd.C_drew ?_))); (case side2 => rw [show y423.length = y419.length from (Kd.N_reads' HO421.out).1.symm]; exact (Kd.N_reads' HO421.out).2.1); rintro e w52 ⟨rfl, hb⟩; have n0_ := Aside0.mk (Kd.N_below (by (with_reducible repeat (first | apply Kd.N_alloc | apply Kd.N_drewN | apply Kd.N_drew)); exact HO_10.out) hb); have n1_ := Aside0.mk (Kd.N_below (by (with_reducible repeat (first | apply Kd.N_alloc | apply Kd.N_drewN | apply Kd.N_drew)); exact HO421.out) hb); have n2_ := Aside0.mk (below_step (by repeat (first | (with_reducible first | exact HB.out | apply below_alloc | apply pw_below_drewN | apply below_drew1) | exact HB.out)) hb); clear HO_10; clear HO421; clear HB; have HO_10 := n0_; have HO421 := n1_; have HB := n2_; clear n0_ n1_ n2_; (try clear hb); (try clear hb2); (try clear hk); (try clear hi))); try go_wp2_with (first | ((with_reducible refine gate_dst (N := 73) rfl ?_); refine Kd.N_lit k45 _ 45 ?hg (N' := 73) ?hd (xs := ([] : List (S45))) (inner := []) (ok := (fun k_ => some k_ ≠ (.slice (some ad413) x10_2.length co19 : Value).ownBlock)) (okp := (fun k_ => some k_ ≠ (.slice (some ad413) x10_2.length co19 : Value).ownBlock)) ?hr ?hp (fun _ hk => hk) ((show ∀ k_, wr.heap.size ≤ k_ → (fun k_ => some k_ ≠ (.slice (some ad413) x10_2.length co19 : Value).ownBlock) k_ from fun k_ hk => Kd.fresh' (Kd.N_lt (by (with_reducible repeat (first | apply Kd.N_alloc | apply Kd.N_drewN | apply Kd.N_drew)); exact HO_10.out)) k_ hk) _ (Nat.le_refl _)) (Below.refl _ _) (Nat.le_refl _) (by simp) ?_; (case hd => rfl); (case hg => rfl); (case hr => first | (go_simp; done) | (go_simp; rfl)); (case hp => exact (Reps.none _ _)); intro v417 w47 ho48 hb hg_ hnew_; clear hg_ hnew_; (first | rw [← Ny416.out] at ho48 | (simp only [Int.reduceToNat] at ho48; rw [← Ny416.out] at ho48)); have n0_ := Aside0.mk (Kd.N_elder' (by (with_reducible repeat (first | apply Kd.N_alloc | apply Kd.N_drewN | apply Kd.N_drew)); exact HO_10.out) (Kd.N_base ho48) hb); have n1_ := Aside0.mk (Kd.N_lower ho48 (below_size (by repeat (first | (with_reducible first | exact HB.out | apply below_alloc | apply pw_below_drewN | apply below_drew1) | exact HB.out)))); have n2_ := Aside0.mk (below_step (by repeat (first | (with_reducible first | exact HB.out | apply below_alloc | apply pw_below_drewN | apply below_drew1) | exact HB.out)) hb); clear HO_10; clear HB; have HO_10 := n0_; have HO418 := n1_; have HB := n2_; clear n0_ n1_ n2_; clear hb ho48) | ((with_reducible refine gate_builtin (b := .append) (xs := #[.tmp 73, .tmp 74]) rfl ?_); at_builtin; refine Kd.N_append_rows k45 (w0 := w) w.heap.size rfl (.tmp 73) (.tmp 74) 31 45 (.agg #[(.int .i64 0), (.int .i64 0), (.slice none 0 0)]) 40 rfl Try.underlying31 info45 rfl (by decide) (by omega) v417 y416 x10_2 _ _ _ (fun _ => True) (fun k_ => ((fun _ => True)) k_ ∧ some k_ ≠ (v417 : Value).ownBlock) rfl rfl ?aO ?aR (fun _ hk => hk) ?aF ?aB ?aS ?aL ?_; (case aR => exact (by skip; exact Kd.N_F (Kd.N_mono (ok' := (fun k_ => ((fun _ => True)) k_ ∧ some k_ ≠ (v417 : Value).ownBlock)) (HO_10.out) (fun k_ hk => ⟨trivial, hk.2⟩)))); (case aB => exact (by repeat (first | (with_reducible first | exact HB.out | apply below_alloc | apply pw_below_drewN | apply below_drew1) | exact HB.out))); (case aF => exact (fun _ _ => trivial)); (case aO => exact (by (with_reducible repeat (first | apply Kd.N_alloc | apply Kd.N_drewN | apply Kd.N_drew)); exact Kd.N_mono HO418.out (fun _ hk => trivial))); (case aS => exact (below_size (by repeat (first | (with_reducible first | exact HB.out | apply below_alloc | apply pw_below_drewN | apply below_drew1) | exact HB.out)))); (case aL => have := LMc34.out; omega); intro v420 w49 ho hb hg hat; rw [← Ny419.out] at ho; have n0_ := Aside0.mk (Kd.N_afterv (ok := (fun _ => True)) (by (with_reducible repeat (first | apply Kd.N_alloc | apply Kd.N_drewN | apply Kd.N_drew)); exact HO_10.out) hg hat); have n1_ := Aside0.mk (hb); have n2_ := Aside0.mk (ho); clear HO_10; clear HB; clear HO418; have HO_10 := n0_; have HB := n1_; have HO421 := n2_; clear n0_ n1_ n2_; clear ho hb hg hat) | (go_at_call 20; (with_reducible refine (worldmintref01_Around.calls (wrap64 (a3 + (wrap64 (17 * x15_2)))) 40 t422 _ A35.out).mono ?_); rintro e w' ⟨rfl, ⟨nd, rfl⟩⟩; (try first | exact ⟨rfl, _, World.drewN_drewN _ _ _⟩ | exact ⟨rfl, _, Eq.trans (World.drewN_drewN _ _ _) (congrArg (World.drewN _) (Nat.add_assoc _ _ _))⟩); have p38 : 0 ≤ (t409 : Int) := of_decide_eq_true (by first | (with_reducible assumption) | assumption); have q38 : (t409 : Int) < ((y419.length : Int) : Int) := of_decide_eq_true (by first | (with_reducible assumption) | assumption); obtain ⟨go38, co38, eo38, gb38, gl38, cl38, HG38⟩ := Kd.N_form HO421.out (by omega); (first | cases eo38 | (injection eo38 with ea_ en_ ec_; (first | subst ea_ | (injection ea_ with ea_; subst ea_)); subst ec_; clear en_)); have GB38 := Aside0.mk gb38; have GG38 := Aside0.mk HG38; clear gb38 gl38 HG38; obtain ⟨ce38, hcl38, hM38, hcc38, hfr38⟩ := Kd.N_elem HO421.out z45 (t409 : Int) p38 q38; obtain ⟨ua38_2, uc38_2, rfl, ul38_2, ge38_2⟩ := k45_openF hM38; have hx38_0 : w49.cell? ⟨go38, (t409 : Int).toNat * 3, none⟩ = some (.int .i64 ((rd_T45 y419 t409).f0)) := hcc38 0 _ rfl; have hx38_1 : w49.cell? ⟨go38, (t409 : Int).toNat * 3 + 1, none⟩ = some (.int .i64 ((rd_T45 y419 t409).f1)) := hcc38 1 _ rfl; have hx38_2 : w49.cell? ⟨go38, (t409 : Int).toNat * 3 + 2, none⟩ = some (.slice ua38_2 ((rd_T45 y419 t409).f2).length uc38_2) := hcc38 2 _ rfl; have hf38_0 : w49.frozen? ⟨go38, (t409 : Int).toNat * 3, none⟩ = false := hfr38 0; have hf38_1 : w49.frozen? ⟨go38, (t409 : Int).toNat * 3 + 1, none⟩ = false := hfr38 1; have hf38_2 : w49.frozen? ⟨go38, (t409 : Int).toNat * 3 + 2, none⟩ = false := hfr38 2; clear hcl38 hcc38 hfr38 hM38; replace p38 := eq_true p38; replace q38 := eq_true q38; have HX50 := Aside0.mk (show Kd.N k45 45 w49 w.heap.size (fun _ => True) (.slice (some ⟨go38, 0, none⟩) y419.length co38) y419 from (by (with_reducible repeat (first | apply Kd.N_alloc | apply Kd.N_drewN | apply Kd.N_drew)); exact HO421.out)); obtain ⟨ce50, hcl50, hM50, hcc50, hfr50⟩ := Kd.N_elem HX50.out z45 (t409 : Int) (of_decide_eq_true (by first | (with_reducible assumption) | assumption)) (by have h_ : (t409 : Int) < ((y419.length : Int) : Int) := of_decide_eq_true (by first | (with_reducible assumption) | assumption); first | exact h_ | (have e_ := (Kd.N_reads' HO421.out).1; omega) | simpa using h_); obtain ⟨ua50_2, uc50_2, rfl, ul50_2, ge50_2⟩ := k45_openF hM50; have HP50 := Kd.N_seg HX50.out (t409 : Int) (of_decide_eq_true (by first | (with_reducible assumption) | assumption)) (by have h_ : (t409 : Int) < ((y419.length : Int) : Int) := of_decide_eq_true (by first | (with_reducible assumption) | assumption); first | exact h_ | (have e_ := (Kd.N_reads' HO421.out).1; omega) | simpa using h_) (seg := [.int .i64 (wrap64 (1 + t422))]) (j := 1) hcl50 hcc50 (show 2 ≤ 3 from by decide) (x' := (⟨(rd_T45 y419 t409).f0, wrap64 (1 + t422), (rd_T45 y419 t409).f2⟩ : S45)) (k45_mkF _ _ (⟨(rd_T45 y419 t409).f0, wrap64 (1 + t422), (rd_T45 y419 t409).f2⟩ : S45) ul50_2 ge50_2) (fun _ hk => hk); have hx50_1 := hcc50 1 _ rfl; (try simp only [show (k45).sz = 3 from rfl, Nat.mul_one, Nat.add_zero] at hx50_1); have hf50_1 := hfr50 1; (try simp only [show (k45).sz = 3 from rfl, Nat.mul_one, Nat.add_zero] at hf50_1); clear hcl50 hcc50 hfr50 hM50) | ((with_reducible refine gate_store (t := 3) (p := 85) rfl ?_); (try (rw [drewN_self w49]; generalize hq_ : World.drewN w49 _ = w49; have n0_ := Aside0.mk (Kd.N_at hq_ HO_10.out); have n1_ := Aside0.mk (Kd.N_at hq_ HO421.out); have n2_ := Aside0.mk (below_at hq_ HB.out); clear hq_ HO_10 HO421 HB; have HO_10 := n0_; have HO421 := n1_; have HB := n2_; clear n0_ n1_ n2_; (try (have HX50 := Aside0.mk (show Kd.N k45 45 w49 w.heap.size (fun _ => True) (.slice (some ⟨go38, 0, none⟩) y419.length co38) y419 from (by (with_reducible repeat (first | apply Kd.N_alloc | apply Kd.N_drewN | apply Kd.N_drew)); exact HO421.out)))); (try (obtain ⟨ce50, hcl50, hM50, hcc50, hfr50⟩ := Kd.N_elem HX50.out z45 (t409 : Int) (of_decide_eq_true (by first | (with_reducible assumption) | assumption)) (by have h_ : (t409 : Int) < ((y419.length : Int) : Int) := of_decide_eq_true (by first | (with_reducible assumption) | assumption); first | exact h_ | (have e_ := (Kd.N_reads' HO421.out).1; omega) | simpa using h_))); (try (obtain ⟨ua50_2, uc50_2, rfl, ul50_2, ge50_2⟩ := k45_openF hM50)); (try (have HP50 := Kd.N_seg HX50.out (t409 : Int) (of_decide_eq_true (by first | (with_reducible assumption) | assumption)) (by have h_ : (t409 : Int) < ((y419.length : Int) : Int) := of_decide_eq_true (by first | (with_reducible assumption) | assumption); first | exact h_ | (have e_ := (Kd.N_reads' HO421.out).1; omega) | simpa using h_) (seg := [.int .i64 (wrap64 (1 + t422))]) (j := 1) hcl50 hcc50 (show 2 ≤ 3 from by decide) (x' := (⟨(rd_T45 y419 t409).f0, wrap64 (1 + t422), (rd_T45 y419 t409).f2⟩ : S45)) (k45_mkF _ _ (⟨(rd_T45 y419 t409).f0, wrap64 (1 + t422), (rd_T45 y419 t409).f2⟩ : S45) ul50_2 ge50_2) (fun _ hk => hk))); (try (have hx50_1 := hcc50 1 _ rfl)); (try (try simp only [show (k45).sz = 3 from rfl, Nat.mul_one, Nat.add_zero] at hx50_1)); (try (have hf50_1 := hfr50 1)); (try (try simp only [show (k45).sz = 3 from rfl, Nat.mul_one, Nat.add_zero] at hf50_1)); (try (clear hcl50 hcc50 hfr50 hM50)))); refine store_event (t := 3) (p := 85) (v := ?vo_w51) (w1 := (w49.setCell ⟨go38, (t409 : Int).toNat * 3 + 1, none⟩ (.int .i64 (wrap64 (1 + t422))))) ?hg ?ho ?hn ?hr ?_; (case ho => rfl); (case hg => rfl); (case hn => rfl); (case hr => first | (go_simp; done) | (go_simp; rfl)); intro w51 hw; have hg : w49.grownBy w51 (some go38) := (by rw [hw]; exact HP50.2); have hp_ : Kd.N k45 45 w51 w.heap.size (fun _ => True) (.slice (some ⟨go38, 0, none⟩) y419.length co38) y423 := (by rw [hw, Ny423.out]; exact HP50.1); clear HP50; have n0_ := Aside0.mk (Kd.N_afterv (v := (.slice (some ⟨go38, 0, none⟩) y419.length co38)) (v1 := (.slice (some ⟨go38, 0, none⟩) y419.length co38)) (ok := (fun _ => True)) (by (with_reducible repeat (first | apply Kd.N_alloc | apply Kd.N_drewN | apply Kd.N_drew)); first | exact HO_10.out | exact Kd.N_mono HO_10.out (fun k_ h_ => ⟨⟨h_.1, h_.2.1⟩, h_.2.2⟩) | exact Kd.N_mono HO_10.out (fun k_ h_ => ⟨⟨h_.1, h_.2.1, h_.2.2.1⟩, h_.2.2.2⟩) | exact Kd.N_mono HO_10.out (fun k_ h_ => ⟨h_.1, h_.2⟩)) hg (.inl rfl)); have n1_ := Aside0.mk (hp_); have n2_ := Aside0.mk ((by rw [hw]; exact below_set (HB.out) GB38.out : Below w.heap.size w w51)); clear HO_10; clear HO421; clear HB; have HO_10 := n0_; have HO421 := n1_; have HB := n2_; clear n0_ n1_ n2_; clear hg hw hp_) | (go_at_call 23; refine calls_of_args (args' := #[.int .i64 t401, .slice (some ⟨go38, 0, none⟩) y423.length co38, .int .i64 t409, .int .i64 ((rd_T45 x10_1 t409).f1)]) (by first | (rw [show y423.length = y419.length from (Kd.N_reads' HO421.out).1.symm] <;> rfl) | rfl) ?_; (with_reducible refine (worldmintlaw28_gain.calls k2 t401 _ _ y423 t409 ((rd_T45 x10_1 t409).f1) t424 _ ?side1 ?side2 A39.out).mono ?_); (case side1 => repeat (first | exact (Kd.N_reads' HO421.out).2.2 | (with_reducible refine Kd.C_alloc ?_ _) | (with_reducible refine Kd.C_drewN ?_ _) | (with_reducible refine Kd.C_drew ?_))); (case side2 => rw [show y423.length = y419.length from (Kd.N_reads' HO421.out).1.symm]; exact (Kd.N_reads' HO421.out).2.1); rintro e w52 ⟨rfl, hb⟩; have n0_ := Aside0.mk (Kd.N_below (by (with_reducible repeat (first | apply Kd.N_alloc | apply Kd.N_drewN | apply Kd.N_drew)); exact HO_10.out) hb); have n1_ := Aside0.mk (Kd.N_below (by (with_reducible repeat (first | apply Kd.N_alloc | apply Kd.N_drewN | apply Kd.N_drew)); exact HO421.out) hb); have n2_ := Aside0.mk (below_step (by repeat (first | (with_reducible first | exact HB.out | apply below_alloc | apply pw_below_drewN | apply below_drew1) | exact HB.out)) hb); clear HO_10; clear HO421; clear HB; have HO_10 := n0_; have HO421 := n1_; have HB := n2_; clear n0_ n1_ n2_; (try clear hb); (try clear hb2); (try clear hk); (try clear hi))))
              (try simp only [← hl10_2])
              go_roundg k2
              case measure => have := HK1.out; have := HK2.out; omega
              case rel => exact ⟨(x10_2), (wrap64 (x15_2 + 1)), (by first | rfl | (simp; done) | (simp [*]; done)), H', ⟨by have := HK1.out; have := HK2.out; omega⟩, ⟨by (try simp only [hl10_1]); (try simp only [hl10_2]); (with_reducible repeat (first | apply Kd.N_alloc | apply Kd.N_drewN | apply Kd.N_drew)); exact Kd.N_mono HO_10.out (fun _ hk => trivial)⟩, ⟨by repeat (first | (with_reducible first | exact HB.out | apply below_alloc | apply pw_below_drewN | apply below_drew1) | exact HB.out)⟩⟩
            ·rw [if_neg c37] at H
             exact absurd H (by simp)
           ·rw [if_neg c36] at H
            exact absurd H (by simp)
          ·rw [if_neg c34] at H
           exact absurd H (by simp)
         ·rw [if_neg c33] at H
          have c33b0 : decide (x15_2 < 4) = false := decide_eq_false c33
          clear c33
          replace H := Option.bind_eq_some_iff.mp H
          obtain ⟨t415, A530, H⟩ := H
          replace H : (some t415) = some r := H
          have A53 := Aside0.mk A530
          clear A530
          obtain rfl := Option.some.inj H
          go_wp2_with (first | (go_at_call 18; (with_reducible refine (worldmintlaw28_lives.calls k2  t415 _ A53.out).mono ?_); rintro e w54 ⟨rfl, hb⟩; have n0_ := Aside0.mk (Kd.N_below (by (with_reducible repeat (first | apply Kd.N_alloc | apply Kd.N_drewN | apply Kd.N_drew)); exact HO_10.out) hb); have n1_ := Aside0.mk (below_step (by repeat (first | (with_reducible first | exact HB.out | apply below_alloc | apply pw_below_drewN | apply below_drew1) | exact HB.out)) hb); clear HO_10; clear HB; have HO_10 := n0_; have HB := n1_; clear n0_ n1_; (try clear hb); (try clear hb2); (try clear hk); (try clear hi)))
          repeat (go_quiet (first | (go_at_call 18; (with_reducible refine (worldmintlaw28_lives.calls k2  t415 _ A53.out).mono ?_); rintro e w54 ⟨rfl, hb⟩; have n0_ := Aside0.mk (Kd.N_below (by (with_reducible repeat (first | apply Kd.N_alloc | apply Kd.N_drewN | apply Kd.N_drew)); exact HO_10.out) hb); have n1_ := Aside0.mk (below_step (by repeat (first | (with_reducible first | exact HB.out | apply below_alloc | apply pw_below_drewN | apply below_drew1) | exact HB.out)) hb); clear HO_10; clear HB; have HO_10 := n0_; have HB := n1_; clear n0_ n1_; (try clear hb); (try clear hb2); (try clear hk); (try clear hi))); try go_wp2_with (first | (go_at_call 18; (with_reducible refine (worldmintlaw28_lives.calls k2  t415 _ A53.out).mono ?_); rintro e w54 ⟨rfl, hb⟩; have n0_ := Aside0.mk (Kd.N_below (by (with_reducible repeat (first | apply Kd.N_alloc | apply Kd.N_drewN | apply Kd.N_drew)); exact HO_10.out) hb); have n1_ := Aside0.mk (below_step (by repeat (first | (with_reducible first | exact HB.out | apply below_alloc | apply pw_below_drewN | apply below_drew1) | exact HB.out)) hb); clear HO_10; clear HB; have HO_10 := n0_; have HB := n1_; clear n0_ n1_; (try clear hb); (try clear hb2); (try clear hk); (try clear hi))))
          go_ret
          exact ⟨by first | rfl | (simp [errW_none, errW_some] <;> rfl) | (simp [*, errW_none, errW_some] <;> rfl), by repeat (first | (with_reducible first | exact HB.out | apply below_alloc | apply pw_below_drewN | apply below_drew1) | exact HB.out)⟩
      ·rw [if_neg c30] at H
       exact absurd H (by simp)
     ·rw [if_neg c29] at H
      exact absurd H (by simp)

/-- THE ONE PURE STATEMENT of worldmintlaw28_ClearTruthful: yours. -/
def worldmintlaw28_ClearTruthful.Pure : Prop := ∀ (a0 : Int) (l1 : List Int) (a2 : Int) (a3 : Int), (Lit.int .i64 a0).wf = true → l1.length ≤ maxLen → l1.length * 8 ≤ 140737488351232 → (∀ x ∈ l1, (Lit.int .i64 x).wf = true) → (Lit.int .i64 a2).wf = true → (Lit.int .i64 a3).wf = true → ∃ k, worldmintlaw28_ClearTruthful.f k a0 l1 a2 a3 = some true
theorem worldmintlaw28_ClearTruthful.walk (P : worldmintlaw28_ClearTruthful.Pure) (a0 : Int) (a1 : Option Addr) (len1 cap1 : Nat) (z1 : List Int) (a2 : Int) (a3 : Int) (w : World) (w0 : (Lit.int .i64 a0).wf = true) (w1 : (a1 = none ∧ len1 = 0 ∧ cap1 = 0 ∧ z1 = []) ∨ ∃ x, a1 = some x ∧ len1 ≤ cap1 ∧ cap1 ≤ maxLen ∧ z1.length = cap1 ∧ (∀ i, i < z1.length → w.cell? (x.add i) = some (.int .i64 (z1.getD i 0))) ∧ ∀ n ∈ z1, (Lit.int .i64 n).wf = true) (y1 : len1 * 8 ≤ 140737488351232) (w2 : (Lit.int .i64 a2).wf = true) (w3 : (Lit.int .i64 a3).wf = true) :
  Calls Try.prog 5 #[.int .i64 a0, .slice a1 len1 cap1, .int .i64 a2, .int .i64 a3] w fun e w' => e = .returned (.bool true) ∧ Below w.heap.size w w' := by
 obtain ⟨l1, rfl, hr1, hm1, hw1, hc1⟩ := ReadsInt.ofRowC w1
 obtain ⟨k, h⟩ := P a0 l1 a2 a3 w0 hm1 y1 hw1 w2 w3
 refine (worldmintlaw28_ClearTruthful.calls k a0 _ _ l1 a2 a3 true w (Kd.C_of_reads (d := (0 : Int)) (h1 := fun _ => rfl) hr1) hc1 h).mono ?_
 rintro e w' ⟨rfl, hd⟩
 exact ⟨rfl, hd⟩

end Go.Proofs.Ytecbfpcidoilmaa.H

/- Written by a program of this session over the kit's printer: what the functions named below compute, and that the machine's calls compute it. Not trusted: Lean checks it. -/
namespace Go.Proofs.Ytecbfpcidoilmaa.H
open Go.RowKit Go.Proofs.YtecbfpcidoilmaaW.PrintWords Go.Proofs.YtecbfpcidoilmaaW.PrintLast Go.Proofs.YtecbfpcidoilmaaW.PrintMore
attribute [local go_sem] max2_int min2_int max_two min_two max_three min_three max_four min_four   -- for this text's walks alone
set_option linter.unusedVariables false
set_option linter.unusedSimpArgs false



end Go.Proofs.Ytecbfpcidoilmaa.H
