/- Texts of this claim, one behind the other. -/
import Derived.Test.YtecbfpcidoilmaaMClearBoundb
import Derived.Test.YtecbfpcidoilmaaMClearBoundc
import Derived.BigRegion
import Derived.Laws.CopyOwn

/- Written by a program of this session over the kit's printer: what the functions named below compute, and that the machine's calls compute it. Not trusted: Lean checks it. -/
namespace Go.Proofs.Ytecbfpcidoilmaa.H
open Go.RowKit Go.Proofs.YtecbfpcidoilmaaW.PrintWords Go.Proofs.YtecbfpcidoilmaaW.PrintLast Go.Proofs.YtecbfpcidoilmaaW.PrintMore
attribute [local go_sem] max2_int min2_int max_two min_two max_three min_three max_four min_four   -- for this text's walks alone
set_option linter.unusedVariables false
set_option linter.unusedSimpArgs false

/-! ### clear_Prices: function 14 -/
def clear_Prices.l0 : Nat → List (S45) → Int → List Int → List Int → Int → Int → Option (List Int × Int)
 | 0, _, _, _, _, _, _ => none
 | k + 1, x1, x7, x9, x25, x26, x27 => if x27 < x26 then (if 0 ≤ x27 then (if x27 < (x25.length : Int) then (if 0 ≤ (rd x25 x27) then (if (rd x25 x27) < (x1.length : Int) then ((clear_others.f x1 ((rd_T45 x1 (rd x25 x27)).f0)).bind fun t158 => (if (rd x25 x27) < (x9.length : Int) then (clear_Prices.l0 k x1 x7 (x9.set ((rd x25 x27) : Int).toNat (wrap64 ((wrap64 (t158 - x7)) + ((rd_T45 x1 (rd x25 x27)).f1)))) x25 x26 (wrap64 (x27 + 1))) else (none))) else (none)) else (none)) else (none)) else (none)) else (some (x9, 0))
def clear_Prices.f (k : Nat) (a0 : Int) (l1 : List (S45)) : Option (List Int × Int) := (clear_Best.f a0 l1).bind fun bt148 => (if bt148.2.2 = 0 then (if 0 ≤ (l1.length : Int) then (if ((l1.length : Int) : Int).toNat ≤ 35184372088832 then (clear_Prices.l0 k l1 bt148.2.1 (List.replicate ((l1.length : Int) : Int).toNat 0) bt148.1 (bt148.1.length : Int) 0) else (none)) else (none)) else (some (([] : List Int), bt148.2.2)))
theorem clear_Prices.mono_l : ∀ k, (∀ y0 y1 y2 y3 y4 y5, LeO (clear_Prices.l0 k y0 y1 y2 y3 y4 y5) (clear_Prices.l0 (k + 1) y0 y1 y2 y3 y4 y5))
 | 0 => fun _ _ _ _ _ _ r h => by simp [clear_Prices.l0] at h
 | k + 1 => by
  have ih0 := clear_Prices.mono_l k
  ·intro y0 y1 y2 y3 y4 y5
   unfold clear_Prices.l0
   repeat' first
   | (with_reducible exact ih0 _ _ _ _ _ _)
   | (with_reducible exact LeO.refl _)
   | (with_reducible exact LeO.none _)
   | (with_reducible refine LeO.ite ?_ ?_)
   | (with_reducible refine LeO.bind ?_ (fun _ => ?_))
   | exact ih0 _ _ _ _ _ _
   | exact LeO.none _
   | refine LeO.ite ?_ ?_
   | refine LeO.bind ?_ (fun _ => ?_)
theorem clear_Prices.mono : ∀ a0 a1 k, LeO (clear_Prices.f k a0 a1) (clear_Prices.f (k + 1) a0 a1) := by
 intro a0 a1 k
 have ih0 := clear_Prices.mono_l k
 unfold clear_Prices.f
 repeat' first
   | (with_reducible exact ih0 _ _ _ _ _ _)
   | (with_reducible exact LeO.refl _)
   | (with_reducible exact LeO.none _)
   | (with_reducible refine LeO.ite ?_ ?_)
   | (with_reducible refine LeO.bind ?_ (fun _ => ?_))
   | exact ih0 _ _ _ _ _ _
   | exact LeO.none _
   | refine LeO.ite ?_ ?_
   | refine LeO.bind ?_ (fun _ => ?_)
def clear_Prices.T8 : Bool × List (List Nat × List Nat) := (true, [([], []), ([], []), ([], []), ([], []), ([], []), ([3, 4], [3, 4]), ([5], [5]), ([6], [6]), ([2, 7], [2, 7]), ([], []), ([8, 9], [8, 9]), ([], []), ([], []), ([11, 12], [11, 12]), ([13], [13]), ([14], [14]), ([10, 15], [10, 15]), ([0, 1, 0, 1, 2, 3, 4, 5, 6, 7, 8, 9, 10, 11, 12, 13, 14, 15, 16], [0, 1]), ([17, 16, 8, 0, 1, 2, 3, 4, 5, 6, 7, 8, 9, 10, 11, 12, 13, 14, 15, 16], [16, 17])])
def clear_Prices.B8 : List Nat := [0, 0, 0, 0, 0, 24, 56, 120, 252, 0, 1020, 0, 0, 6144, 14336, 30720, 65532, 131071, 262143]
theorem clear_Prices.tab8 : rtab .any (opsOf Try.f14 8) = clear_Prices.T8 := by kernel_rfl
theorem clear_Prices.bits8 : waitsOk clear_Prices.T8.2 clear_Prices.B8 = true := by kernel_rfl
set_option maxHeartbeats 8000000 in
set_option maxRecDepth 100000 in
theorem clear_Prices.calls (k : Nat) (a0 : Int) (A1 : Option Addr) (c1 : Nat) (l1 : List (S45)) (r1 : List Int) (r2 : Int) (w : World) (hr1 : Kd.C k45 w A1 l1.length l1) (hc1 : l1.length ≤ c1) (h : clear_Prices.f k a0 l1 = some (r1, r2)) :
  Calls Try.prog 14 #[.int .i64 a0, .slice A1 l1.length c1] w fun e w' => ∃ v0_ : Value, e = .returned (.tuple #[v0_, .int .i64 r2]) ∧ Kd.R (Kd.int .i64) 3 w' w.heap.size (fun _ => True) v0_ r1 ∧ Below w.heap.size w w' := by
 have HR1 := Aside0.mk hr1
 have HC1 := Aside0.mk hc1
 clear hr1 hc1
 have HB := Aside0.mk (Below.refl w.heap.size w)
 have H : ((clear_Best.f a0 l1).bind fun bt148 => (if bt148.2.2 = 0 then (if 0 ≤ (l1.length : Int) then (if ((l1.length : Int) : Int).toNat ≤ 35184372088832 then (clear_Prices.l0 k l1 bt148.2.1 (List.replicate ((l1.length : Int) : Int).toNat 0) bt148.1 (bt148.1.length : Int) 0) else (none)) else (none)) else (some (([] : List Int), bt148.2.2)))) = some (r1, r2) := h
 clear h
 replace H := Option.bind_eq_some_iff.mp H
 obtain ⟨⟨t148, t149, t150⟩, A30, H⟩ := H
 replace H : (if t150 = 0 then (if 0 ≤ (l1.length : Int) then (if ((l1.length : Int) : Int).toNat ≤ 35184372088832 then (clear_Prices.l0 k l1 t149 (List.replicate ((l1.length : Int) : Int).toNat 0) t148 (t148.length : Int) 0) else (none)) else (none)) else (some (([] : List Int), t150))) = some (r1, r2) := H
 have A3 := Aside0.mk A30
 clear A30
 by_cases c4 : t150 = 0
 ·rw [if_pos c4] at H
  have c4b0 : (t150 == 0) = true := beq_iff_eq.mpr c4
  have c4b1 : (t150 != 0) = false := bne_eq_false_iff_eq.mpr c4
  clear c4
  by_cases c5 : 0 ≤ (l1.length : Int)
  ·rw [if_pos c5] at H
   have c5b0 := eq_true c5
   have c5b1 : decide (0 ≤ (l1.length : Int)) = true := decide_eq_true c5
   clear c5
   by_cases c6 : ((l1.length : Int) : Int).toNat ≤ 35184372088832
   ·rw [if_pos c6] at H
    have c6b0 := eq_true c6
    have c6b1 : decide (((l1.length : Int) : Int).toNat ≤ 35184372088832) = true := decide_eq_true c6
    clear c6
    obtain ⟨y153, hy153⟩ : ∃ y_ : List Int, y_ = (List.replicate ((l1.length : Int) : Int).toNat 0) := ⟨_, rfl⟩
    replace H : (clear_Prices.l0 k l1 t149 y153 t148 (t148.length : Int) 0) = some (r1, r2) := by first | (rw [hy153]; with_reducible exact H) | (have H2_ := (Option.bind_some _ _).symm.trans H; rw [hy153]; with_reducible exact H2_) | (have H2_ := (Option.bind_some _ _).symm.trans H; with_reducible exact H2_) | with_reducible exact H | (rw [hy153]; exact H) | exact H
    have Ny153 := Aside0.mk hy153
    clear hy153
    have H' := Aside0.mk H
    clear H
    go_enter Try.func14, Try.ntmps14
    go_wp2_with (first | ((with_reducible refine gate_callee (f := 24) rfl ?_); refine goesL_ (some 15) rfl rfl Try.func24 (by kernel_rfl) rfl #[.int .i64 a0, .slice A1 l1.length c1] rfl (by (try simp only [List.map_toArray, List.map_cons, List.map_nil]); first | done | rfl | (simp only [List.length_drop, List.length_take]; rfl)) ?_; (with_reducible refine (clear_Best.calls a0 _ _ l1 t148 t149 t150 _ ?side1 ?side2 A3.out).mono ?_); (case side1 => repeat (first | exact HR1.out | (with_reducible refine Kd.C_alloc ?_ _) | (with_reducible refine Kd.C_drewN ?_ _) | (with_reducible refine Kd.C_drew ?_))); (case side2 => exact HC1.out); rintro e w7 ⟨v151, rfl, ho0, hb⟩; refine ⟨_, rfl, ?_⟩; have n0_ := Aside0.mk (Kd.R_lower ho0 (below_size (by repeat (first | (with_reducible first | exact HB.out | apply below_alloc | apply pw_below_drewN | apply below_drew1) | exact HB.out)))); have n1_ := Aside0.mk (below_step (by repeat (first | (with_reducible first | exact HB.out | apply below_alloc | apply pw_below_drewN | apply below_drew1) | exact HB.out)) hb); clear HB; have HO152 := n0_; have HB := n1_; clear n0_ n1_; (try clear hb); (try clear hb2); (try clear hk); (try clear hi); (try clear ho0)) | ((with_reducible refine gate_dst (N := 24) rfl ?_); refine Kd.R_make (Kd.int .i64) _ 3 rfl (N := 24) rfl 22 _ _ rfl (l1.length : Int) rfl rfl Try.underlying22 (.int .i64 0) 8 info3 rfl (by decide) (by omega) 0 (ok := fun _ => True) (okp := fun _ => True) rfl (fun _ hk => hk) trivial (of_decide_eq_true (by first | (with_reducible assumption) | assumption)) (Nat.le_trans (Nat.mul_le_mul_right _ (of_decide_eq_true (by first | (with_reducible assumption) | assumption) : (l1.length : Int).toNat ≤ 35184372088832)) (by omega)) (Below.refl _ _) (Nat.le_refl _) ?_; intro v154 w8 ho9 hb hg_ hnew_; clear hg_ hnew_; (first | rw [← Ny153.out] at ho9 | (simp only [Int.reduceToNat] at ho9; rw [← Ny153.out] at ho9)); have n0_ := Aside0.mk (Kd.R_elder' (by (with_reducible repeat (first | apply Kd.R_alloc | apply Kd.R_drewN | apply Kd.R_drew)); exact HO152.out) (Kd.R_base ho9) hb); have n1_ := Aside0.mk (Kd.R_lower (Kd.R_new' ho9 (Kd.R_lt (by (with_reducible repeat (first | apply Kd.R_alloc | apply Kd.R_drewN | apply Kd.R_drew)); exact HO152.out))) (below_size (by repeat (first | (with_reducible first | exact HB.out | apply below_alloc | apply pw_below_drewN | apply below_drew1) | exact HB.out)))); have n2_ := Aside0.mk (below_step (by repeat (first | (with_reducible first | exact HB.out | apply below_alloc | apply pw_below_drewN | apply below_drew1) | exact HB.out)) hb); clear HO152; clear HB; have HO152 := n0_; have HO155 := n1_; have HB := n2_; clear n0_ n1_ n2_; clear hb ho9; obtain ⟨Ao10, co10, eo10⟩ := Kd.R_slice HO152.out; subst eo10))
    go_loopg [27] k (fun kq v27 w' => ∃ (x9_1 : List Int) (x27_1 : Int), v27 = .int .i64 x27_1 ∧ Aside0 (clear_Prices.l0 kq l1 t149 x9_1 t148 (t148.length : Int) x27_1 = some (r1, r2)) ∧ Aside0 (kq ≤ k) ∧ Aside0 (Kd.R (Kd.int .i64) 3 w' w.heap.size (fun k_ => some k_ ≠ ((.slice Ao10 t148.length co10) : Value).ownBlock) v154 x9_1) ∧ Aside0 (Kd.R (Kd.int .i64) 3 w' w.heap.size (fun k_ => some k_ ≠ (v154 : Value).ownBlock) (.slice Ao10 t148.length co10) t148) ∧ Aside0 (Below w.heap.size w w'))
    case atStart => exact ⟨(y153), (0), (by first | rfl | (simp; done) | (simp [*]; done)), H', ⟨Nat.le_refl _⟩, ⟨by (with_reducible repeat (first | apply Kd.R_alloc | apply Kd.R_drewN | apply Kd.R_drew)); exact Kd.R_mono HO155.out (fun _ hk => hk.2)⟩, ⟨by (with_reducible repeat (first | apply Kd.R_alloc | apply Kd.R_drewN | apply Kd.R_drew)); exact Kd.R_mono HO152.out (fun _ hk => hk.2)⟩, ⟨by repeat (first | (with_reducible first | exact HB.out | apply below_alloc | apply pw_below_drewN | apply below_drew1) | exact HB.out)⟩⟩
    case round =>
     clear H'
     try clear c1
     try clear c2
     try clear p2
     try clear c4
     try clear c4b0
     try clear c4b1
     try clear c5
     try clear c5b0
     try clear c5b1
     try clear c6
     try clear c6b0
     try clear c6b1
     obtain ⟨x9_1, x27_1, rfl, HA, HK1, HO_9, HO_25, HB⟩ := hrel
     cases gk with
     | zero => exact absurd HA.out (by simp [clear_Prices.l0])
     | succ k1 =>
      have H := HA.out
      clear HA
      simp only [clear_Prices.l0] at H
      by_cases c11 : x27_1 < (t148.length : Int)
      ·rw [if_pos c11] at H
       have c11b0 : decide (x27_1 < (t148.length : Int)) = true := decide_eq_true c11
       clear c11
       by_cases c12 : 0 ≤ x27_1
       ·rw [if_pos c12] at H
        have c12b0 : decide (0 ≤ x27_1) = true := decide_eq_true c12
        clear c12
        by_cases c13 : x27_1 < (t148.length : Int)
        ·rw [if_pos c13] at H
         have c13b0 : decide (x27_1 < (t148.length : Int)) = true := decide_eq_true c13
         clear c13
         by_cases c14 : 0 ≤ (rd t148 x27_1)
         ·rw [if_pos c14] at H
          have c14b0 : decide (0 ≤ (rd t148 x27_1)) = true := decide_eq_true c14
          clear c14
          by_cases c15 : (rd t148 x27_1) < (l1.length : Int)
          ·rw [if_pos c15] at H
           have c15b0 : decide ((rd t148 x27_1) < (l1.length : Int)) = true := decide_eq_true c15
           clear c15
           replace H := Option.bind_eq_some_iff.mp H
           obtain ⟨t158, A160, H⟩ := H
           replace H : (if (rd t148 x27_1) < (x9_1.length : Int) then (clear_Prices.l0 k1 l1 t149 (x9_1.set ((rd t148 x27_1) : Int).toNat (wrap64 ((wrap64 (t158 - t149)) + ((rd_T45 l1 (rd t148 x27_1)).f1)))) t148 (t148.length : Int) (wrap64 (x27_1 + 1))) else (none)) = some (r1, r2) := H
           have A16 := Aside0.mk A160
           clear A160
           by_cases c17 : (rd t148 x27_1) < (x9_1.length : Int)
           ·rw [if_pos c17] at H
            have c17b0 : decide ((rd t148 x27_1) < (x9_1.length : Int)) = true := decide_eq_true c17
            clear c17
            obtain ⟨y160, hy160⟩ : ∃ y_ : List Int, y_ = (x9_1.set ((rd t148 x27_1) : Int).toNat (wrap64 ((wrap64 (t158 - t149)) + ((rd_T45 l1 (rd t148 x27_1)).f1)))) := ⟨_, rfl⟩
            replace H : (clear_Prices.l0 k1 l1 t149 y160 t148 (t148.length : Int) (wrap64 (x27_1 + 1))) = some (r1, r2) := by first | (rw [hy160]; with_reducible exact H) | (have H2_ := (Option.bind_some _ _).symm.trans H; rw [hy160]; with_reducible exact H2_) | (have H2_ := (Option.bind_some _ _).symm.trans H; with_reducible exact H2_) | with_reducible exact H | (rw [hy160]; exact H) | exact H
            have Ny160 := Aside0.mk hy160
            clear hy160
            have H' := Aside0.mk H
            clear H
            have p156 : 0 ≤ (x27_1 : Int) := of_decide_eq_true (by first | (with_reducible assumption) | assumption)
            have q156 : x27_1 < (t148.length : Int) := of_decide_eq_true (by first | (with_reducible assumption) | assumption)
            obtain ⟨ad156, e156, hx156_0⟩ := Kd.at_int (Kd.R_reads' HO_25.out).2.2 x27_1 p156 q156
            cases e156
            replace p156 := eq_true p156
            replace q156 := eq_true q156
            try go_wp2
            have n0_ := Aside0.mk (Kd.R_drew HO_9.out)
            have n1_ := Aside0.mk (Kd.R_drew HO_25.out)
            have n2_ := Aside0.mk (below_drew1 HB.out)
            clear HO_9
            clear HO_25
            clear HB
            have HO_9 := n0_
            have HO_25 := n1_
            have HB := n2_
            clear n0_ n1_ n2_
            have p157 : 0 ≤ ((rd t148 x27_1) : Int) := of_decide_eq_true (by first | (with_reducible assumption) | assumption)
            have q157 : (rd t148 x27_1) < (l1.length : Int) := of_decide_eq_true (by first | (with_reducible assumption) | assumption)
            obtain ⟨ad157, A157_2, c157_2, e157, hx157_0, hx157_1, hx157_2, hl157_2, hi157_2⟩ := at_T45 HR1.out (rd t148 x27_1) p157 q157
            have hw157_2 := hx157_2
            have hw157_1 := hx157_1
            have hw157_0 := hx157_0
            cases e157
            replace hx157_0 := (HB.out.cell (World.block_lt_of_cell? w _ hx157_0)).trans hx157_0
            replace hx157_1 := (HB.out.cell (World.block_lt_of_cell? w _ hx157_1)).trans hx157_1
            replace hx157_2 := (HB.out.cell (World.block_lt_of_cell? w _ hx157_2)).trans hx157_2
            have HR157_2 := Aside0.mk hi157_2
            have HC157_2 := Aside0.mk hl157_2
            clear hi157_2 hl157_2
            replace p157 := eq_true p157
            replace q157 := eq_true q157
            have p159 : 0 ≤ ((rd t148 x27_1) : Int) := of_decide_eq_true (by first | (with_reducible assumption) | assumption)
            have q159 : (rd t148 x27_1) < (l1.length : Int) := of_decide_eq_true (by first | (with_reducible assumption) | assumption)
            obtain ⟨ad159, A159_2, c159_2, e159, hx159_0, hx159_1, hx159_2, hl159_2, hi159_2⟩ := at_T45 HR1.out (rd t148 x27_1) p159 q159
            have hw159_2 := hx159_2
            have hw159_1 := hx159_1
            have hw159_0 := hx159_0
            obtain rfl : ad157 = ad159 := (by injection e159)
            replace hx159_0 := (HB.out.cell (World.block_lt_of_cell? w _ hx159_0)).trans hx159_0
            replace hx159_1 := (HB.out.cell (World.block_lt_of_cell? w _ hx159_1)).trans hx159_1
            replace hx159_2 := (HB.out.cell (World.block_lt_of_cell? w _ hx159_2)).trans hx159_2
            have HR159_2 := Aside0.mk hi159_2
            have HC159_2 := Aside0.mk hl159_2
            clear hi159_2 hl159_2
            replace p159 := eq_true p159
            replace q159 := eq_true q159
            have ea_ := Option.some.inj (hx157_2.symm.trans hx159_2)
            injection ea_ with ea_ en_ ec_
            subst ea_
            subst ec_
            clear en_
            refine start_ (n := 19) (S := fun w' => w'.cell? (ad157.add (((rd t148 x27_1)).toNat * 3)) = some (.int .i64 ((rd_T45 l1 (rd t148 x27_1)).f0)) ∧ w'.cell? ⟨(ad157.add (((rd t148 x27_1)).toNat * 3)).block, (ad157.add (((rd t148 x27_1)).toNat * 3)).off + 1, none⟩ = some (.int .i64 ((rd_T45 l1 (rd t148 x27_1)).f1)) ∧ w'.cell? ⟨(ad157.add (((rd t148 x27_1)).toNat * 3)).block, (ad157.add (((rd t148 x27_1)).toNat * 3)).off + 2, none⟩ = some (.slice A157_2 ((rd_T45 l1 (rd t148 x27_1)).f2).length c157_2) ∧ w'.cell? (ad157.add (((rd t148 x27_1)).toNat * 3)) = some (.int .i64 ((rd_T45 l1 (rd t148 x27_1)).f0)) ∧ w'.cell? ⟨(ad157.add (((rd t148 x27_1)).toNat * 3)).block, (ad157.add (((rd t148 x27_1)).toNat * 3)).off + 1, none⟩ = some (.int .i64 ((rd_T45 l1 (rd t148 x27_1)).f1)) ∧ w'.cell? ⟨(ad157.add (((rd t148 x27_1)).toNat * 3)).block, (ad157.add (((rd t148 x27_1)).toNat * 3)).off + 2, none⟩ = some (.slice A157_2 ((rd_T45 l1 (rd t148 x27_1)).f2).length c157_2)) (ds := [18]) #[false, false, false, false, false, false, false, false, false, false, false, false, false, false, false, false, false, false, false] (by kernel_rfl) rfl rfl ⟨((HB.out.cell (World.block_lt_of_cell? w _ hw157_0)).trans hw157_0), ((HB.out.cell (World.block_lt_of_cell? w _ hw157_1)).trans hw157_1), ((HB.out.cell (World.block_lt_of_cell? w _ hw157_2)).trans hw157_2), ((HB.out.cell (World.block_lt_of_cell? w _ hw159_0)).trans hw159_0), ((HB.out.cell (World.block_lt_of_cell? w _ hw159_1)).trans hw159_1), ((HB.out.cell (World.block_lt_of_cell? w _ hw159_2)).trans hw159_2)⟩ (fun hHeld => ?_); refine with_tabW clear_Prices.tab8 clear_Prices.bits8 (fun HT_ HW_ => ?_)
            generalize wr.drew = w19 at HO_9 HO_25 HB HR157_2 HR159_2 hx157_0 hx157_1 hx157_2 hx159_0 hx159_1 hx159_2 hHeld ⊢
            refine pure_ (i := 0) (N := some 31) (v := ?_) (a' := ?_) #[true, false, false, false, false, false, false, false, false, false, false, false, false, false, false, false, false, false, false] rfl rfl (any_of HT_.out (by kernel_rfl)) (fun _ _ _ h => h) (Or.inl ⟨by rfl, ?_⟩) ?_ ?_
            rotate_left
            ·intro w'
             go_simp
             with_reducible rfl
            rotate_left
            ·simp only [Act.put, List.setIfInBounds_toArray, List.set_cons_zero, List.set_cons_succ, i64_w, i32_w]
             rfl
            refine pure_ (i := 1) (N := some 32) (v := ?_) (a' := ?_) #[true, true, false, false, false, false, false, false, false, false, false, false, false, false, false, false, false, false, false] rfl rfl (any_of HT_.out (by kernel_rfl)) (fun _ _ _ h => h) (Or.inl ⟨by rfl, ?_⟩) ?_ ?_
            rotate_left
            ·intro w'
             go_simp
             with_reducible rfl
            rotate_left
            ·simp only [Act.put, List.setIfInBounds_toArray, List.set_cons_zero, List.set_cons_succ, i64_w, i32_w]
             rfl
            refine pure_ (i := 2) (N := some 33) (v := ?_) (a' := ?_) #[true, true, true, false, false, false, false, false, false, false, false, false, false, false, false, false, false, false, false] rfl rfl (any_of HT_.out (by kernel_rfl)) (fun _ _ _ h => h) (Or.inl ⟨by rfl, ?_⟩) ?_ ?_
            rotate_left
            ·intro w'
             go_simp
             with_reducible rfl
            rotate_left
            ·simp only [Act.put, List.setIfInBounds_toArray, List.set_cons_zero, List.set_cons_succ, i64_w, i32_w]
             rfl
            refine pure_ (i := 3) (N := some 34) (v := ?_) (a' := ?_) #[true, true, true, true, false, false, false, false, false, false, false, false, false, false, false, false, false, false, false] rfl rfl (any_of HT_.out (by kernel_rfl)) (fun _ _ _ h => h) (Or.inl ⟨by rfl, ?_⟩) ?_ ?_
            rotate_left
            ·intro w'
             go_simp
             with_reducible rfl
            rotate_left
            ·simp only [Act.put, List.setIfInBounds_toArray, List.set_cons_zero, List.set_cons_succ, i64_w, i32_w]
             rfl
            refine pure_ (i := 4) (N := some 35) (v := ?_) (a' := ?_) #[true, true, true, true, true, false, false, false, false, false, false, false, false, false, false, false, false, false, false] rfl rfl (any_of HT_.out (by kernel_rfl)) (fun _ _ _ h => h) (Or.inl ⟨by rfl, ?_⟩) ?_ ?_
            rotate_left
            ·intro w'
             go_simp
             with_reducible rfl
            rotate_left
            ·simp only [Act.put, List.setIfInBounds_toArray, List.set_cons_zero, List.set_cons_succ, i64_w, i32_w]
             rfl
            refine pure_ (i := 5) (N := some 36) (v := ?_) (a' := ?_) #[true, true, true, true, true, true, false, false, false, false, false, false, false, false, false, false, false, false, false] rfl rfl (any_of HT_.out (by kernel_rfl)) (fun _ _ _ h => h) (Or.inl ⟨by rfl, ?_⟩) ?_ ?_
            rotate_left
            ·intro w'
             go_simp
             with_reducible rfl
            rotate_left
            ·simp only [Act.put, List.setIfInBounds_toArray, List.set_cons_zero, List.set_cons_succ, i64_w, i32_w]
             rfl
            refine pure_ (i := 6) (N := some 37) (v := ?_) (a' := ?_) #[true, true, true, true, true, true, true, false, false, false, false, false, false, false, false, false, false, false, false] rfl rfl (any_of HT_.out (by kernel_rfl)) (fun _ _ _ h => h) (Or.inl ⟨by rfl, ?_⟩) ?_ ?_
            rotate_left
            ·intro w'
             go_simp
             with_reducible rfl
            rotate_left
            ·simp only [Act.put, List.setIfInBounds_toArray, List.set_cons_zero, List.set_cons_succ, i64_w, i32_w]
             rfl
            refine pure_ (i := 9) (N := some 40) (v := ?_) (a' := ?_) #[true, true, true, true, true, true, true, false, false, true, false, false, false, false, false, false, false, false, false] rfl rfl (any_of HT_.out (by kernel_rfl)) (fun _ _ _ h => h) (Or.inl ⟨by rfl, ?_⟩) ?_ ?_
            rotate_left
            ·intro w'
             go_simp
             with_reducible rfl
            rotate_left
            ·simp only [Act.put, List.setIfInBounds_toArray, List.set_cons_zero, List.set_cons_succ, i64_w, i32_w]
             rfl
            refine pure_ (i := 11) (N := some 42) (v := ?_) (a' := ?_) #[true, true, true, true, true, true, true, false, false, true, false, true, false, false, false, false, false, false, false] rfl rfl (any_of HT_.out (by kernel_rfl)) (fun _ _ _ h => h) (Or.inl ⟨by rfl, ?_⟩) ?_ ?_
            rotate_left
            ·intro w'
             go_simp
             with_reducible rfl
            rotate_left
            ·simp only [Act.put, List.setIfInBounds_toArray, List.set_cons_zero, List.set_cons_succ, i64_w, i32_w]
             rfl
            refine pure_ (i := 12) (N := some 43) (v := ?_) (a' := ?_) #[true, true, true, true, true, true, true, false, false, true, false, true, true, false, false, false, false, false, false] rfl rfl (any_of HT_.out (by kernel_rfl)) (fun _ _ _ h => h) (Or.inl ⟨by rfl, ?_⟩) ?_ ?_
            rotate_left
            ·intro w'
             go_simp
             with_reducible rfl
            rotate_left
            ·simp only [Act.put, List.setIfInBounds_toArray, List.set_cons_zero, List.set_cons_succ, i64_w, i32_w]
             rfl
            refine pure_ (i := 13) (N := some 44) (v := ?_) (a' := ?_) #[true, true, true, true, true, true, true, false, false, true, false, true, true, true, false, false, false, false, false] rfl rfl (any_of HT_.out (by kernel_rfl)) (fun _ _ _ h => h) (Or.inl ⟨by rfl, ?_⟩) ?_ ?_
            rotate_left
            ·intro w'
             go_simp
             with_reducible rfl
            rotate_left
            ·simp only [Act.put, List.setIfInBounds_toArray, List.set_cons_zero, List.set_cons_succ, i64_w, i32_w]
             rfl
            refine pure_ (i := 14) (N := some 45) (v := ?_) (a' := ?_) #[true, true, true, true, true, true, true, false, false, true, false, true, true, true, true, false, false, false, false] rfl rfl (any_of HT_.out (by kernel_rfl)) (fun _ _ _ h => h) (Or.inl ⟨by rfl, ?_⟩) ?_ ?_
            rotate_left
            ·intro w'
             go_simp
             with_reducible rfl
            rotate_left
            ·simp only [Act.put, List.setIfInBounds_toArray, List.set_cons_zero, List.set_cons_succ, i64_w, i32_w]
             rfl
            refine take_ (i := 7) (N := some 38) (v := ?_) (a' := ?_) #[true, true, true, true, true, true, true, true, false, true, false, true, true, true, true, false, false, false, false] rfl rfl (take_ofW HT_.out HW_.out (by kernel_rfl)) (fun _ _ _ h => h) (Or.inl ⟨by rfl, ?_⟩) hHeld ?_ ?_
            rotate_left
            ·rintro w' ⟨s0, s1, s2, s3, s4, s5⟩
             go_simp
             with_reducible rfl
            rotate_left
            ·simp only [Act.put, List.setIfInBounds_toArray, List.set_cons_zero, List.set_cons_succ, i64_w, i32_w]
             rfl
            refine take_ (i := 15) (N := some 46) (v := ?_) (a' := ?_) #[true, true, true, true, true, true, true, true, false, true, false, true, true, true, true, true, false, false, false] rfl rfl (take_ofW HT_.out HW_.out (by kernel_rfl)) (fun _ _ _ h => h) (Or.inl ⟨by rfl, ?_⟩) hHeld ?_ ?_
            rotate_left
            ·rintro w' ⟨s0, s1, s2, s3, s4, s5⟩
             go_simp
             with_reducible rfl
            rotate_left
            ·simp only [Act.put, List.setIfInBounds_toArray, List.set_cons_zero, List.set_cons_succ, i64_w, i32_w]
             rfl
            refine one_ (i := 8) (N := some 39) #[true, true, true, true, true, true, true, true, true, true, false, true, true, true, true, true, false, false, false] rfl rfl (one_of HT_.out (by kernel_rfl)) (by decide) (fun K hK => ?_)
            refine goes_ Try.func35 (by kernel_rfl) rfl #[.slice (some ad157) l1.length c1, .int .i64 ((rd_T45 l1 (rd t148 x27_1)).f0)] (by rfl) rfl rfl (by (try simp only [List.map_toArray, List.map_cons, List.map_nil]); first | done | rfl | (simp only [List.length_drop, List.length_take]; rfl)) ?_
            with_reducible refine (clear_others.calls _ _ l1 ((rd_T45 l1 (rd t148 x27_1)).f0) t158 _ ?side1 ?side2 A16.out).mono ?_
            (case side1 => repeat (first | exact (Kd.C_below HR1.out HB.out) | (with_reducible refine Kd.C_alloc ?_ _) | (with_reducible refine Kd.C_drewN ?_ _) | (with_reducible refine Kd.C_drew ?_)))
            (case side2 => exact HC1.out)
            rintro e w20 ⟨rfl, hb⟩
            refine ⟨_, rfl, ?_⟩
            have n0_ := Aside0.mk (Kd.R_below (by (with_reducible repeat (first | apply Kd.R_alloc | apply Kd.R_drewN | apply Kd.R_drew)); exact HO_9.out) hb)
            have n1_ := Aside0.mk (Kd.R_below (by (with_reducible repeat (first | apply Kd.R_alloc | apply Kd.R_drewN | apply Kd.R_drew)); exact HO_25.out) hb)
            have n2_ := Aside0.mk (below_step (by repeat (first | (with_reducible first | exact HB.out | apply below_alloc | apply pw_below_drewN | apply below_drew1) | exact HB.out)) hb)
            clear HO_9
            clear HO_25
            clear HB
            have HO_9 := n0_
            have HO_25 := n1_
            have HB := n2_
            clear n0_ n1_ n2_
            (try clear hb)
            (try clear hb2)
            (try clear hk)
            (try clear hi)
            have p18 : 0 ≤ ((rd t148 x27_1) : Int) := of_decide_eq_true (by first | (with_reducible assumption) | assumption)
            have q18 : ((rd t148 x27_1) : Int) < ((x9_1.length : Int) : Int) := of_decide_eq_true (by first | (with_reducible assumption) | assumption)
            obtain ⟨go18, co18, eo18, gb18, gl18, cl18, HG18⟩ := Kd.R_form HO_9.out (by omega)
            (first | cases eo18 | (injection eo18 with ea_ en_ ec_; (first | subst ea_ | (injection ea_ with ea_; subst ea_)); subst ec_; clear en_))
            have GB18 := Aside0.mk gb18
            have GG18 := Aside0.mk HG18
            clear gb18 gl18 HG18
            obtain ⟨hx18_0, hf18_0⟩ := Kd.R_celln 0 HO_9.out ((rd t148 x27_1) : Int) p18 q18
            replace p18 := eq_true p18
            replace q18 := eq_true q18
            have HP21 := Kd.R_putn HO_9.out ((rd t148 x27_1) : Int) (wrap64 ((wrap64 (t158 - t149)) + ((rd_T45 l1 (rd t148 x27_1)).f1)))
            rw [← Ny160.out] at HP21
            have HQ21 := Aside0.mk HP21
            clear HP21
            refine hK.out _ _ ⟨((HB.out.cell (World.block_lt_of_cell? w _ hw157_0)).trans hw157_0), ((HB.out.cell (World.block_lt_of_cell? w _ hw157_1)).trans hw157_1), ((HB.out.cell (World.block_lt_of_cell? w _ hw157_2)).trans hw157_2), ((HB.out.cell (World.block_lt_of_cell? w _ hw159_0)).trans hw159_0), ((HB.out.cell (World.block_lt_of_cell? w _ hw159_1)).trans hw159_1), ((HB.out.cell (World.block_lt_of_cell? w _ hw159_2)).trans hw159_2)⟩ (fun hHeld => ?_)
            clear hK K
            refine norm_ (a' := ?_) ?_ ?_
            rotate_left
            ·show Act.put _ (some 39) _ = _
             simp only [Act.put, List.setIfInBounds_toArray, List.set_cons_zero, List.set_cons_succ, i64_w, i32_w]
             rfl
            refine pure_ (i := 10) (N := some 41) (v := ?_) (a' := ?_) #[true, true, true, true, true, true, true, true, true, true, true, true, true, true, true, true, false, false, false] rfl rfl (any_of HT_.out (by kernel_rfl)) (fun _ _ _ h => h) (Or.inl ⟨by rfl, ?_⟩) ?_ ?_
            rotate_left
            ·intro w'
             go_simp
             with_reducible rfl
            rotate_left
            ·simp only [Act.put, List.setIfInBounds_toArray, List.set_cons_zero, List.set_cons_succ, i64_w, i32_w]
             rfl
            refine pure_ (i := 16) (N := some 47) (v := ?_) (a' := ?_) #[true, true, true, true, true, true, true, true, true, true, true, true, true, true, true, true, true, false, false] rfl rfl (any_of HT_.out (by kernel_rfl)) (fun _ _ _ h => h) (Or.inl ⟨by rfl, ?_⟩) ?_ ?_
            rotate_left
            ·intro w'
             go_simp
             with_reducible rfl
            rotate_left
            ·simp only [Act.put, List.setIfInBounds_toArray, List.set_cons_zero, List.set_cons_succ, i64_w, i32_w]
             rfl
            refine pure_ (i := 17) (N := some 48) (v := ?_) (a' := ?_) #[true, true, true, true, true, true, true, true, true, true, true, true, true, true, true, true, true, true, false] rfl rfl (any_of HT_.out (by kernel_rfl)) (fun _ _ _ h => h) (Or.inl ⟨by rfl, ?_⟩) ?_ ?_
            rotate_left
            ·intro w'
             go_simp
             with_reducible rfl
            rotate_left
            ·simp only [Act.put, List.setIfInBounds_toArray, List.set_cons_zero, List.set_cons_succ, i64_w, i32_w]
             rfl
            refine last_ (i := 18) (N := none) #[true, true, true, true, true, true, true, true, true, true, true, true, true, true, true, true, true, true, true] rfl rfl (one_of HT_.out (by kernel_rfl)) (by decide) (fun K hK => ?_)
            refine skip_ (w1 := ?_) (by rfl) rfl ?_ ?_
            rotate_left
            ·go_simp
             rfl
            refine hK.out _ _ ?_
            clear hK K
            refine done_ (done_of HT_.out (by kernel_rfl)) ?_
            try go_wp2
            go_roundg k1
            case measure => have := HK1.out; omega
            case rel => exact ⟨(y160), (wrap64 (x27_1 + 1)), (by first | rfl | (simp; done) | (simp [*]; done)), H', ⟨by have := HK1.out; omega⟩, ⟨by (with_reducible repeat (first | apply Kd.R_alloc | apply Kd.R_drewN | apply Kd.R_drew)); exact HQ21.out⟩, ⟨by (with_reducible repeat (first | apply Kd.R_alloc | apply Kd.R_drewN | apply Kd.R_drew)); exact Kd.R_mono (Kd.R_far (p := ⟨go18, ((rd t148 x27_1) : Int).toNat, none⟩) (Kd.R_mono HO_25.out (fun k_ hk => (⟨hk, fun e_ => hk (by rw [e_]; rfl)⟩ : _ ∧ k_ ≠ go18))) (fun _ hk => hk.2) (.int .i64 (wrap64 ((wrap64 (t158 - t149)) + ((rd_T45 l1 (rd t148 x27_1)).f1))))) (fun _ hk => hk.1)⟩, ⟨by repeat (first | (with_reducible first | exact HB.out | apply below_alloc | apply pw_below_drewN | apply below_drew1 | refine below_set ?_ GB18.out) | exact HB.out)⟩⟩
           ·rw [if_neg c17] at H
            exact absurd H (by simp)
          ·rw [if_neg c15] at H
           exact absurd H (by simp)
         ·rw [if_neg c14] at H
          exact absurd H (by simp)
        ·rw [if_neg c13] at H
         exact absurd H (by simp)
       ·rw [if_neg c12] at H
        exact absurd H (by simp)
      ·rw [if_neg c11] at H
       have c11b0 : decide (x27_1 < (t148.length : Int)) = false := decide_eq_false c11
       clear c11
       simp only [Option.some.injEq, Prod.mk.injEq] at H
       obtain ⟨rfl, rfl⟩ := H
       go_wp2
       go_ret2
       exact ⟨_, by first | rfl | (simp [errW_none, errW_some] <;> rfl) | (simp [*, errW_none, errW_some] <;> rfl), by (with_reducible repeat (first | apply Kd.R_alloc | apply Kd.R_drewN | apply Kd.R_drew)); exact Kd.R_mono HO_9.out (fun _ hk => trivial), by repeat (first | (with_reducible first | exact HB.out | apply below_alloc | apply pw_below_drewN | apply below_drew1) | exact HB.out)⟩
   ·rw [if_neg c6] at H
    exact absurd H (by simp)
  ·rw [if_neg c5] at H
   exact absurd H (by simp)
 ·rw [if_neg c4] at H
  have c4b0 : (t150 == 0) = false := beq_eq_false_iff_ne.mpr c4
  have c4b1 : (t150 != 0) = true := bne_iff_ne.mpr c4
  simp only [Option.some.injEq, Prod.mk.injEq] at H
  obtain ⟨rfl, rfl⟩ := H
  go_enter Try.func14, Try.ntmps14
  go_wp2_with (first | ((with_reducible refine gate_callee (f := 24) rfl ?_); refine goesL_ (some 15) rfl rfl Try.func24 (by kernel_rfl) rfl #[.int .i64 a0, .slice A1 l1.length c1] rfl (by (try simp only [List.map_toArray, List.map_cons, List.map_nil]); first | done | rfl | (simp only [List.length_drop, List.length_take]; rfl)) ?_; (with_reducible refine (clear_Best.calls a0 _ _ l1 t148 t149 t150 _ ?side1 ?side2 A3.out).mono ?_); (case side1 => repeat (first | exact HR1.out | (with_reducible refine Kd.C_alloc ?_ _) | (with_reducible refine Kd.C_drewN ?_ _) | (with_reducible refine Kd.C_drew ?_))); (case side2 => exact HC1.out); rintro e w22 ⟨v151, rfl, ho0, hb⟩; refine ⟨_, rfl, ?_⟩; have n0_ := Aside0.mk (Kd.R_lower ho0 (below_size (by repeat (first | (with_reducible first | exact HB.out | apply below_alloc | apply pw_below_drewN | apply below_drew1) | exact HB.out)))); have n1_ := Aside0.mk (below_step (by repeat (first | (with_reducible first | exact HB.out | apply below_alloc | apply pw_below_drewN | apply below_drew1) | exact HB.out)) hb); clear HB; have HO152 := n0_; have HB := n1_; clear n0_ n1_; (try clear hb); (try clear hb2); (try clear hk); (try clear hi); (try clear ho0)))
  go_ret2
  exact ⟨_, by first | rfl | (simp [errW_none, errW_some] <;> rfl) | (simp [*, errW_none, errW_some] <;> rfl), by first | exact Kd.R_nil _ _ _ _ _ | exact Kd.N_nil _ _ _ _ _ | exact Kd.V_nil _ _ _ _ _ | exact Kd.Q_nil _ _ _ _ _ | exact Kd.S_nil _ _ _ _ _, by repeat (first | (with_reducible first | exact HB.out | apply below_alloc | apply pw_below_drewN | apply below_drew1) | exact HB.out)⟩

end Go.Proofs.Ytecbfpcidoilmaa.H

/- Written by a program of this session over the kit's printer: what the functions named below compute, and that the machine's calls compute it. Not trusted: Lean checks it. -/
namespace Go.Proofs.Ytecbfpcidoilmaa.H
open Go.RowKit Go.Proofs.YtecbfpcidoilmaaW.PrintWords Go.Proofs.YtecbfpcidoilmaaW.PrintLast Go.Proofs.YtecbfpcidoilmaaW.PrintMore
attribute [local go_sem] max2_int min2_int max_two min_two max_three min_three max_four min_four   -- for this text's walks alone
set_option linter.unusedVariables false
set_option linter.unusedSimpArgs false

/-! ### worldmintlaw28_lives: function 18 -/
def worldmintlaw28_lives.j0 : Nat → List (S45) → Bool → Option (Bool)
 | 0, _, _ => none
 | k + 1, x1, x64 => if x64 = true then (some false) else (if 0 < (x1.length : Int) then ((clear_Best.f 2 (x1.set (0 : Int).toNat (⟨(rd_T45 x1 0).f0, 8, (rd_T45 x1 0).f2⟩ : S45))).bind fun bt264 => (if bt264.2.2 = 0 then ((worldmintref01_SameInts.f k bt264.1 (([0] : List Int))).bind fun t272 => (some t272)) else (some false))) else (none))
def worldmintlaw28_lives.f (k : Nat)  : Option (Bool) := (some (([(⟨1, 6, (([0, 1] : List Int))⟩ : S45), (⟨2, 4, (([0] : List Int))⟩ : S45), (⟨3, 4, (([1] : List Int))⟩ : S45), (⟨4, 2, (([1] : List Int))⟩ : S45)] : List (S45)) : List (S45))).bind fun y238 => ((clear_Best.f 2 y238).bind fun bt241 => ((clear_Prices.f k 2 y238).bind fun bt246 => ((clear_Bound.f 2 y238 (([3, 3] : List Int))).bind fun bt253 => (if bt241.2.2 = 0 then (if bt246.2 = 0 then (if bt253.2 = 0 then (if bt241.2.1 = 8 then (if bt253.1 = 8 then ((worldmintref01_SameInts.f k bt241.1 (([1, 2] : List Int))).bind fun t258 => (if t258 = true then ((worldmintref01_SameInts.f k bt246.1 (([0, 2, 2, 0] : List Int))).bind fun t262 => (worldmintlaw28_lives.j0 k y238 (!t262))) else (worldmintlaw28_lives.j0 k y238 true))) else (worldmintlaw28_lives.j0 k y238 true)) else (worldmintlaw28_lives.j0 k y238 true)) else (worldmintlaw28_lives.j0 k y238 true)) else (worldmintlaw28_lives.j0 k y238 true)) else (worldmintlaw28_lives.j0 k y238 true)))))
theorem worldmintlaw28_lives.mono_l : ∀ k, (∀ y0 y1, LeO (worldmintlaw28_lives.j0 k y0 y1) (worldmintlaw28_lives.j0 (k + 1) y0 y1))
 | 0 => fun _ _ r h => by simp [worldmintlaw28_lives.j0] at h
 | k + 1 => by
  have ih0 := worldmintlaw28_lives.mono_l k
  ·intro y0 y1
   unfold worldmintlaw28_lives.j0
   repeat' first
   | (with_reducible exact ih0 _ _)
   | (with_reducible exact clear_Prices.mono _ _ _)
   | (with_reducible exact worldmintref01_SameInts.mono _ _ _)
   | (with_reducible exact LeO.refl _)
   | (with_reducible exact LeO.none _)
   | (with_reducible refine LeO.ite ?_ ?_)
   | (with_reducible refine LeO.bind ?_ (fun _ => ?_))
   | exact ih0 _ _
   | exact clear_Prices.mono _ _ _
   | exact worldmintref01_SameInts.mono _ _ _
   | exact LeO.none _
   | refine LeO.ite ?_ ?_
   | refine LeO.bind ?_ (fun _ => ?_)
theorem worldmintlaw28_lives.mono : ∀ k, LeO (worldmintlaw28_lives.f k ) (worldmintlaw28_lives.f (k + 1) ) := by
 intro  k
 have ih0 := worldmintlaw28_lives.mono_l k
 unfold worldmintlaw28_lives.f
 repeat' first
   | (with_reducible exact ih0 _ _)
   | (with_reducible exact clear_Prices.mono _ _ _)
   | (with_reducible exact worldmintref01_SameInts.mono _ _ _)
   | (with_reducible exact LeO.refl _)
   | (with_reducible exact LeO.none _)
   | (with_reducible refine LeO.ite ?_ ?_)
   | (with_reducible refine LeO.bind ?_ (fun _ => ?_))
   | exact ih0 _ _
   | exact clear_Prices.mono _ _ _
   | exact worldmintref01_SameInts.mono _ _ _
   | exact LeO.none _
   | refine LeO.ite ?_ ?_
   | refine LeO.bind ?_ (fun _ => ?_)
set_option maxHeartbeats 8000000 in
set_option maxRecDepth 100000 in
theorem worldmintlaw28_lives.calls (k : Nat)  (r : Bool) (w : World) (h : worldmintlaw28_lives.f k  = some r) :
  Calls Try.prog 18 #[] w fun e w' => e = .returned (.bool r) ∧ Below w.heap.size w w' := by
 have hu45 := Try.underlying45
 have HB := Aside0.mk (Below.refl w.heap.size w)
 have H : ((some (([(⟨1, 6, (([0, 1] : List Int))⟩ : S45), (⟨2, 4, (([0] : List Int))⟩ : S45), (⟨3, 4, (([1] : List Int))⟩ : S45), (⟨4, 2, (([1] : List Int))⟩ : S45)] : List (S45)) : List (S45))).bind fun y238 => ((clear_Best.f 2 y238).bind fun bt241 => ((clear_Prices.f k 2 y238).bind fun bt246 => ((clear_Bound.f 2 y238 (([3, 3] : List Int))).bind fun bt253 => (if bt241.2.2 = 0 then (if bt246.2 = 0 then (if bt253.2 = 0 then (if bt241.2.1 = 8 then (if bt253.1 = 8 then ((worldmintref01_SameInts.f k bt241.1 (([1, 2] : List Int))).bind fun t258 => (if t258 = true then ((worldmintref01_SameInts.f k bt246.1 (([0, 2, 2, 0] : List Int))).bind fun t262 => (worldmintlaw28_lives.j0 k y238 (!t262))) else (worldmintlaw28_lives.j0 k y238 true))) else (worldmintlaw28_lives.j0 k y238 true)) else (worldmintlaw28_lives.j0 k y238 true)) else (worldmintlaw28_lives.j0 k y238 true)) else (worldmintlaw28_lives.j0 k y238 true)) else (worldmintlaw28_lives.j0 k y238 true)))))) = some r := h
 clear h
 obtain ⟨y226, hy226⟩ : ∃ y_ : List Int, y_ = (([0, 1] : List Int)) := ⟨_, rfl⟩
 replace H : ((some (([(⟨1, 6, y226⟩ : S45), (⟨2, 4, (([0] : List Int))⟩ : S45), (⟨3, 4, (([1] : List Int))⟩ : S45), (⟨4, 2, (([1] : List Int))⟩ : S45)] : List (S45)) : List (S45))).bind fun y238 => ((clear_Best.f 2 y238).bind fun bt241 => ((clear_Prices.f k 2 y238).bind fun bt246 => ((clear_Bound.f 2 y238 (([3, 3] : List Int))).bind fun bt253 => (if bt241.2.2 = 0 then (if bt246.2 = 0 then (if bt253.2 = 0 then (if bt241.2.1 = 8 then (if bt253.1 = 8 then ((worldmintref01_SameInts.f k bt241.1 (([1, 2] : List Int))).bind fun t258 => (if t258 = true then ((worldmintref01_SameInts.f k bt246.1 (([0, 2, 2, 0] : List Int))).bind fun t262 => (worldmintlaw28_lives.j0 k y238 (!t262))) else (worldmintlaw28_lives.j0 k y238 true))) else (worldmintlaw28_lives.j0 k y238 true)) else (worldmintlaw28_lives.j0 k y238 true)) else (worldmintlaw28_lives.j0 k y238 true)) else (worldmintlaw28_lives.j0 k y238 true)) else (worldmintlaw28_lives.j0 k y238 true)))))) = some r := by first | (rw [hy226]; with_reducible exact H) | (have H2_ := (Option.bind_some _ _).symm.trans H; rw [hy226]; with_reducible exact H2_) | (have H2_ := (Option.bind_some _ _).symm.trans H; with_reducible exact H2_) | with_reducible exact H | (rw [hy226]; exact H) | exact H
 have Ny226 := Aside0.mk hy226
 clear hy226
 obtain ⟨y229, hy229⟩ : ∃ y_ : List Int, y_ = (([0] : List Int)) := ⟨_, rfl⟩
 replace H : ((some (([(⟨1, 6, y226⟩ : S45), (⟨2, 4, y229⟩ : S45), (⟨3, 4, (([1] : List Int))⟩ : S45), (⟨4, 2, (([1] : List Int))⟩ : S45)] : List (S45)) : List (S45))).bind fun y238 => ((clear_Best.f 2 y238).bind fun bt241 => ((clear_Prices.f k 2 y238).bind fun bt246 => ((clear_Bound.f 2 y238 (([3, 3] : List Int))).bind fun bt253 => (if bt241.2.2 = 0 then (if bt246.2 = 0 then (if bt253.2 = 0 then (if bt241.2.1 = 8 then (if bt253.1 = 8 then ((worldmintref01_SameInts.f k bt241.1 (([1, 2] : List Int))).bind fun t258 => (if t258 = true then ((worldmintref01_SameInts.f k bt246.1 (([0, 2, 2, 0] : List Int))).bind fun t262 => (worldmintlaw28_lives.j0 k y238 (!t262))) else (worldmintlaw28_lives.j0 k y238 true))) else (worldmintlaw28_lives.j0 k y238 true)) else (worldmintlaw28_lives.j0 k y238 true)) else (worldmintlaw28_lives.j0 k y238 true)) else (worldmintlaw28_lives.j0 k y238 true)) else (worldmintlaw28_lives.j0 k y238 true)))))) = some r := by first | (rw [hy229]; with_reducible exact H) | (have H2_ := (Option.bind_some _ _).symm.trans H; rw [hy229]; with_reducible exact H2_) | (have H2_ := (Option.bind_some _ _).symm.trans H; with_reducible exact H2_) | with_reducible exact H | (rw [hy229]; exact H) | exact H
 have Ny229 := Aside0.mk hy229
 clear hy229
 obtain ⟨y232, hy232⟩ : ∃ y_ : List Int, y_ = (([1] : List Int)) := ⟨_, rfl⟩
 replace H : ((some (([(⟨1, 6, y226⟩ : S45), (⟨2, 4, y229⟩ : S45), (⟨3, 4, y232⟩ : S45), (⟨4, 2, (([1] : List Int))⟩ : S45)] : List (S45)) : List (S45))).bind fun y238 => ((clear_Best.f 2 y238).bind fun bt241 => ((clear_Prices.f k 2 y238).bind fun bt246 => ((clear_Bound.f 2 y238 (([3, 3] : List Int))).bind fun bt253 => (if bt241.2.2 = 0 then (if bt246.2 = 0 then (if bt253.2 = 0 then (if bt241.2.1 = 8 then (if bt253.1 = 8 then ((worldmintref01_SameInts.f k bt241.1 (([1, 2] : List Int))).bind fun t258 => (if t258 = true then ((worldmintref01_SameInts.f k bt246.1 (([0, 2, 2, 0] : List Int))).bind fun t262 => (worldmintlaw28_lives.j0 k y238 (!t262))) else (worldmintlaw28_lives.j0 k y238 true))) else (worldmintlaw28_lives.j0 k y238 true)) else (worldmintlaw28_lives.j0 k y238 true)) else (worldmintlaw28_lives.j0 k y238 true)) else (worldmintlaw28_lives.j0 k y238 true)) else (worldmintlaw28_lives.j0 k y238 true)))))) = some r := by first | (rw [hy232]; with_reducible exact H) | (have H2_ := (Option.bind_some _ _).symm.trans H; rw [hy232]; with_reducible exact H2_) | (have H2_ := (Option.bind_some _ _).symm.trans H; with_reducible exact H2_) | with_reducible exact H | (rw [hy232]; exact H) | exact H
 have Ny232 := Aside0.mk hy232
 clear hy232
 obtain ⟨y235, hy235⟩ : ∃ y_ : List Int, y_ = (([1] : List Int)) := ⟨_, rfl⟩
 replace H : ((some (([(⟨1, 6, y226⟩ : S45), (⟨2, 4, y229⟩ : S45), (⟨3, 4, y232⟩ : S45), (⟨4, 2, y235⟩ : S45)] : List (S45)) : List (S45))).bind fun y238 => ((clear_Best.f 2 y238).bind fun bt241 => ((clear_Prices.f k 2 y238).bind fun bt246 => ((clear_Bound.f 2 y238 (([3, 3] : List Int))).bind fun bt253 => (if bt241.2.2 = 0 then (if bt246.2 = 0 then (if bt253.2 = 0 then (if bt241.2.1 = 8 then (if bt253.1 = 8 then ((worldmintref01_SameInts.f k bt241.1 (([1, 2] : List Int))).bind fun t258 => (if t258 = true then ((worldmintref01_SameInts.f k bt246.1 (([0, 2, 2, 0] : List Int))).bind fun t262 => (worldmintlaw28_lives.j0 k y238 (!t262))) else (worldmintlaw28_lives.j0 k y238 true))) else (worldmintlaw28_lives.j0 k y238 true)) else (worldmintlaw28_lives.j0 k y238 true)) else (worldmintlaw28_lives.j0 k y238 true)) else (worldmintlaw28_lives.j0 k y238 true)) else (worldmintlaw28_lives.j0 k y238 true)))))) = some r := by first | (rw [hy235]; with_reducible exact H) | (have H2_ := (Option.bind_some _ _).symm.trans H; rw [hy235]; with_reducible exact H2_) | (have H2_ := (Option.bind_some _ _).symm.trans H; with_reducible exact H2_) | with_reducible exact H | (rw [hy235]; exact H) | exact H
 have Ny235 := Aside0.mk hy235
 clear hy235
 obtain ⟨y238, hy238⟩ : ∃ y_ : List (S45), y_ = (([(⟨1, 6, y226⟩ : S45), (⟨2, 4, y229⟩ : S45), (⟨3, 4, y232⟩ : S45), (⟨4, 2, y235⟩ : S45)] : List (S45))) := ⟨_, rfl⟩
 replace H : ((clear_Best.f 2 y238).bind fun bt241 => ((clear_Prices.f k 2 y238).bind fun bt246 => ((clear_Bound.f 2 y238 (([3, 3] : List Int))).bind fun bt253 => (if bt241.2.2 = 0 then (if bt246.2 = 0 then (if bt253.2 = 0 then (if bt241.2.1 = 8 then (if bt253.1 = 8 then ((worldmintref01_SameInts.f k bt241.1 (([1, 2] : List Int))).bind fun t258 => (if t258 = true then ((worldmintref01_SameInts.f k bt246.1 (([0, 2, 2, 0] : List Int))).bind fun t262 => (worldmintlaw28_lives.j0 k y238 (!t262))) else (worldmintlaw28_lives.j0 k y238 true))) else (worldmintlaw28_lives.j0 k y238 true)) else (worldmintlaw28_lives.j0 k y238 true)) else (worldmintlaw28_lives.j0 k y238 true)) else (worldmintlaw28_lives.j0 k y238 true)) else (worldmintlaw28_lives.j0 k y238 true))))) = some r := by first | (rw [hy238]; with_reducible exact H) | (have H2_ := (Option.bind_some _ _).symm.trans H; rw [hy238]; with_reducible exact H2_) | (have H2_ := (Option.bind_some _ _).symm.trans H; with_reducible exact H2_) | with_reducible exact H | (rw [hy238]; exact H) | exact H
 have Ny238 := Aside0.mk hy238
 clear hy238
 replace H := Option.bind_eq_some_iff.mp H
 obtain ⟨⟨t241, t242, t243⟩, A10, H⟩ := H
 replace H : ((clear_Prices.f k 2 y238).bind fun bt246 => ((clear_Bound.f 2 y238 (([3, 3] : List Int))).bind fun bt253 => (if t243 = 0 then (if bt246.2 = 0 then (if bt253.2 = 0 then (if t242 = 8 then (if bt253.1 = 8 then ((worldmintref01_SameInts.f k t241 (([1, 2] : List Int))).bind fun t258 => (if t258 = true then ((worldmintref01_SameInts.f k bt246.1 (([0, 2, 2, 0] : List Int))).bind fun t262 => (worldmintlaw28_lives.j0 k y238 (!t262))) else (worldmintlaw28_lives.j0 k y238 true))) else (worldmintlaw28_lives.j0 k y238 true)) else (worldmintlaw28_lives.j0 k y238 true)) else (worldmintlaw28_lives.j0 k y238 true)) else (worldmintlaw28_lives.j0 k y238 true)) else (worldmintlaw28_lives.j0 k y238 true)))) = some r := H
 have A1 := Aside0.mk A10
 clear A10
 replace H := Option.bind_eq_some_iff.mp H
 obtain ⟨⟨t246, t247⟩, A20, H⟩ := H
 replace H : ((clear_Bound.f 2 y238 (([3, 3] : List Int))).bind fun bt253 => (if t243 = 0 then (if t247 = 0 then (if bt253.2 = 0 then (if t242 = 8 then (if bt253.1 = 8 then ((worldmintref01_SameInts.f k t241 (([1, 2] : List Int))).bind fun t258 => (if t258 = true then ((worldmintref01_SameInts.f k t246 (([0, 2, 2, 0] : List Int))).bind fun t262 => (worldmintlaw28_lives.j0 k y238 (!t262))) else (worldmintlaw28_lives.j0 k y238 true))) else (worldmintlaw28_lives.j0 k y238 true)) else (worldmintlaw28_lives.j0 k y238 true)) else (worldmintlaw28_lives.j0 k y238 true)) else (worldmintlaw28_lives.j0 k y238 true)) else (worldmintlaw28_lives.j0 k y238 true))) = some r := H
 have A2 := Aside0.mk A20
 clear A20
 obtain ⟨y250, hy250⟩ : ∃ y_ : List Int, y_ = (([3, 3] : List Int)) := ⟨_, rfl⟩
 replace H : ((clear_Bound.f 2 y238 y250).bind fun bt253 => (if t243 = 0 then (if t247 = 0 then (if bt253.2 = 0 then (if t242 = 8 then (if bt253.1 = 8 then ((worldmintref01_SameInts.f k t241 (([1, 2] : List Int))).bind fun t258 => (if t258 = true then ((worldmintref01_SameInts.f k t246 (([0, 2, 2, 0] : List Int))).bind fun t262 => (worldmintlaw28_lives.j0 k y238 (!t262))) else (worldmintlaw28_lives.j0 k y238 true))) else (worldmintlaw28_lives.j0 k y238 true)) else (worldmintlaw28_lives.j0 k y238 true)) else (worldmintlaw28_lives.j0 k y238 true)) else (worldmintlaw28_lives.j0 k y238 true)) else (worldmintlaw28_lives.j0 k y238 true))) = some r := by first | (rw [hy250]; with_reducible exact H) | (have H2_ := (Option.bind_some _ _).symm.trans H; rw [hy250]; with_reducible exact H2_) | (have H2_ := (Option.bind_some _ _).symm.trans H; with_reducible exact H2_) | with_reducible exact H | (rw [hy250]; exact H) | exact H
 have Ny250 := Aside0.mk hy250
 clear hy250
 replace H := Option.bind_eq_some_iff.mp H
 obtain ⟨⟨t253, t254⟩, A30, H⟩ := H
 replace H : (if t243 = 0 then (if t247 = 0 then (if t254 = 0 then (if t242 = 8 then (if t253 = 8 then ((worldmintref01_SameInts.f k t241 (([1, 2] : List Int))).bind fun t258 => (if t258 = true then ((worldmintref01_SameInts.f k t246 (([0, 2, 2, 0] : List Int))).bind fun t262 => (worldmintlaw28_lives.j0 k y238 (!t262))) else (worldmintlaw28_lives.j0 k y238 true))) else (worldmintlaw28_lives.j0 k y238 true)) else (worldmintlaw28_lives.j0 k y238 true)) else (worldmintlaw28_lives.j0 k y238 true)) else (worldmintlaw28_lives.j0 k y238 true)) else (worldmintlaw28_lives.j0 k y238 true)) = some r := H
 have A3 := Aside0.mk A30
 clear A30
 have HC4 := Aside0.mk H
 clear H
 go_enter Try.func18, Try.ntmps18
 go_upto_region 5 with (first | ((with_reducible refine gate_dst (N := 9) rfl ?_); (try (refine gate_guard (by rfl) ?_; dsimp only)); refine Kd.R_lit (Kd.int .i64) _ 3 ?hg (N := 9) ?hd (xs := ([0, 1] : List Int)) (inner := [.int .i64 0, .int .i64 1]) (ok := fun _ => True) (okp := fun _ => True) ?hr ?hp (fun _ hk => hk) trivial (Below.refl _ _) (Nat.le_refl _) (by simp) ?_; (case hd => rfl); (case hg => rfl); (case hr => first | (go_simp; done) | (go_simp; rfl)); (case hp => exact (Reps.one (show Kd.M (Kd.int .i64) _ _ _ 0 [.int .i64 0] from rfl) (Reps.one (show Kd.M (Kd.int .i64) _ _ _ 1 [.int .i64 1] from rfl) (Reps.none _ _)))); intro v227 w5 ho6 hb hg_ hnew_; clear hg_ hnew_; (first | rw [← Ny226.out] at ho6 | (simp only [Int.reduceToNat] at ho6; rw [← Ny226.out] at ho6)); have n0_ := Aside0.mk (Kd.R_lower ho6 (below_size (by repeat (first | (with_reducible first | exact HB.out | apply below_alloc | apply pw_below_drewN | apply below_drew1) | exact HB.out)))); have n1_ := Aside0.mk (below_step (by repeat (first | (with_reducible first | exact HB.out | apply below_alloc | apply pw_below_drewN | apply below_drew1) | exact HB.out)) hb); clear HB; have HO228 := n0_; have HB := n1_; clear n0_ n1_; clear hb ho6; obtain ⟨Ao7, co7, eo7⟩ := Kd.R_slice HO228.out; subst eo7) | ((with_reducible refine gate_dst (N := 11) rfl ?_); (try (refine gate_guard (by rfl) ?_; dsimp only)); refine Kd.R_lit (Kd.int .i64) _ 3 ?hg (N := 11) ?hd (xs := ([0] : List Int)) (inner := [.int .i64 0]) (ok := fun _ => True) (okp := fun _ => True) ?hr ?hp (fun _ hk => hk) trivial (Below.refl _ _) (Nat.le_refl _) (by simp) ?_; (case hd => rfl); (case hg => rfl); (case hr => first | (go_simp; done) | (go_simp; rfl)); (case hp => exact (Reps.one (show Kd.M (Kd.int .i64) _ _ _ 0 [.int .i64 0] from rfl) (Reps.none _ _))); intro v230 w8 ho9 hb hg_ hnew_; clear hg_ hnew_; (first | rw [← Ny229.out] at ho9 | (simp only [Int.reduceToNat] at ho9; rw [← Ny229.out] at ho9)); have n0_ := Aside0.mk (Kd.R_elder' (by (with_reducible repeat (first | apply Kd.R_alloc | apply Kd.R_drewN | apply Kd.R_drew)); exact HO228.out) (Kd.R_base ho9) hb); have n1_ := Aside0.mk (Kd.R_lower (Kd.R_new' ho9 (Kd.R_lt (by (with_reducible repeat (first | apply Kd.R_alloc | apply Kd.R_drewN | apply Kd.R_drew)); exact HO228.out))) (below_size (by repeat (first | (with_reducible first | exact HB.out | apply below_alloc | apply pw_below_drewN | apply below_drew1) | exact HB.out)))); have n2_ := Aside0.mk (below_step (by repeat (first | (with_reducible first | exact HB.out | apply below_alloc | apply pw_below_drewN | apply below_drew1) | exact HB.out)) hb); clear HO228; clear HB; have HO228 := n0_; have HO231 := n1_; have HB := n2_; clear n0_ n1_ n2_; clear hb ho9; obtain ⟨Ao10, co10, eo10⟩ := Kd.R_slice HO231.out; subst eo10) | ((with_reducible refine gate_dst (N := 13) rfl ?_); (try (refine gate_guard (by rfl) ?_; dsimp only)); refine Kd.R_lit (Kd.int .i64) _ 3 ?hg (N := 13) ?hd (xs := ([1] : List Int)) (inner := [.int .i64 1]) (ok := fun _ => True) (okp := fun _ => True) ?hr ?hp (fun _ hk => hk) trivial (Below.refl _ _) (Nat.le_refl _) (by simp) ?_; (case hd => rfl); (case hg => rfl); (case hr => first | (go_simp; done) | (go_simp; rfl)); (case hp => exact (Reps.one (show Kd.M (Kd.int .i64) _ _ _ 1 [.int .i64 1] from rfl) (Reps.none _ _))); intro v233 w11 ho12 hb hg_ hnew_; clear hg_ hnew_; (first | rw [← Ny232.out] at ho12 | (simp only [Int.reduceToNat] at ho12; rw [← Ny232.out] at ho12)); have n0_ := Aside0.mk (Kd.R_elder' (by (with_reducible repeat (first | apply Kd.R_alloc | apply Kd.R_drewN | apply Kd.R_drew)); exact HO228.out) (Kd.R_base ho12) hb); have n1_ := Aside0.mk (Kd.R_elder' (by (with_reducible repeat (first | apply Kd.R_alloc | apply Kd.R_drewN | apply Kd.R_drew)); exact HO231.out) (Kd.R_base ho12) hb); have n2_ := Aside0.mk (Kd.R_lower (Kd.R_new' (Kd.R_new' ho12 (Kd.R_lt (by (with_reducible repeat (first | apply Kd.R_alloc | apply Kd.R_drewN | apply Kd.R_drew)); exact HO228.out))) (Kd.R_lt (by (with_reducible repeat (first | apply Kd.R_alloc | apply Kd.R_drewN | apply Kd.R_drew)); exact HO231.out))) (below_size (by repeat (first | (with_reducible first | exact HB.out | apply below_alloc | apply pw_below_drewN | apply below_drew1) | exact HB.out)))); have n3_ := Aside0.mk (below_step (by repeat (first | (with_reducible first | exact HB.out | apply below_alloc | apply pw_below_drewN | apply below_drew1) | exact HB.out)) hb); clear HO228; clear HO231; clear HB; have HO228 := n0_; have HO231 := n1_; have HO234 := n2_; have HB := n3_; clear n0_ n1_ n2_ n3_; clear hb ho12; obtain ⟨Ao13, co13, eo13⟩ := Kd.R_slice HO234.out; subst eo13) | ((with_reducible refine gate_dst (N := 15) rfl ?_); (try (refine gate_guard (by rfl) ?_; dsimp only)); refine Kd.R_lit (Kd.int .i64) _ 3 ?hg (N := 15) ?hd (xs := ([1] : List Int)) (inner := [.int .i64 1]) (ok := fun _ => True) (okp := fun _ => True) ?hr ?hp (fun _ hk => hk) trivial (Below.refl _ _) (Nat.le_refl _) (by simp) ?_; (case hd => rfl); (case hg => rfl); (case hr => first | (go_simp; done) | (go_simp; rfl)); (case hp => exact (Reps.one (show Kd.M (Kd.int .i64) _ _ _ 1 [.int .i64 1] from rfl) (Reps.none _ _))); intro v236 w14 ho15 hb hg_ hnew_; clear hg_ hnew_; (first | rw [← Ny235.out] at ho15 | (simp only [Int.reduceToNat] at ho15; rw [← Ny235.out] at ho15)); have n0_ := Aside0.mk (Kd.R_elder' (by (with_reducible repeat (first | apply Kd.R_alloc | apply Kd.R_drewN | apply Kd.R_drew)); exact HO228.out) (Kd.R_base ho15) hb); have n1_ := Aside0.mk (Kd.R_elder' (by (with_reducible repeat (first | apply Kd.R_alloc | apply Kd.R_drewN | apply Kd.R_drew)); exact HO231.out) (Kd.R_base ho15) hb); have n2_ := Aside0.mk (Kd.R_elder' (by (with_reducible repeat (first | apply Kd.R_alloc | apply Kd.R_drewN | apply Kd.R_drew)); exact HO234.out) (Kd.R_base ho15) hb); have n3_ := Aside0.mk (Kd.R_lower (Kd.R_new' (Kd.R_new' (Kd.R_new' ho15 (Kd.R_lt (by (with_reducible repeat (first | apply Kd.R_alloc | apply Kd.R_drewN | apply Kd.R_drew)); exact HO228.out))) (Kd.R_lt (by (with_reducible repeat (first | apply Kd.R_alloc | apply Kd.R_drewN | apply Kd.R_drew)); exact HO231.out))) (Kd.R_lt (by (with_reducible repeat (first | apply Kd.R_alloc | apply Kd.R_drewN | apply Kd.R_drew)); exact HO234.out))) (below_size (by repeat (first | (with_reducible first | exact HB.out | apply below_alloc | apply pw_below_drewN | apply below_drew1) | exact HB.out)))); have n4_ := Aside0.mk (below_step (by repeat (first | (with_reducible first | exact HB.out | apply below_alloc | apply pw_below_drewN | apply below_drew1) | exact HB.out)) hb); clear HO228; clear HO231; clear HO234; clear HB; have HO228 := n0_; have HO231 := n1_; have HO234 := n2_; have HO237 := n3_; have HB := n4_; clear n0_ n1_ n2_ n3_ n4_; clear hb ho15; obtain ⟨Ao16, co16, eo16⟩ := Kd.R_slice HO237.out; subst eo16) | ((with_reducible refine gate_dst (N := 17) rfl ?_); (try (refine gate_guard (by rfl) ?_; dsimp only)); refine Kd.N_lit k45 _ 45 ?hg (N' := 17) ?hd (xs := ([(⟨1, 6, y226⟩ : S45), (⟨2, 4, y229⟩ : S45), (⟨3, 4, y232⟩ : S45), (⟨4, 2, y235⟩ : S45)] : List (S45))) (inner := [.int .i64 1, .int .i64 6, .slice Ao7 y226.length co7, .int .i64 2, .int .i64 4, .slice Ao10 y229.length co10, .int .i64 3, .int .i64 4, .slice Ao13 y232.length co13, .int .i64 4, .int .i64 2, .slice Ao16 y235.length co16]) (ok := (fun _ => True)) (okp := (fun _ => True)) ?hr ?hp (fun _ hk => hk) ((show ∀ k_, w14.heap.size ≤ k_ → (fun _ => True) k_ from fun k_ hk => trivial) _ (Nat.le_refl _)) (Below.refl _ _) (Nat.le_refl _) (by simp) ?_; (case hd => rfl); (case hg => rfl); (case hr => first | (go_simp; done) | (go_simp; rfl)); (case hp => exact (Reps.c3 (show Kd.FK k45 _ _ (⟨1, 6, y226⟩ : S45) [.int .i64 1, .int .i64 6, .slice Ao7 y226.length co7] from (k45_mkF _ _ (⟨1, 6, y226⟩ : S45) (Kd.R_reads' (Kd.R_mono (ok' := (fun _ => True)) (HO228.out) (fun k_ hk => trivial))).2.1 (Kd.R_F (Kd.R_mono (ok' := (fun _ => True)) (HO228.out) (fun k_ hk => trivial))))) (Reps.c3 (show Kd.FK k45 _ _ (⟨2, 4, y229⟩ : S45) [.int .i64 2, .int .i64 4, .slice Ao10 y229.length co10] from (k45_mkF _ _ (⟨2, 4, y229⟩ : S45) (Kd.R_reads' (Kd.R_mono (ok' := (fun _ => True)) (HO231.out) (fun k_ hk => trivial))).2.1 (Kd.R_F (Kd.R_mono (ok' := (fun _ => True)) (HO231.out) (fun k_ hk => trivial))))) (Reps.c3 (show Kd.FK k45 _ _ (⟨3, 4, y232⟩ : S45) [.int .i64 3, .int .i64 4, .slice Ao13 y232.length co13] from (k45_mkF _ _ (⟨3, 4, y232⟩ : S45) (Kd.R_reads' (Kd.R_mono (ok' := (fun _ => True)) (HO234.out) (fun k_ hk => trivial))).2.1 (Kd.R_F (Kd.R_mono (ok' := (fun _ => True)) (HO234.out) (fun k_ hk => trivial))))) (Reps.c3 (show Kd.FK k45 _ _ (⟨4, 2, y235⟩ : S45) [.int .i64 4, .int .i64 2, .slice Ao16 y235.length co16] from (k45_mkF _ _ (⟨4, 2, y235⟩ : S45) (Kd.R_reads' (Kd.R_mono (ok' := (fun _ => True)) (HO237.out) (fun k_ hk => trivial))).2.1 (Kd.R_F (Kd.R_mono (ok' := (fun _ => True)) (HO237.out) (fun k_ hk => trivial))))) (Reps.none _ _)))))); intro v239 w17 ho18 hb hg_ hnew_; clear hg_ hnew_; (first | rw [← Ny238.out] at ho18 | (simp only [Int.reduceToNat] at ho18; rw [← Ny238.out] at ho18)); have n0_ := Aside0.mk (Kd.N_lower ho18 (below_size (by repeat (first | (with_reducible first | exact HB.out | apply below_alloc | apply pw_below_drewN | apply below_drew1) | exact HB.out)))); have n1_ := Aside0.mk (below_step (by repeat (first | (with_reducible first | exact HB.out | apply below_alloc | apply pw_below_drewN | apply below_drew1) | exact HB.out)) hb); clear HB; clear HO228; clear HO231; clear HO234; clear HO237; have HO240 := n0_; have HB := n1_; clear n0_ n1_; clear hb ho18; obtain ⟨Ao19, co19, eo19⟩ := Kd.N_slice HO240.out; subst eo19) | ((with_reducible refine gate_callee (f := 24) rfl ?_); refine goesL_ (some 20) rfl rfl Try.func24 (by kernel_rfl) rfl #[.int .i64 2, .slice Ao19 y238.length co19] rfl (by (try simp only [List.map_toArray, List.map_cons, List.map_nil]); first | done | rfl | (simp only [List.length_drop, List.length_take]; rfl)) ?_; (with_reducible refine (clear_Best.calls 2 _ _ y238 t241 t242 t243 _ ?side1 ?side2 A1.out).mono ?_); (case side1 => repeat (first | exact (Kd.N_reads' HO240.out).2.2 | (with_reducible refine Kd.C_alloc ?_ _) | (with_reducible refine Kd.C_drewN ?_ _) | (with_reducible refine Kd.C_drew ?_))); (case side2 => exact (Kd.N_reads' HO240.out).2.1); rintro e w20 ⟨v244, rfl, ho0, hb⟩; refine ⟨_, rfl, ?_⟩; have n0_ := Aside0.mk (Kd.N_elder' (by (with_reducible repeat (first | apply Kd.N_alloc | apply Kd.N_drewN | apply Kd.N_drew)); exact HO240.out) (Kd.R_base ho0) hb); have n1_ := Aside0.mk (Kd.R_lower ho0 (below_size (by repeat (first | (with_reducible first | exact HB.out | apply below_alloc | apply pw_below_drewN | apply below_drew1) | exact HB.out)))); have n2_ := Aside0.mk (below_step (by repeat (first | (with_reducible first | exact HB.out | apply below_alloc | apply pw_below_drewN | apply below_drew1) | exact HB.out)) hb); clear HO240; clear HB; have HO240 := n0_; have HO245 := n1_; have HB := n2_; clear n0_ n1_ n2_; (try clear hb); (try clear hb2); (try clear hk); (try clear hi); (try clear ho0)) | ((with_reducible refine gate_callee (f := 14) rfl ?_); refine goesL_ (some 26) rfl rfl Try.func14 (by kernel_rfl) rfl #[.int .i64 2, .slice Ao19 y238.length co19] rfl (by (try simp only [List.map_toArray, List.map_cons, List.map_nil]); first | done | rfl | (simp only [List.length_drop, List.length_take]; rfl)) ?_; (with_reducible refine (clear_Prices.calls k 2 _ _ y238 t246 t247 _ ?side1 ?side2 A2.out).mono ?_); (case side1 => repeat (first | exact (Kd.N_reads' HO240.out).2.2 | (with_reducible refine Kd.C_alloc ?_ _) | (with_reducible refine Kd.C_drewN ?_ _) | (with_reducible refine Kd.C_drew ?_))); (case side2 => exact (Kd.N_reads' HO240.out).2.1); rintro e w21 ⟨v248, rfl, ho0, hb⟩; refine ⟨_, rfl, ?_⟩; have n0_ := Aside0.mk (Kd.N_elder' (by (with_reducible repeat (first | apply Kd.N_alloc | apply Kd.N_drewN | apply Kd.N_drew)); exact HO240.out) (Kd.R_base ho0) hb); have n1_ := Aside0.mk (Kd.R_elder' (by (with_reducible repeat (first | apply Kd.R_alloc | apply Kd.R_drewN | apply Kd.R_drew)); exact HO245.out) (Kd.R_base ho0) hb); have n2_ := Aside0.mk (Kd.R_lower (Kd.R_new' ho0 (Kd.R_lt (by (with_reducible repeat (first | apply Kd.R_alloc | apply Kd.R_drewN | apply Kd.R_drew)); exact HO245.out))) (below_size (by repeat (first | (with_reducible first | exact HB.out | apply below_alloc | apply pw_below_drewN | apply below_drew1) | exact HB.out)))); have n3_ := Aside0.mk (below_step (by repeat (first | (with_reducible first | exact HB.out | apply below_alloc | apply pw_below_drewN | apply below_drew1) | exact HB.out)) hb); clear HO240; clear HO245; clear HB; have HO240 := n0_; have HO245 := n1_; have HO249 := n2_; have HB := n3_; clear n0_ n1_ n2_ n3_; (try clear hb); (try clear hb2); (try clear hk); (try clear hi); (try clear ho0)) | ((with_reducible refine gate_dst (N := 31) rfl ?_); (try (refine gate_guard (by rfl) ?_; dsimp only)); refine Kd.R_lit (Kd.int .i64) _ 3 ?hg (N := 31) ?hd (xs := ([3, 3] : List Int)) (inner := [.int .i64 3, .int .i64 3]) (ok := fun _ => True) (okp := fun _ => True) ?hr ?hp (fun _ hk => hk) trivial (Below.refl _ _) (Nat.le_refl _) (by simp) ?_; (case hd => rfl); (case hg => rfl); (case hr => first | (go_simp; done) | (go_simp; rfl)); (case hp => exact (Reps.one (show Kd.M (Kd.int .i64) _ _ _ 3 [.int .i64 3] from rfl) (Reps.one (show Kd.M (Kd.int .i64) _ _ _ 3 [.int .i64 3] from rfl) (Reps.none _ _)))); intro v251 w22 ho23 hb hg_ hnew_; clear hg_ hnew_; (first | rw [← Ny250.out] at ho23 | (simp only [Int.reduceToNat] at ho23; rw [← Ny250.out] at ho23)); have n0_ := Aside0.mk (Kd.N_elder' (by (with_reducible repeat (first | apply Kd.N_alloc | apply Kd.N_drewN | apply Kd.N_drew)); exact HO240.out) (Kd.R_base ho23) hb); have n1_ := Aside0.mk (Kd.R_elder' (by (with_reducible repeat (first | apply Kd.R_alloc | apply Kd.R_drewN | apply Kd.R_drew)); exact HO245.out) (Kd.R_base ho23) hb); have n2_ := Aside0.mk (Kd.R_elder' (by (with_reducible repeat (first | apply Kd.R_alloc | apply Kd.R_drewN | apply Kd.R_drew)); exact HO249.out) (Kd.R_base ho23) hb); have n3_ := Aside0.mk (Kd.R_lower (Kd.R_new' (Kd.R_new' ho23 (Kd.R_lt (by (with_reducible repeat (first | apply Kd.R_alloc | apply Kd.R_drewN | apply Kd.R_drew)); exact HO245.out))) (Kd.R_lt (by (with_reducible repeat (first | apply Kd.R_alloc | apply Kd.R_drewN | apply Kd.R_drew)); exact HO249.out))) (below_size (by repeat (first | (with_reducible first | exact HB.out | apply below_alloc | apply pw_below_drewN | apply below_drew1) | exact HB.out)))); have n4_ := Aside0.mk (below_step (by repeat (first | (with_reducible first | exact HB.out | apply below_alloc | apply pw_below_drewN | apply below_drew1) | exact HB.out)) hb); clear HO240; clear HO245; clear HO249; clear HB; have HO240 := n0_; have HO245 := n1_; have HO249 := n2_; have HO252 := n3_; have HB := n4_; clear n0_ n1_ n2_ n3_ n4_; clear hb ho23; obtain ⟨Ao24, co24, eo24⟩ := Kd.R_slice HO252.out; subst eo24) | ((with_reducible refine gate_callee (f := 21) rfl ?_); refine goesL_ (some 32) rfl rfl Try.func21 (by kernel_rfl) rfl #[.int .i64 2, .slice Ao19 y238.length co19, .slice Ao24 y250.length co24] rfl (by (try simp only [List.map_toArray, List.map_cons, List.map_nil]); first | done | rfl | (simp only [List.length_drop, List.length_take]; rfl)) ?_; (with_reducible refine (clear_Bound.calls 2 _ _ y238 _ _ y250 t253 t254 _ ?side1 ?side2 ?side3 ?side4 A3.out).mono ?_); (case side1 => repeat (first | exact (Kd.N_reads' HO240.out).2.2 | (with_reducible refine Kd.C_alloc ?_ _) | (with_reducible refine Kd.C_drewN ?_ _) | (with_reducible refine Kd.C_drew ?_))); (case side2 => exact (Kd.N_reads' HO240.out).2.1); (case side3 => repeat (first | exact (Kd.R_reads' HO252.out).2.2 | (with_reducible refine Kd.C_alloc ?_ _) | (with_reducible refine Kd.C_drewN ?_ _) | (with_reducible refine Kd.C_drew ?_))); (case side4 => exact (Kd.R_reads' HO252.out).2.1); rintro e w25 ⟨rfl, hb⟩; refine ⟨_, rfl, ?_⟩; have n0_ := Aside0.mk (Kd.N_below (by (with_reducible repeat (first | apply Kd.N_alloc | apply Kd.N_drewN | apply Kd.N_drew)); exact HO240.out) hb); have n1_ := Aside0.mk (Kd.R_below (by (with_reducible repeat (first | apply Kd.R_alloc | apply Kd.R_drewN | apply Kd.R_drew)); exact HO245.out) hb); have n2_ := Aside0.mk (Kd.R_below (by (with_reducible repeat (first | apply Kd.R_alloc | apply Kd.R_drewN | apply Kd.R_drew)); exact HO249.out) hb); have n3_ := Aside0.mk (Kd.R_below (by (with_reducible repeat (first | apply Kd.R_alloc | apply Kd.R_drewN | apply Kd.R_drew)); exact HO252.out) hb); have n4_ := Aside0.mk (below_step (by repeat (first | (with_reducible first | exact HB.out | apply below_alloc | apply pw_below_drewN | apply below_drew1) | exact HB.out)) hb); clear HO240; clear HO245; clear HO249; clear HO252; clear HB; have HO240 := n0_; have HO245 := n1_; have HO249 := n2_; have HO252 := n3_; have HB := n4_; clear n0_ n1_ n2_ n3_ n4_; (try clear hb); (try clear hb2); (try clear hk); (try clear hi)))
 (try simp only [Act.put, List.setIfInBounds_toArray, List.set_cons_zero, List.set_cons_succ])
 go_cut [64] (fun v64 wc => ∃ (kq : Nat) (x64_3 : Bool), v64 = .bool x64_3 ∧ Aside0 (worldmintlaw28_lives.j0 kq y238 x64_3 = some r) ∧ Aside0 (kq ≤ k) ∧ Aside0 (Kd.N k45 45 wc w.heap.size (fun _ => True) (.slice Ao19 y238.length co19) y238) ∧ Aside0 (Below w.heap.size w wc))
 case first =>
  have H := HC4.out
  clear HC4
  by_cases c26 : t243 = 0
  ·rw [if_pos c26] at H
   have c26b0 : (t243 == 0) = true := beq_iff_eq.mpr c26
   have c26b1 : (t243 != 0) = false := bne_eq_false_iff_eq.mpr c26
   clear c26
   (first | rw [c26b0] | (simp only [i64_w, i32_w]; rw [c26b0]) | skip)
   by_cases c27 : t247 = 0
   ·rw [if_pos c27] at H
    have c27b0 : (t247 == 0) = true := beq_iff_eq.mpr c27
    have c27b1 : (t247 != 0) = false := bne_eq_false_iff_eq.mpr c27
    clear c27
    by_cases c28 : t254 = 0
    ·rw [if_pos c28] at H
     have c28b0 : (t254 == 0) = true := beq_iff_eq.mpr c28
     have c28b1 : (t254 != 0) = false := bne_eq_false_iff_eq.mpr c28
     clear c28
     by_cases c29 : t242 = 8
     ·rw [if_pos c29] at H
      have c29b0 : (t242 == 8) = true := beq_iff_eq.mpr c29
      have c29b1 : (t242 != 8) = false := bne_eq_false_iff_eq.mpr c29
      clear c29
      by_cases c30 : t253 = 8
      ·rw [if_pos c30] at H
       have c30b0 : (t253 == 8) = true := beq_iff_eq.mpr c30
       have c30b1 : (t253 != 8) = false := bne_eq_false_iff_eq.mpr c30
       clear c30
       obtain ⟨y255, hy255⟩ : ∃ y_ : List Int, y_ = (([1, 2] : List Int)) := ⟨_, rfl⟩
       replace H : ((worldmintref01_SameInts.f k t241 y255).bind fun t258 => (if t258 = true then ((worldmintref01_SameInts.f k t246 (([0, 2, 2, 0] : List Int))).bind fun t262 => (worldmintlaw28_lives.j0 k y238 (!t262))) else (worldmintlaw28_lives.j0 k y238 true))) = some r := by first | (rw [hy255]; with_reducible exact H) | (have H2_ := (Option.bind_some _ _).symm.trans H; rw [hy255]; with_reducible exact H2_) | (have H2_ := (Option.bind_some _ _).symm.trans H; with_reducible exact H2_) | with_reducible exact H | (rw [hy255]; exact H) | exact H
       have Ny255 := Aside0.mk hy255
       clear hy255
       replace H := Option.bind_eq_some_iff.mp H
       obtain ⟨t258, A310, H⟩ := H
       replace H : (if t258 = true then ((worldmintref01_SameInts.f k t246 (([0, 2, 2, 0] : List Int))).bind fun t262 => (worldmintlaw28_lives.j0 k y238 (!t262))) else (worldmintlaw28_lives.j0 k y238 true)) = some r := H
       have A31 := Aside0.mk A310
       clear A310
       by_cases c32 : t258 = true
       ·subst c32
        have H1 : ((worldmintref01_SameInts.f k t246 (([0, 2, 2, 0] : List Int))).bind fun t262 => (worldmintlaw28_lives.j0 k y238 (!t262))) = some r := by rw [if_pos rfl] at H; exact H
        clear H
        have H := H1
        clear H1
        obtain ⟨y259, hy259⟩ : ∃ y_ : List Int, y_ = (([0, 2, 2, 0] : List Int)) := ⟨_, rfl⟩
        replace H : ((worldmintref01_SameInts.f k t246 y259).bind fun t262 => (worldmintlaw28_lives.j0 k y238 (!t262))) = some r := by first | (rw [hy259]; with_reducible exact H) | (have H2_ := (Option.bind_some _ _).symm.trans H; rw [hy259]; with_reducible exact H2_) | (have H2_ := (Option.bind_some _ _).symm.trans H; with_reducible exact H2_) | with_reducible exact H | (rw [hy259]; exact H) | exact H
        have Ny259 := Aside0.mk hy259
        clear hy259
        replace H := Option.bind_eq_some_iff.mp H
        obtain ⟨t262, A330, H⟩ := H
        replace H : (worldmintlaw28_lives.j0 k y238 (!t262)) = some r := H
        have A33 := Aside0.mk A330
        clear A330
        have H' := Aside0.mk H
        clear H
        go_wp2_with (first | ((with_reducible refine gate_dst (N := 55) rfl ?_); (try (refine gate_guard (by rfl) ?_; dsimp only)); refine Kd.R_lit (Kd.int .i64) _ 3 ?hg (N := 55) ?hd (xs := ([1, 2] : List Int)) (inner := [.int .i64 1, .int .i64 2]) (ok := fun _ => True) (okp := fun _ => True) ?hr ?hp (fun _ hk => hk) trivial (Below.refl _ _) (Nat.le_refl _) (by simp) ?_; (case hd => rfl); (case hg => rfl); (case hr => first | (go_simp; done) | (go_simp; rfl)); (case hp => exact (Reps.one (show Kd.M (Kd.int .i64) _ _ _ 1 [.int .i64 1] from rfl) (Reps.one (show Kd.M (Kd.int .i64) _ _ _ 2 [.int .i64 2] from rfl) (Reps.none _ _)))); intro v256 w34 ho35 hb hg_ hnew_; clear hg_ hnew_; (first | rw [← Ny255.out] at ho35 | (simp only [Int.reduceToNat] at ho35; rw [← Ny255.out] at ho35)); have n0_ := Aside0.mk (Kd.N_elder' (by (with_reducible repeat (first | apply Kd.N_alloc | apply Kd.N_drewN | apply Kd.N_drew)); exact HO240.out) (Kd.R_base ho35) hb); have n1_ := Aside0.mk (Kd.R_elder' (by (with_reducible repeat (first | apply Kd.R_alloc | apply Kd.R_drewN | apply Kd.R_drew)); exact HO245.out) (Kd.R_base ho35) hb); have n2_ := Aside0.mk (Kd.R_elder' (by (with_reducible repeat (first | apply Kd.R_alloc | apply Kd.R_drewN | apply Kd.R_drew)); exact HO249.out) (Kd.R_base ho35) hb); have n3_ := Aside0.mk (Kd.R_elder' (by (with_reducible repeat (first | apply Kd.R_alloc | apply Kd.R_drewN | apply Kd.R_drew)); exact HO252.out) (Kd.R_base ho35) hb); have n4_ := Aside0.mk (Kd.R_lower (Kd.R_new' (Kd.R_new' (Kd.R_new' ho35 (Kd.R_lt (by (with_reducible repeat (first | apply Kd.R_alloc | apply Kd.R_drewN | apply Kd.R_drew)); exact HO245.out))) (Kd.R_lt (by (with_reducible repeat (first | apply Kd.R_alloc | apply Kd.R_drewN | apply Kd.R_drew)); exact HO249.out))) (Kd.R_lt (by (with_reducible repeat (first | apply Kd.R_alloc | apply Kd.R_drewN | apply Kd.R_drew)); exact HO252.out))) (below_size (by repeat (first | (with_reducible first | exact HB.out | apply below_alloc | apply pw_below_drewN | apply below_drew1) | exact HB.out)))); have n5_ := Aside0.mk (below_step (by repeat (first | (with_reducible first | exact HB.out | apply below_alloc | apply pw_below_drewN | apply below_drew1) | exact HB.out)) hb); clear HO240; clear HO245; clear HO249; clear HO252; clear HB; have HO240 := n0_; have HO245 := n1_; have HO249 := n2_; have HO252 := n3_; have HO257 := n4_; have HB := n5_; clear n0_ n1_ n2_ n3_ n4_ n5_; clear hb ho35; obtain ⟨Ao36, co36, eo36⟩ := Kd.R_slice HO245.out; subst eo36; obtain ⟨Ao37, co37, eo37⟩ := Kd.R_slice HO257.out; subst eo37) | (go_at_call 17; (with_reducible refine (worldmintref01_SameInts.calls k _ _ t241 _ _ y255 true _ ?side1 ?side2 ?side3 ?side4 A31.out).mono ?_); (case side1 => repeat (first | exact (Kd.R_reads' HO245.out).2.2 | (with_reducible refine Kd.C_alloc ?_ _) | (with_reducible refine Kd.C_drewN ?_ _) | (with_reducible refine Kd.C_drew ?_))); (case side2 => exact (Kd.R_reads' HO245.out).2.1); (case side3 => repeat (first | exact (Kd.R_reads' HO257.out).2.2 | (with_reducible refine Kd.C_alloc ?_ _) | (with_reducible refine Kd.C_drewN ?_ _) | (with_reducible refine Kd.C_drew ?_))); (case side4 => exact (Kd.R_reads' HO257.out).2.1); rintro e w' ⟨rfl, ⟨nd, rfl⟩⟩) | ((with_reducible refine gate_dst (N := 61) rfl ?_); (try (refine gate_guard (by rfl) ?_; dsimp only)); refine Kd.R_lit (Kd.int .i64) _ 3 ?hg (N := 61) ?hd (xs := ([0, 2, 2, 0] : List Int)) (inner := [.int .i64 0, .int .i64 2, .int .i64 2, .int .i64 0]) (ok := fun _ => True) (okp := fun _ => True) ?hr ?hp (fun _ hk => hk) trivial (Below.refl _ _) (Nat.le_refl _) (by simp) ?_; (case hd => rfl); (case hg => rfl); (case hr => first | (go_simp; done) | (go_simp; rfl)); (case hp => exact (Reps.one (show Kd.M (Kd.int .i64) _ _ _ 0 [.int .i64 0] from rfl) (Reps.one (show Kd.M (Kd.int .i64) _ _ _ 2 [.int .i64 2] from rfl) (Reps.one (show Kd.M (Kd.int .i64) _ _ _ 2 [.int .i64 2] from rfl) (Reps.one (show Kd.M (Kd.int .i64) _ _ _ 0 [.int .i64 0] from rfl) (Reps.none _ _)))))); intro v260 w38 ho39 hb hg_ hnew_; clear hg_ hnew_; (first | rw [← Ny259.out] at ho39 | (simp only [Int.reduceToNat] at ho39; rw [← Ny259.out] at ho39)); have n0_ := Aside0.mk (Kd.N_elder' (by (with_reducible repeat (first | apply Kd.N_alloc | apply Kd.N_drewN | apply Kd.N_drew)); exact HO240.out) (Kd.R_base ho39) hb); have n1_ := Aside0.mk (Kd.R_elder' (by (with_reducible repeat (first | apply Kd.R_alloc | apply Kd.R_drewN | apply Kd.R_drew)); exact HO245.out) (Kd.R_base ho39) hb); have n2_ := Aside0.mk (Kd.R_elder' (by (with_reducible repeat (first | apply Kd.R_alloc | apply Kd.R_drewN | apply Kd.R_drew)); exact HO249.out) (Kd.R_base ho39) hb); have n3_ := Aside0.mk (Kd.R_elder' (by (with_reducible repeat (first | apply Kd.R_alloc | apply Kd.R_drewN | apply Kd.R_drew)); exact HO252.out) (Kd.R_base ho39) hb); have n4_ := Aside0.mk (Kd.R_elder' (by (with_reducible repeat (first | apply Kd.R_alloc | apply Kd.R_drewN | apply Kd.R_drew)); exact HO257.out) (Kd.R_base ho39) hb); have n5_ := Aside0.mk (Kd.R_lower (Kd.R_new' (Kd.R_new' (Kd.R_new' (Kd.R_new' ho39 (Kd.R_lt (by (with_reducible repeat (first | apply Kd.R_alloc | apply Kd.R_drewN | apply Kd.R_drew)); exact HO245.out))) (Kd.R_lt (by (with_reducible repeat (first | apply Kd.R_alloc | apply Kd.R_drewN | apply Kd.R_drew)); exact HO249.out))) (Kd.R_lt (by (with_reducible repeat (first | apply Kd.R_alloc | apply Kd.R_drewN | apply Kd.R_drew)); exact HO252.out))) (Kd.R_lt (by (with_reducible repeat (first | apply Kd.R_alloc | apply Kd.R_drewN | apply Kd.R_drew)); exact HO257.out))) (below_size (by repeat (first | (with_reducible first | exact HB.out | apply below_alloc | apply pw_below_drewN | apply below_drew1) | exact HB.out)))); have n6_ := Aside0.mk (below_step (by repeat (first | (with_reducible first | exact HB.out | apply below_alloc | apply pw_below_drewN | apply below_drew1) | exact HB.out)) hb); clear HO240; clear HO245; clear HO249; clear HO252; clear HO257; clear HB; have HO240 := n0_; have HO245 := n1_; have HO249 := n2_; have HO252 := n3_; have HO257 := n4_; have HO261 := n5_; have HB := n6_; clear n0_ n1_ n2_ n3_ n4_ n5_ n6_; clear hb ho39; obtain ⟨Ao40, co40, eo40⟩ := Kd.R_slice HO249.out; subst eo40; obtain ⟨Ao41, co41, eo41⟩ := Kd.R_slice HO261.out; subst eo41) | (go_at_call 17; (with_reducible refine (worldmintref01_SameInts.calls k _ _ t246 _ _ y259 t262 _ ?side1 ?side2 ?side3 ?side4 A33.out).mono ?_); (case side1 => repeat (first | exact (Kd.R_reads' HO249.out).2.2 | (with_reducible refine Kd.C_alloc ?_ _) | (with_reducible refine Kd.C_drewN ?_ _) | (with_reducible refine Kd.C_drew ?_))); (case side2 => exact (Kd.R_reads' HO249.out).2.1); (case side3 => repeat (first | exact (Kd.R_reads' HO261.out).2.2 | (with_reducible refine Kd.C_alloc ?_ _) | (with_reducible refine Kd.C_drewN ?_ _) | (with_reducible refine Kd.C_drew ?_))); (case side4 => exact (Kd.R_reads' HO261.out).2.1); rintro e w' ⟨rfl, ⟨nd, rfl⟩⟩))
        go_meet
        case rel => exact ⟨_, (!t262), (by first | rfl | (simp; done) | (simp [*]; done)), H', ⟨by first | omega | exact Nat.le_refl _⟩, ⟨by (with_reducible repeat (first | apply Kd.N_alloc | apply Kd.N_drewN | apply Kd.N_drew)); exact Kd.N_mono HO240.out (fun _ hk => trivial)⟩, ⟨by repeat (first | (with_reducible first | exact HB.out | apply below_alloc | apply pw_below_drewN | apply below_drew1) | exact HB.out)⟩⟩
       ·replace c32 := Bool.eq_false_iff.mpr c32
        subst c32
        have H1 : (worldmintlaw28_lives.j0 k y238 true) = some r := by rw [if_neg (show ¬ (false = true) by decide)] at H; exact H
        clear H
        have H := H1
        clear H1
        have H' := Aside0.mk H
        clear H
        go_wp2_with (first | ((with_reducible refine gate_dst (N := 55) rfl ?_); (try (refine gate_guard (by rfl) ?_; dsimp only)); refine Kd.R_lit (Kd.int .i64) _ 3 ?hg (N := 55) ?hd (xs := ([1, 2] : List Int)) (inner := [.int .i64 1, .int .i64 2]) (ok := fun _ => True) (okp := fun _ => True) ?hr ?hp (fun _ hk => hk) trivial (Below.refl _ _) (Nat.le_refl _) (by simp) ?_; (case hd => rfl); (case hg => rfl); (case hr => first | (go_simp; done) | (go_simp; rfl)); (case hp => exact (Reps.one (show Kd.M (Kd.int .i64) _ _ _ 1 [.int .i64 1] from rfl) (Reps.one (show Kd.M (Kd.int .i64) _ _ _ 2 [.int .i64 2] from rfl) (Reps.none _ _)))); intro v256 w42 ho43 hb hg_ hnew_; clear hg_ hnew_; (first | rw [← Ny255.out] at ho43 | (simp only [Int.reduceToNat] at ho43; rw [← Ny255.out] at ho43)); have n0_ := Aside0.mk (Kd.N_elder' (by (with_reducible repeat (first | apply Kd.N_alloc | apply Kd.N_drewN | apply Kd.N_drew)); exact HO240.out) (Kd.R_base ho43) hb); have n1_ := Aside0.mk (Kd.R_elder' (by (with_reducible repeat (first | apply Kd.R_alloc | apply Kd.R_drewN | apply Kd.R_drew)); exact HO245.out) (Kd.R_base ho43) hb); have n2_ := Aside0.mk (Kd.R_elder' (by (with_reducible repeat (first | apply Kd.R_alloc | apply Kd.R_drewN | apply Kd.R_drew)); exact HO249.out) (Kd.R_base ho43) hb); have n3_ := Aside0.mk (Kd.R_elder' (by (with_reducible repeat (first | apply Kd.R_alloc | apply Kd.R_drewN | apply Kd.R_drew)); exact HO252.out) (Kd.R_base ho43) hb); have n4_ := Aside0.mk (Kd.R_lower (Kd.R_new' (Kd.R_new' (Kd.R_new' ho43 (Kd.R_lt (by (with_reducible repeat (first | apply Kd.R_alloc | apply Kd.R_drewN | apply Kd.R_drew)); exact HO245.out))) (Kd.R_lt (by (with_reducible repeat (first | apply Kd.R_alloc | apply Kd.R_drewN | apply Kd.R_drew)); exact HO249.out))) (Kd.R_lt (by (with_reducible repeat (first | apply Kd.R_alloc | apply Kd.R_drewN | apply Kd.R_drew)); exact HO252.out))) (below_size (by repeat (first | (with_reducible first | exact HB.out | apply below_alloc | apply pw_below_drewN | apply below_drew1) | exact HB.out)))); have n5_ := Aside0.mk (below_step (by repeat (first | (with_reducible first | exact HB.out | apply below_alloc | apply pw_below_drewN | apply below_drew1) | exact HB.out)) hb); clear HO240; clear HO245; clear HO249; clear HO252; clear HB; have HO240 := n0_; have HO245 := n1_; have HO249 := n2_; have HO252 := n3_; have HO257 := n4_; have HB := n5_; clear n0_ n1_ n2_ n3_ n4_ n5_; clear hb ho43; obtain ⟨Ao44, co44, eo44⟩ := Kd.R_slice HO245.out; subst eo44; obtain ⟨Ao45, co45, eo45⟩ := Kd.R_slice HO257.out; subst eo45) | (go_at_call 17; (with_reducible refine (worldmintref01_SameInts.calls k _ _ t241 _ _ y255 false _ ?side1 ?side2 ?side3 ?side4 A31.out).mono ?_); (case side1 => repeat (first | exact (Kd.R_reads' HO245.out).2.2 | (with_reducible refine Kd.C_alloc ?_ _) | (with_reducible refine Kd.C_drewN ?_ _) | (with_reducible refine Kd.C_drew ?_))); (case side2 => exact (Kd.R_reads' HO245.out).2.1); (case side3 => repeat (first | exact (Kd.R_reads' HO257.out).2.2 | (with_reducible refine Kd.C_alloc ?_ _) | (with_reducible refine Kd.C_drewN ?_ _) | (with_reducible refine Kd.C_drew ?_))); (case side4 => exact (Kd.R_reads' HO257.out).2.1); rintro e w' ⟨rfl, ⟨nd, rfl⟩⟩))
        go_meet
        case rel => exact ⟨_, (true), (by first | rfl | (simp; done) | (simp [*]; done)), H', ⟨by first | omega | exact Nat.le_refl _⟩, ⟨by (with_reducible repeat (first | apply Kd.N_alloc | apply Kd.N_drewN | apply Kd.N_drew)); exact Kd.N_mono HO240.out (fun _ hk => trivial)⟩, ⟨by repeat (first | (with_reducible first | exact HB.out | apply below_alloc | apply pw_below_drewN | apply below_drew1) | exact HB.out)⟩⟩
      ·rw [if_neg c30] at H
       have c30b0 : (t253 == 8) = false := beq_eq_false_iff_ne.mpr c30
       have c30b1 : (t253 != 8) = true := bne_iff_ne.mpr c30
       have H' := Aside0.mk H
       clear H
       go_wp2
       go_meet
       case rel => exact ⟨_, (true), (by first | rfl | (simp; done) | (simp [*]; done)), H', ⟨by first | omega | exact Nat.le_refl _⟩, ⟨by (with_reducible repeat (first | apply Kd.N_alloc | apply Kd.N_drewN | apply Kd.N_drew)); exact Kd.N_mono HO240.out (fun _ hk => trivial)⟩, ⟨by repeat (first | (with_reducible first | exact HB.out | apply below_alloc | apply pw_below_drewN | apply below_drew1) | exact HB.out)⟩⟩
     ·rw [if_neg c29] at H
      have c29b0 : (t242 == 8) = false := beq_eq_false_iff_ne.mpr c29
      have c29b1 : (t242 != 8) = true := bne_iff_ne.mpr c29
      have H' := Aside0.mk H
      clear H
      go_wp2
      go_meet
      case rel => exact ⟨_, (true), (by first | rfl | (simp; done) | (simp [*]; done)), H', ⟨by first | omega | exact Nat.le_refl _⟩, ⟨by (with_reducible repeat (first | apply Kd.N_alloc | apply Kd.N_drewN | apply Kd.N_drew)); exact Kd.N_mono HO240.out (fun _ hk => trivial)⟩, ⟨by repeat (first | (with_reducible first | exact HB.out | apply below_alloc | apply pw_below_drewN | apply below_drew1) | exact HB.out)⟩⟩
    ·rw [if_neg c28] at H
     have c28b0 : (t254 == 0) = false := beq_eq_false_iff_ne.mpr c28
     have c28b1 : (t254 != 0) = true := bne_iff_ne.mpr c28
     have H' := Aside0.mk H
     clear H
     go_wp2
     go_meet
     case rel => exact ⟨_, (true), (by first | rfl | (simp; done) | (simp [*]; done)), H', ⟨by first | omega | exact Nat.le_refl _⟩, ⟨by (with_reducible repeat (first | apply Kd.N_alloc | apply Kd.N_drewN | apply Kd.N_drew)); exact Kd.N_mono HO240.out (fun _ hk => trivial)⟩, ⟨by repeat (first | (with_reducible first | exact HB.out | apply below_alloc | apply pw_below_drewN | apply below_drew1) | exact HB.out)⟩⟩
   ·rw [if_neg c27] at H
    have c27b0 : (t247 == 0) = false := beq_eq_false_iff_ne.mpr c27
    have c27b1 : (t247 != 0) = true := bne_iff_ne.mpr c27
    have H' := Aside0.mk H
    clear H
    go_wp2
    go_meet
    case rel => exact ⟨_, (true), (by first | rfl | (simp; done) | (simp [*]; done)), H', ⟨by first | omega | exact Nat.le_refl _⟩, ⟨by (with_reducible repeat (first | apply Kd.N_alloc | apply Kd.N_drewN | apply Kd.N_drew)); exact Kd.N_mono HO240.out (fun _ hk => trivial)⟩, ⟨by repeat (first | (with_reducible first | exact HB.out | apply below_alloc | apply pw_below_drewN | apply below_drew1) | exact HB.out)⟩⟩
  ·rw [if_neg c26] at H
   have c26b0 : (t243 == 0) = false := beq_eq_false_iff_ne.mpr c26
   have c26b1 : (t243 != 0) = true := bne_iff_ne.mpr c26
   (first | rw [c26b0] | (simp only [i64_w, i32_w]; rw [c26b0]) | skip)
   have H' := Aside0.mk H
   clear H
   go_wp2
   go_meet
   case rel => exact ⟨_, (true), (by first | rfl | (simp; done) | (simp [*]; done)), H', ⟨by first | omega | exact Nat.le_refl _⟩, ⟨by (with_reducible repeat (first | apply Kd.N_alloc | apply Kd.N_drewN | apply Kd.N_drew)); exact Kd.N_mono HO240.out (fun _ hk => trivial)⟩, ⟨by repeat (first | (with_reducible first | exact HB.out | apply below_alloc | apply pw_below_drewN | apply below_drew1) | exact HB.out)⟩⟩
 case rest =>
  clear HC4
  try clear c1
  try clear c2
  try clear p2
  try clear c3
  try clear c14
  try clear c18
  try clear c21
  try clear c24
  try clear c26
  try clear c26b0
  try clear c26b1
  try clear c27
  try clear c27b0
  try clear c27b1
  try clear c28
  try clear c28b0
  try clear c28b1
  try clear c29
  try clear c29b0
  try clear c29b1
  try clear c30
  try clear c30b0
  try clear c30b1
  try clear c32
  obtain ⟨kq, x64_3, rfl, HA, HJ3, HO_1, HB⟩ := hcut
  cases kq with
  | zero => exact absurd HA.out (by simp [worldmintlaw28_lives.j0])
  | succ kj3 =>
   have H := HA.out
   clear HA
   simp only [worldmintlaw28_lives.j0] at H
   by_cases c46 : x64_3 = true
   ·subst c46
    have H1 : (some false) = some r := by rw [if_pos rfl] at H; exact H
    clear H
    have H := H1
    clear H1
    obtain rfl := Option.some.inj H
    go_wp2
    go_ret
    exact ⟨by first | rfl | (simp [errW_none, errW_some] <;> rfl) | (simp [*, errW_none, errW_some] <;> rfl), by repeat (first | (with_reducible first | exact HB.out | apply below_alloc | apply pw_below_drewN | apply below_drew1) | exact HB.out)⟩
   ·replace c46 := Bool.eq_false_iff.mpr c46
    subst c46
    have H1 : (if 0 < (y238.length : Int) then ((clear_Best.f 2 (y238.set (0 : Int).toNat (⟨(rd_T45 y238 0).f0, 8, (rd_T45 y238 0).f2⟩ : S45))).bind fun bt264 => (if bt264.2.2 = 0 then ((worldmintref01_SameInts.f kj3 bt264.1 (([0] : List Int))).bind fun t272 => (some t272)) else (some false))) else (none)) = some r := by rw [if_neg (show ¬ (false = true) by decide)] at H; exact H
    clear H
    have H := H1
    clear H1
    by_cases c47 : 0 < (y238.length : Int)
    ·rw [if_pos c47] at H
     have c47b0 : decide (0 < (y238.length : Int)) = true := decide_eq_true c47
     have c47b1 : decide (0 < y238.length) = true := decide_eq_true (by omega)
     clear c47
     obtain ⟨y263, hy263⟩ : ∃ y_ : List (S45), y_ = (y238.set (0 : Int).toNat (⟨(rd_T45 y238 0).f0, 8, (rd_T45 y238 0).f2⟩ : S45)) := ⟨_, rfl⟩
     replace H : ((clear_Best.f 2 y263).bind fun bt264 => (if bt264.2.2 = 0 then ((worldmintref01_SameInts.f kj3 bt264.1 (([0] : List Int))).bind fun t272 => (some t272)) else (some false))) = some r := by first | (rw [hy263]; with_reducible exact H) | (have H2_ := (Option.bind_some _ _).symm.trans H; rw [hy263]; with_reducible exact H2_) | (have H2_ := (Option.bind_some _ _).symm.trans H; with_reducible exact H2_) | with_reducible exact H | (rw [hy263]; exact H) | exact H
     have Ny263 := Aside0.mk hy263
     clear hy263
     replace H := Option.bind_eq_some_iff.mp H
     obtain ⟨⟨t264, t265, t266⟩, A490, H⟩ := H
     replace H : (if t266 = 0 then ((worldmintref01_SameInts.f kj3 t264 (([0] : List Int))).bind fun t272 => (some t272)) else (some false)) = some r := H
     have A49 := Aside0.mk A490
     clear A490
     by_cases c50 : t266 = 0
     ·rw [if_pos c50] at H
      have c50b0 : (t266 == 0) = true := beq_iff_eq.mpr c50
      have c50b1 : (t266 != 0) = false := bne_eq_false_iff_eq.mpr c50
      clear c50
      obtain ⟨y269, hy269⟩ : ∃ y_ : List Int, y_ = (([0] : List Int)) := ⟨_, rfl⟩
      replace H : ((worldmintref01_SameInts.f kj3 t264 y269).bind fun t272 => (some t272)) = some r := by first | (rw [hy269]; with_reducible exact H) | (have H2_ := (Option.bind_some _ _).symm.trans H; rw [hy269]; with_reducible exact H2_) | (have H2_ := (Option.bind_some _ _).symm.trans H; with_reducible exact H2_) | with_reducible exact H | (rw [hy269]; exact H) | exact H
      have Ny269 := Aside0.mk hy269
      clear hy269
      replace H := Option.bind_eq_some_iff.mp H
      obtain ⟨t272, A510, H⟩ := H
      replace H : (some t272) = some r := H
      have A51 := Aside0.mk A510
      clear A510
      obtain rfl := Option.some.inj H
      have p48 : 0 ≤ (0 : Int) := (by omega)
      have q48 : (0 : Int) < ((y238.length : Int) : Int) := of_decide_eq_true (by first | (with_reducible assumption) | assumption)
      have qi48 : (0 < y238.length) = True := eq_true (by omega)
      obtain ⟨go48, co48, eo48, gb48, gl48, cl48, HG48⟩ := Kd.N_form HO_1.out (by omega)
      (first | cases eo48 | (injection eo48 with ea_ en_ ec_; (first | subst ea_ | (injection ea_ with ea_; subst ea_)); subst ec_; clear en_))
      have GB48 := Aside0.mk gb48
      have GG48 := Aside0.mk HG48
      clear gb48 gl48 HG48
      obtain ⟨ce48, hcl48, hM48, hcc48, hfr48⟩ := Kd.N_elem HO_1.out z45 (0 : Int) p48 q48
      obtain ⟨ua48_2, uc48_2, rfl, ul48_2, ge48_2⟩ := k45_openF hM48
      have hx48_0 : wc.cell? ⟨go48, (0 : Int).toNat * 3, none⟩ = some (.int .i64 ((rd_T45 y238 0).f0)) := hcc48 0 _ rfl
      have hx48_1 : wc.cell? ⟨go48, (0 : Int).toNat * 3 + 1, none⟩ = some (.int .i64 ((rd_T45 y238 0).f1)) := hcc48 1 _ rfl
      have hx48_2 : wc.cell? ⟨go48, (0 : Int).toNat * 3 + 2, none⟩ = some (.slice ua48_2 ((rd_T45 y238 0).f2).length uc48_2) := hcc48 2 _ rfl
      have hf48_0 : wc.frozen? ⟨go48, (0 : Int).toNat * 3, none⟩ = false := hfr48 0
      have hf48_1 : wc.frozen? ⟨go48, (0 : Int).toNat * 3 + 1, none⟩ = false := hfr48 1
      have hf48_2 : wc.frozen? ⟨go48, (0 : Int).toNat * 3 + 2, none⟩ = false := hfr48 2
      clear hcl48 hcc48 hfr48 hM48
      (try rw [show ((0 : Int)).toNat = 0 from rfl] at hx48_0)
      (try simp only [Nat.reduceMul, Nat.zero_mul, Nat.zero_add, Nat.reduceAdd] at hx48_0)
      (try rw [show ((0 : Int)).toNat = 0 from rfl] at hf48_0)
      (try simp only [Nat.reduceMul, Nat.zero_mul, Nat.zero_add, Nat.reduceAdd] at hf48_0)
      (try rw [show ((0 : Int)).toNat = 0 from rfl] at hx48_1)
      (try simp only [Nat.reduceMul, Nat.zero_mul, Nat.zero_add, Nat.reduceAdd] at hx48_1)
      (try rw [show ((0 : Int)).toNat = 0 from rfl] at hf48_1)
      (try simp only [Nat.reduceMul, Nat.zero_mul, Nat.zero_add, Nat.reduceAdd] at hf48_1)
      (try rw [show ((0 : Int)).toNat = 0 from rfl] at hx48_2)
      (try simp only [Nat.reduceMul, Nat.zero_mul, Nat.zero_add, Nat.reduceAdd] at hx48_2)
      (try rw [show ((0 : Int)).toNat = 0 from rfl] at hf48_2)
      (try simp only [Nat.reduceMul, Nat.zero_mul, Nat.zero_add, Nat.reduceAdd] at hf48_2)
      replace p48 := eq_true p48
      replace q48 := eq_true q48
      have HX52 := Aside0.mk (show Kd.N k45 45 wc w.heap.size (fun _ => True) (.slice (some ⟨go48, 0, none⟩) y238.length co19) y238 from (by (with_reducible repeat (first | apply Kd.N_alloc | apply Kd.N_drewN | apply Kd.N_drew)); exact HO_1.out))
      obtain ⟨ce52, hcl52, hM52, hcc52, hfr52⟩ := Kd.N_elem HX52.out z45 (0 : Int) (by omega) (by have h_ : (0 : Int) < ((y238.length : Int) : Int) := of_decide_eq_true (by first | (with_reducible assumption) | assumption); first | exact h_ | (have e_ := (Kd.N_reads' HO_1.out).1; omega) | simpa using h_)
      obtain ⟨ua52_2, uc52_2, rfl, ul52_2, ge52_2⟩ := k45_openF hM52
      have HP52 := Kd.N_seg HX52.out (0 : Int) (by omega) (by have h_ : (0 : Int) < ((y238.length : Int) : Int) := of_decide_eq_true (by first | (with_reducible assumption) | assumption); first | exact h_ | (have e_ := (Kd.N_reads' HO_1.out).1; omega) | simpa using h_) (seg := [.int .i64 8]) (j := 1) hcl52 hcc52 (show 2 ≤ 3 from by decide) (x' := (⟨(rd_T45 y238 0).f0, 8, (rd_T45 y238 0).f2⟩ : S45)) (k45_mkF _ _ (⟨(rd_T45 y238 0).f0, 8, (rd_T45 y238 0).f2⟩ : S45) ul52_2 ge52_2) (fun _ hk => hk)
      have hx52_1 := hcc52 1 _ rfl
      (try simp only [show (k45).sz = 3 from rfl, Nat.mul_one, Nat.add_zero] at hx52_1)
      (try rw [show ((0 : Int)).toNat = 0 from rfl] at hx52_1)
      (try simp only [Nat.reduceMul, Nat.zero_mul, Nat.zero_add, Nat.reduceAdd] at hx52_1)
      have hf52_1 := hfr52 1
      (try simp only [show (k45).sz = 3 from rfl, Nat.mul_one, Nat.add_zero] at hf52_1)
      (try rw [show ((0 : Int)).toNat = 0 from rfl] at hf52_1)
      (try simp only [Nat.reduceMul, Nat.zero_mul, Nat.zero_add, Nat.reduceAdd] at hf52_1)
      clear hcl52 hcc52 hfr52 hM52
      go_wp2_with (first | ((with_reducible refine gate_store (t := 3) (p := 67) rfl ?_); refine store_event (t := 3) (p := 67) (v := ?vo_w53) (w1 := (wc.setCell ⟨go48, 1, none⟩ (.int .i64 8))) ?hg ?ho ?hn ?hr ?_; (case ho => rfl); (case hg => rfl); (case hn => rfl); (case hr => first | (go_simp; done) | (go_simp; rfl)); intro w53 hw; have hg : wc.grownBy w53 (some go48) := (by rw [hw]; exact HP52.2); have hp_ : Kd.N k45 45 w53 w.heap.size (fun _ => True) (.slice (some ⟨go48, 0, none⟩) y238.length co19) y263 := (by rw [hw, Ny263.out]; exact HP52.1); clear HP52; have n0_ := Aside0.mk (hp_); have n1_ := Aside0.mk ((by rw [hw]; exact below_set (HB.out) GB48.out : Below w.heap.size w w53)); clear HO_1; clear HB; have HO_1 := n0_; have HB := n1_; clear n0_ n1_; clear hg hw hp_) | ((with_reducible refine gate_callee (f := 24) rfl ?_); refine goesL_ (some 70) rfl rfl Try.func24 (by kernel_rfl) rfl #[.int .i64 2, .slice (some ⟨go48, 0, none⟩) y263.length co19] rfl (by (try simp only [List.map_toArray, List.map_cons, List.map_nil]); first | done | (rw [show y263.length = y238.length from (Kd.N_reads' HO_1.out).1.symm] <;> rfl) | rfl | (simp only [List.length_drop, List.length_take]; rfl)) ?_; (with_reducible refine (clear_Best.calls 2 _ _ y263 t264 t265 t266 _ ?side1 ?side2 A49.out).mono ?_); (case side1 => repeat (first | exact (Kd.N_reads' HO_1.out).2.2 | (with_reducible refine Kd.C_alloc ?_ _) | (with_reducible refine Kd.C_drewN ?_ _) | (with_reducible refine Kd.C_drew ?_))); (case side2 => rw [show y263.length = y238.length from (Kd.N_reads' HO_1.out).1.symm]; exact (Kd.N_reads' HO_1.out).2.1); rintro e w54 ⟨v267, rfl, ho0, hb⟩; refine ⟨_, rfl, ?_⟩; have n0_ := Aside0.mk (Kd.N_elder' (by (with_reducible repeat (first | apply Kd.N_alloc | apply Kd.N_drewN | apply Kd.N_drew)); exact HO_1.out) (Kd.R_base ho0) hb); have n1_ := Aside0.mk (Kd.R_lower ho0 (below_size (by repeat (first | (with_reducible first | exact HB.out | apply below_alloc | apply pw_below_drewN | apply below_drew1) | exact HB.out)))); have n2_ := Aside0.mk (below_step (by repeat (first | (with_reducible first | exact HB.out | apply below_alloc | apply pw_below_drewN | apply below_drew1) | exact HB.out)) hb); clear HO_1; clear HB; have HO_1 := n0_; have HO268 := n1_; have HB := n2_; clear n0_ n1_ n2_; (try clear hb); (try clear hb2); (try clear hk); (try clear hi); (try clear ho0)) | ((with_reducible refine gate_dst (N := 78) rfl ?_); (try (refine gate_guard (by rfl) ?_; dsimp only)); refine Kd.R_lit (Kd.int .i64) _ 3 ?hg (N := 78) ?hd (xs := ([0] : List Int)) (inner := [.int .i64 0]) (ok := fun _ => True) (okp := fun _ => True) ?hr ?hp (fun _ hk => hk) trivial (Below.refl _ _) (Nat.le_refl _) (by simp) ?_; (case hd => rfl); (case hg => rfl); (case hr => first | (go_simp; done) | (go_simp; rfl)); (case hp => exact (Reps.one (show Kd.M (Kd.int .i64) _ _ _ 0 [.int .i64 0] from rfl) (Reps.none _ _))); intro v270 w55 ho56 hb hg_ hnew_; clear hg_ hnew_; (first | rw [← Ny269.out] at ho56 | (simp only [Int.reduceToNat] at ho56; rw [← Ny269.out] at ho56)); have n0_ := Aside0.mk (Kd.N_elder' (by (with_reducible repeat (first | apply Kd.N_alloc | apply Kd.N_drewN | apply Kd.N_drew)); exact HO_1.out) (Kd.R_base ho56) hb); have n1_ := Aside0.mk (Kd.R_elder' (by (with_reducible repeat (first | apply Kd.R_alloc | apply Kd.R_drewN | apply Kd.R_drew)); exact HO268.out) (Kd.R_base ho56) hb); have n2_ := Aside0.mk (Kd.R_lower (Kd.R_new' ho56 (Kd.R_lt (by (with_reducible repeat (first | apply Kd.R_alloc | apply Kd.R_drewN | apply Kd.R_drew)); exact HO268.out))) (below_size (by repeat (first | (with_reducible first | exact HB.out | apply below_alloc | apply pw_below_drewN | apply below_drew1) | exact HB.out)))); have n3_ := Aside0.mk (below_step (by repeat (first | (with_reducible first | exact HB.out | apply below_alloc | apply pw_below_drewN | apply below_drew1) | exact HB.out)) hb); clear HO_1; clear HO268; clear HB; have HO_1 := n0_; have HO268 := n1_; have HO271 := n2_; have HB := n3_; clear n0_ n1_ n2_ n3_; clear hb ho56; obtain ⟨Ao57, co57, eo57⟩ := Kd.R_slice HO268.out; subst eo57; obtain ⟨Ao58, co58, eo58⟩ := Kd.R_slice HO271.out; subst eo58) | (go_at_call 17; (with_reducible refine (worldmintref01_SameInts.calls kj3 _ _ t264 _ _ y269 t272 _ ?side1 ?side2 ?side3 ?side4 A51.out).mono ?_); (case side1 => repeat (first | exact (Kd.R_reads' HO268.out).2.2 | (with_reducible refine Kd.C_alloc ?_ _) | (with_reducible refine Kd.C_drewN ?_ _) | (with_reducible refine Kd.C_drew ?_))); (case side2 => exact (Kd.R_reads' HO268.out).2.1); (case side3 => repeat (first | exact (Kd.R_reads' HO271.out).2.2 | (with_reducible refine Kd.C_alloc ?_ _) | (with_reducible refine Kd.C_drewN ?_ _) | (with_reducible refine Kd.C_drew ?_))); (case side4 => exact (Kd.R_reads' HO271.out).2.1); rintro e w' ⟨rfl, ⟨nd, rfl⟩⟩))
      go_ret
      exact ⟨by first | rfl | (simp [errW_none, errW_some] <;> rfl) | (simp [*, errW_none, errW_some] <;> rfl), by repeat (first | (with_reducible first | exact HB.out | apply below_alloc | apply pw_below_drewN | apply below_drew1) | exact HB.out)⟩
     ·rw [if_neg c50] at H
      have c50b0 : (t266 == 0) = false := beq_eq_false_iff_ne.mpr c50
      have c50b1 : (t266 != 0) = true := bne_iff_ne.mpr c50
      obtain rfl := Option.some.inj H
      have p48 : 0 ≤ (0 : Int) := (by omega)
      have q48 : (0 : Int) < ((y238.length : Int) : Int) := of_decide_eq_true (by first | (with_reducible assumption) | assumption)
      have qi48 : (0 < y238.length) = True := eq_true (by omega)
      obtain ⟨go48, co48, eo48, gb48, gl48, cl48, HG48⟩ := Kd.N_form HO_1.out (by omega)
      (first | cases eo48 | (injection eo48 with ea_ en_ ec_; (first | subst ea_ | (injection ea_ with ea_; subst ea_)); subst ec_; clear en_))
      have GB48 := Aside0.mk gb48
      have GG48 := Aside0.mk HG48
      clear gb48 gl48 HG48
      obtain ⟨ce48, hcl48, hM48, hcc48, hfr48⟩ := Kd.N_elem HO_1.out z45 (0 : Int) p48 q48
      obtain ⟨ua48_2, uc48_2, rfl, ul48_2, ge48_2⟩ := k45_openF hM48
      have hx48_0 : wc.cell? ⟨go48, (0 : Int).toNat * 3, none⟩ = some (.int .i64 ((rd_T45 y238 0).f0)) := hcc48 0 _ rfl
      have hx48_1 : wc.cell? ⟨go48, (0 : Int).toNat * 3 + 1, none⟩ = some (.int .i64 ((rd_T45 y238 0).f1)) := hcc48 1 _ rfl
      have hx48_2 : wc.cell? ⟨go48, (0 : Int).toNat * 3 + 2, none⟩ = some (.slice ua48_2 ((rd_T45 y238 0).f2).length uc48_2) := hcc48 2 _ rfl
      have hf48_0 : wc.frozen? ⟨go48, (0 : Int).toNat * 3, none⟩ = false := hfr48 0
      have hf48_1 : wc.frozen? ⟨go48, (0 : Int).toNat * 3 + 1, none⟩ = false := hfr48 1
      have hf48_2 : wc.frozen? ⟨go48, (0 : Int).toNat * 3 + 2, none⟩ = false := hfr48 2
      clear hcl48 hcc48 hfr48 hM48
      (try rw [show ((0 : Int)).toNat = 0 from rfl] at hx48_0)
      (try simp only [Nat.reduceMul, Nat.zero_mul, Nat.zero_add, Nat.reduceAdd] at hx48_0)
      (try rw [show ((0 : Int)).toNat = 0 from rfl] at hf48_0)
      (try simp only [Nat.reduceMul, Nat.zero_mul, Nat.zero_add, Nat.reduceAdd] at hf48_0)
      (try rw [show ((0 : Int)).toNat = 0 from rfl] at hx48_1)
      (try simp only [Nat.reduceMul, Nat.zero_mul, Nat.zero_add, Nat.reduceAdd] at hx48_1)
      (try rw [show ((0 : Int)).toNat = 0 from rfl] at hf48_1)
      (try simp only [Nat.reduceMul, Nat.zero_mul, Nat.zero_add, Nat.reduceAdd] at hf48_1)
      (try rw [show ((0 : Int)).toNat = 0 from rfl] at hx48_2)
      (try simp only [Nat.reduceMul, Nat.zero_mul, Nat.zero_add, Nat.reduceAdd] at hx48_2)
      (try rw [show ((0 : Int)).toNat = 0 from rfl] at hf48_2)
      (try simp only [Nat.reduceMul, Nat.zero_mul, Nat.zero_add, Nat.reduceAdd] at hf48_2)
      replace p48 := eq_true p48
      replace q48 := eq_true q48
      have HX59 := Aside0.mk (show Kd.N k45 45 wc w.heap.size (fun _ => True) (.slice (some ⟨go48, 0, none⟩) y238.length co19) y238 from (by (with_reducible repeat (first | apply Kd.N_alloc | apply Kd.N_drewN | apply Kd.N_drew)); exact HO_1.out))
      obtain ⟨ce59, hcl59, hM59, hcc59, hfr59⟩ := Kd.N_elem HX59.out z45 (0 : Int) (by omega) (by have h_ : (0 : Int) < ((y238.length : Int) : Int) := of_decide_eq_true (by first | (with_reducible assumption) | assumption); first | exact h_ | (have e_ := (Kd.N_reads' HO_1.out).1; omega) | simpa using h_)
      obtain ⟨ua59_2, uc59_2, rfl, ul59_2, ge59_2⟩ := k45_openF hM59
      have HP59 := Kd.N_seg HX59.out (0 : Int) (by omega) (by have h_ : (0 : Int) < ((y238.length : Int) : Int) := of_decide_eq_true (by first | (with_reducible assumption) | assumption); first | exact h_ | (have e_ := (Kd.N_reads' HO_1.out).1; omega) | simpa using h_) (seg := [.int .i64 8]) (j := 1) hcl59 hcc59 (show 2 ≤ 3 from by decide) (x' := (⟨(rd_T45 y238 0).f0, 8, (rd_T45 y238 0).f2⟩ : S45)) (k45_mkF _ _ (⟨(rd_T45 y238 0).f0, 8, (rd_T45 y238 0).f2⟩ : S45) ul59_2 ge59_2) (fun _ hk => hk)
      have hx59_1 := hcc59 1 _ rfl
      (try simp only [show (k45).sz = 3 from rfl, Nat.mul_one, Nat.add_zero] at hx59_1)
      (try rw [show ((0 : Int)).toNat = 0 from rfl] at hx59_1)
      (try simp only [Nat.reduceMul, Nat.zero_mul, Nat.zero_add, Nat.reduceAdd] at hx59_1)
      have hf59_1 := hfr59 1
      (try simp only [show (k45).sz = 3 from rfl, Nat.mul_one, Nat.add_zero] at hf59_1)
      (try rw [show ((0 : Int)).toNat = 0 from rfl] at hf59_1)
      (try simp only [Nat.reduceMul, Nat.zero_mul, Nat.zero_add, Nat.reduceAdd] at hf59_1)
      clear hcl59 hcc59 hfr59 hM59
      go_wp2_with (first | ((with_reducible refine gate_store (t := 3) (p := 67) rfl ?_); refine store_event (t := 3) (p := 67) (v := ?vo_w60) (w1 := (wc.setCell ⟨go48, 1, none⟩ (.int .i64 8))) ?hg ?ho ?hn ?hr ?_; (case ho => rfl); (case hg => rfl); (case hn => rfl); (case hr => first | (go_simp; done) | (go_simp; rfl)); intro w60 hw; have hg : wc.grownBy w60 (some go48) := (by rw [hw]; exact HP59.2); have hp_ : Kd.N k45 45 w60 w.heap.size (fun _ => True) (.slice (some ⟨go48, 0, none⟩) y238.length co19) y263 := (by rw [hw, Ny263.out]; exact HP59.1); clear HP59; have n0_ := Aside0.mk (hp_); have n1_ := Aside0.mk ((by rw [hw]; exact below_set (HB.out) GB48.out : Below w.heap.size w w60)); clear HO_1; clear HB; have HO_1 := n0_; have HB := n1_; clear n0_ n1_; clear hg hw hp_) | ((with_reducible refine gate_callee (f := 24) rfl ?_); refine goesL_ (some 70) rfl rfl Try.func24 (by kernel_rfl) rfl #[.int .i64 2, .slice (some ⟨go48, 0, none⟩) y263.length co19] rfl (by (try simp only [List.map_toArray, List.map_cons, List.map_nil]); first | done | (rw [show y263.length = y238.length from (Kd.N_reads' HO_1.out).1.symm] <;> rfl) | rfl | (simp only [List.length_drop, List.length_take]; rfl)) ?_; (with_reducible refine (clear_Best.calls 2 _ _ y263 t264 t265 t266 _ ?side1 ?side2 A49.out).mono ?_); (case side1 => repeat (first | exact (Kd.N_reads' HO_1.out).2.2 | (with_reducible refine Kd.C_alloc ?_ _) | (with_reducible refine Kd.C_drewN ?_ _) | (with_reducible refine Kd.C_drew ?_))); (case side2 => rw [show y263.length = y238.length from (Kd.N_reads' HO_1.out).1.symm]; exact (Kd.N_reads' HO_1.out).2.1); rintro e w61 ⟨v267, rfl, ho0, hb⟩; refine ⟨_, rfl, ?_⟩; have n0_ := Aside0.mk (Kd.N_elder' (by (with_reducible repeat (first | apply Kd.N_alloc | apply Kd.N_drewN | apply Kd.N_drew)); exact HO_1.out) (Kd.R_base ho0) hb); have n1_ := Aside0.mk (Kd.R_lower ho0 (below_size (by repeat (first | (with_reducible first | exact HB.out | apply below_alloc | apply pw_below_drewN | apply below_drew1) | exact HB.out)))); have n2_ := Aside0.mk (below_step (by repeat (first | (with_reducible first | exact HB.out | apply below_alloc | apply pw_below_drewN | apply below_drew1) | exact HB.out)) hb); clear HO_1; clear HB; have HO_1 := n0_; have HO268 := n1_; have HB := n2_; clear n0_ n1_ n2_; (try clear hb); (try clear hb2); (try clear hk); (try clear hi); (try clear ho0)))
      go_ret
      exact ⟨by first | rfl | (simp [errW_none, errW_some] <;> rfl) | (simp [*, errW_none, errW_some] <;> rfl), by repeat (first | (with_reducible first | exact HB.out | apply below_alloc | apply pw_below_drewN | apply below_drew1) | exact HB.out)⟩
    ·rw [if_neg c47] at H
     exact absurd H (by simp)

end Go.Proofs.Ytecbfpcidoilmaa.H

/- ClearBound's law function: what it computes, and that its calls compute it (walked by hand). -/
namespace Go.Proofs.Ytecbfpcidoilmaa.H
open Go.RowKit Go.Proofs.YtecbfpcidoilmaaW.PrintWords Go.Proofs.YtecbfpcidoilmaaW.PrintLast Go.Proofs.YtecbfpcidoilmaaW.PrintMore
set_option linter.unusedVariables false
set_option linter.unusedSimpArgs false
/-- The rounds over the rows of prices: false at the first at which the two answers part. -/
def cbGo (k : Nat) (t : Int) (bs : List S63) : List (List Int) → Option Bool
  | [] => some true
  | x :: xs => (worldmintlaw28_given.f k bs).bind fun g => (clear_Bound.f t g x).bind fun u => (worldmintref28_Bound.f k t bs x).bind fun v => if u = v then cbGo k t bs xs else some false
def cbAll (p q : List Int) (t : Int) : List (List Int) := [p, q, p.take (t - 1).toNat, q ++ [0]]
def worldmintlaw28_ClearBound.f (k : Nat) (a0 : Int) (l1 l2 : List Int) (a3 a4 : Int) : Option Bool :=
  (worldmintref27_Lots.f a0).bind fun t => (worldmintref27_Bids.f k t l1 11).bind fun bs => (worldmintref28_Lots.f k t l2).bind fun p => (worldmintref01_Around.f a3 t).bind fun j =>
    if 0 ≤ j ∧ j < p.length ∧ (p.length : Int) = t ∧ t ≤ 8 then (cbGo k t bs (cbAll p (p.set j.toNat a4) t)).bind fun b => if b then worldmintlaw28_lives.f k else some false else none
theorem R_empty (W : World) (base : Nat) (hb : base ≤ W.heap.size) : (Kd.int .i64).R 3 (W.alloc (.cells #[] 3)) base (fun _ => True) (.slice (some ⟨W.heap.size, 0, none⟩) 0 0) [] :=
  Kd.R_of_own (enc := Value.int .i64) (h1 := fun _ => rfl) (xs := []) ⟨rfl, .inr ⟨W.heap.size, 0, #[], rfl, hb, heap_alloc_new W _, Nat.le_refl _, by decide, rfl, rfl⟩⟩ (fun _ _ => trivial)
theorem below_grown (W : World) (o : Obj) (W1 : World) (row : Option Nat) (hg : (W.alloc o).grownBy W1 row) (hrow : ∀ k, row = some k → W.heap.size ≤ k) : Below W.heap.size W W1 :=
  ⟨hg.os, hg.tape, hg.output, Nat.le_trans (by simp) hg.size, fun k hk => (hg.block k (by simp; omega) (fun e => by have := hrow k e.symm; omega)).trans (Below.heap_alloc W o k hk)⟩
theorem q_ge {W : World} {o : Obj} {g n c m : Nat} (h : (Value.slice (some ⟨g, 0, none⟩) n c).ownBlock = (Value.slice (some ⟨W.heap.size, 0, none⟩) m m).ownBlock ∨ ∃ b, (Value.slice (some ⟨g, 0, none⟩) n c).ownBlock = some b ∧ (W.alloc o).heap.size ≤ b) : W.heap.size ≤ g := by
  simp only [Value.ownBlock, World.size_alloc] at h
  rcases h with h | ⟨b, h, hb⟩
  · injection h with h; omega
  · injection h with h; omega
theorem add0 (g j : Nat) : (⟨g, 0, none⟩ : Addr).add j = ⟨g, j, none⟩ := by unfold Addr.add; split <;> simp_all
theorem C_pre {W : World} {g n : Nat} {cells : Array Value} {t : TypeId} {ys : List Int} (h : W.heap[g]? = some (.cells cells t (0, 0))) (ht : cells.toList.take n = ys.map (Value.int .i64)) (hn : ys.length = n) (hl : n ≤ 1000000) : Kd.C (Kd.int .i64) W (some ⟨g, 0, none⟩) n ys :=
  Kd.C_of_reads (d := (0 : Int)) (h1 := fun _ => rfl) ⟨hn, by omega, fun _ => ⟨_, rfl, fun j hj => by
    rw [show (⟨g, 0, none⟩ : Addr).add j = ⟨g, j, none⟩ by unfold Addr.add; split <;> simp_all]
    refine (blk_cell h j).trans ?_
    have h1 := congrArg (fun l => l[j]?) ht
    simp only [List.getElem?_take, List.getElem?_map] at h1
    rw [if_pos (by omega)] at h1
    rw [← Array.getElem?_toList, h1, List.getElem?_eq_getElem (by omega)]
    simp [List.getD, List.getElem?_eq_getElem (show j < ys.length by omega)]⟩⟩
theorem C_takeI {W : World} {A : Option Addr} {n : Nat} {ys : List Int} (h : Kd.C (Kd.int .i64) W A n ys) (m : Nat) (hn : ys.length = n) (hm : m ≤ n) (hl : n ≤ 1000000) : Kd.C (Kd.int .i64) W A m (ys.take m) :=
  Kd.C_of_reads (d := (0 : Int)) (h1 := fun _ => rfl) ⟨by rw [List.length_take]; omega, by omega, fun h0 => by
    obtain ⟨ad, ea, _⟩ := Kd.at_int h 0 (by omega) (by omega)
    refine ⟨ad, ea, fun j hj => ?_⟩
    obtain ⟨ad', ea', hc⟩ := Kd.at_int h (j : Int) (by omega) (by omega)
    rw [ea] at ea'
    injection ea' with ea'
    subst ea'
    rw [Int.toNat_natCast] at hc
    rw [hc]
    simp [rd, List.getD, List.getElem?_take, hj]⟩
theorem app_one (w0 W : World) (b0 g cap : Nat) (ok : Nat → Prop) (xs : List Int) (x : Int) (HO : (Kd.int .i64).R 3 W b0 ok (.slice (some ⟨g, 0, none⟩) xs.length cap) xs) (hB : Below w0.heap.size w0 W) (hg : w0.heap.size ≤ g) (hl : xs.length ≤ 1000) :
    ∃ A c W1, (Builtin.append_ #[22, 22] 22 #[.slice (some ⟨g, 0, none⟩) xs.length cap, .slice (some ⟨W.heap.size, 0, none⟩) 1 1]).run Try.prog (W.alloc (.cells #[.int .i64 x] 3)).drew = .ok (.slice A (xs ++ [x]).length c) W1 ∧
      (xs ++ [x]).length ≤ c ∧ Kd.C (Kd.int .i64) W1 A (xs ++ [x]).length (xs ++ [x]) ∧ xs.length ≤ cap ∧ Kd.C (Kd.int .i64) W1 (some ⟨g, 0, none⟩) xs.length xs ∧ Below w0.heap.size w0 W1 := by
  have hown := Kd.own_of_R (enc := Value.int .i64) (h1 := fun _ => rfl) HO
  have hCx := (Kd.R_reads' HO).2.2
  obtain ⟨hxl, h⟩ := hown
  rcases h with ⟨h, _⟩ | ⟨g', cap', cur, he, hb, hh, hn, hcm, hcs, htk⟩
  · cases h
  · injection he with he _ hcap
    injection he with he
    injection he with he
    subst he
    subst hcap
    have hgl : g < W.heap.size := (Array.getElem?_eq_some_iff.1 hh).1
    obtain ⟨i, hi, hz⟩ := Option.map_eq_some_iff.1 info3
    simp only [Prod.mk.injEq] at hz
    obtain ⟨hz0, hz1, hz2⟩ := hz
    have hh2 : (W.alloc (.cells #[.int .i64 x] 3)).drew.heap[g]? = some (.cells cur 3 (0, 0)) := (Below.heap_alloc W _ g hgl).trans hh
    have hnew : ∀ j u, [Value.int .i64 x][j]? = some u → (W.alloc (.cells #[.int .i64 x] 3)).drew.cell? ((⟨W.heap.size, 0, none⟩ : Addr).add j) = some u := by
      intro j u hj
      rw [show (⟨W.heap.size, 0, none⟩ : Addr).add j = ⟨W.heap.size, j, none⟩ by unfold Addr.add; split <;> simp_all]
      refine (blk_cell (heap_alloc_new W _) j).trans ?_
      simpa using hj
    have hen : encs (Value.int .i64) xs = xs.map (Value.int .i64) := rfl
    rw [hen] at htk hxl
    rw [Nat.mul_one] at htk hcs
    by_cases hroom : xs.length + 1 ≤ cap
    · have hr := run_append_room (P := Try.prog) (W.alloc (.cells #[.int .i64 x] 3)).drew 22 22 3 i Try.underlying22 hi g xs.length cap cur hh2 ⟨W.heap.size, 0, none⟩ 1 1 [Value.int .i64 x] (by rw [hz1]; rfl) hnew (by simp [Value.oneCell']) hroom (by rw [hz1, hcs]; simpa using hroom)
      rw [hz1, Nat.mul_one] at hr
      have hset := setRow_heap (W.alloc (.cells #[.int .i64 x] 3)).drew g cur (cur.toList.take xs.length ++ [Value.int .i64 x] ++ cur.toList.drop (xs.length + [Value.int .i64 x].length)).toArray 3 (0, 0) hh2
      refine ⟨some ⟨g, 0, none⟩, cap, _, by rw [List.length_append]; exact hr, by simpa using hroom, ?_, hn, ?_, below_setRow (below_drew1 (hB.alloc hB.size _)) hg _⟩
      · refine C_pre hset ?_ rfl (by simp; omega)
        show List.take _ (_ ++ _ ++ _) = _
        rw [htk, List.map_append]
        exact List.take_left' (by simp)
      · refine C_pre hset ?_ rfl (by omega)
        show List.take _ (_ ++ _ ++ _) = _
        rw [htk, List.append_assoc]
        exact List.take_left' (by simp)
    · have hr := run_append_grow (P := Try.prog) (W.alloc (.cells #[.int .i64 x] 3)).drew 22 22 3 i (.int .i64 0) Try.underlying22 hi hz0 ⟨g, 0, none⟩ xs.length cap (xs.map (Value.int .i64)) (by rw [hz1]; simp) (by
          intro j u hj
          rw [add0]
          refine (blk_cell hh2 j).trans ?_
          have hj1 : j < xs.length := by have := (List.getElem?_eq_some_iff.1 hj).1; simpa using this
          have h1 := congrArg (fun l => l[j]?) htk
          simp only [List.getElem?_take] at h1
          rw [if_pos hj1, hj] at h1
          rw [← Array.getElem?_toList]
          exact h1) ⟨W.heap.size, 0, none⟩ 1 1 [Value.int .i64 x] (by rw [hz1]; rfl) hnew (by omega) (by omega) (by rw [hz2]; exact growslice_fits (by omega) (by omega))
      refine ⟨_, _, _, by rw [List.length_append]; exact hr, by rw [List.length_append]; exact grownCap_ge _ _ _ _, ?_, hn, ?_, ?_⟩
      · refine C_pre (heap_alloc_new _ _) ?_ rfl (by simp; omega)
        rw [Array.toList_append, Array.toList_append, List.map_append]
        exact List.take_left' (by simp)
      · exact Kd.C_alloc (Kd.C_drew (Kd.C_drew (Kd.C_alloc hCx _))) _
      · refine Below.alloc (below_drew1 (below_drew1 (hB.alloc hB.size _))) ?_ _
        show w0.heap.size ≤ (W.alloc _).heap.size
        rw [World.size_alloc]
        have := hB.size
        omega
theorem step_append_run {w : World} {o : Oper} {a : Act} {K : Act → World → Prop} {Q : Exit → Act → World → Prop} {c : Bool} (hc : c = true) (s x : Operand) (t : TypeId)
    (ho : o.op = .call { callee := .builtin .append, args := #[s, x], argTypes := #[t, t] }) (vs vx : Value) (hs : a.eval s = vs) (hx : a.eval x = vx)
    (v' : Value) (w' : World) (hr : (Builtin.append_ #[t, t] o.type #[vs, vx]).run Try.prog w = .ok v' w') (h : K (a.put o.dst v') w') : if c = true then Oper.wp Try.prog o a w K Q else K (a.put o.dst undef) w := by
  rw [if_pos hc]
  unfold Oper.wp execOp
  simp only [ho, resolve, invoke, builtin, Sem.run_bind, Sem.run_pure, Result.andThen_ok, List.map_toArray, List.map_cons, List.map_nil, hs, hx, hr]
  exact h
set_option maxHeartbeats 8000000 in
set_option maxRecDepth 100000 in
theorem worldmintlaw28_ClearBound.calls (k : Nat) (a0 : Int) (A1 : Option Addr) (c1 : Nat) (l1 : List Int) (A2 : Option Addr) (c2 : Nat) (l2 : List Int) (a3 : Int) (a4 : Int) (r : Bool) (w : World) (hr1 : Kd.C (Kd.int .i64) w A1 l1.length l1) (hc1 : l1.length ≤ c1) (hr2 : Kd.C (Kd.int .i64) w A2 l2.length l2) (hc2 : l2.length ≤ c2) (h : worldmintlaw28_ClearBound.f k a0 l1 l2 a3 a4 = some r) :
    Calls Try.prog 4 #[.int .i64 a0, .slice A1 l1.length c1, .slice A2 l2.length c2, .int .i64 a3, .int .i64 a4] w fun e w' => e = .returned (.bool r) ∧ Below w.heap.size w w' := by
  unfold worldmintlaw28_ClearBound.f at h
  obtain ⟨t, h1, h⟩ := Option.bind_eq_some_iff.mp h
  obtain ⟨bs, h2, h⟩ := Option.bind_eq_some_iff.mp h
  obtain ⟨p, h3, h⟩ := Option.bind_eq_some_iff.mp h
  obtain ⟨j, h4, h⟩ := Option.bind_eq_some_iff.mp h
  by_cases hg : 0 ≤ j ∧ j < p.length ∧ (p.length : Int) = t ∧ t ≤ 8
  case neg => rw [if_neg hg] at h; cases h
  rw [if_pos hg] at h
  obtain ⟨b, h5, h⟩ := Option.bind_eq_some_iff.mp h
  obtain ⟨g1, g2, g3, g4⟩ := hg
  have H1 := Aside0.mk h1
  have H2 := Aside0.mk h2
  have H3 := Aside0.mk h3
  have H4 := Aside0.mk h4
  have H5 := Aside0.mk h5
  have H := Aside0.mk h
  have Hr1 := Aside0.mk hr1
  have Hr2 := Aside0.mk hr2
  clear h1 h2 h3 h4 h5 h hr1 hr2
  go_enter Try.func4, Try.ntmps4
  go_wp2_with fail
  refine (worldmintref27_Lots.calls a0 t _ H1.out).mono ?_
  rintro e w1 ⟨rfl, hd1⟩
  have hb1 := hd1.below
  clear hd1
  go_wp2_with fail
  refine (worldmintref27_Bids.calls k t _ _ l1 11 bs _ (Kd.C_below Hr1.out hb1) hc1 H2.out).mono ?_
  rintro e w2 ⟨vb, rfl, ho2, hb2⟩
  have hb2 := hb1.trans (hb2.mono hb1.size)
  clear hb1
  obtain ⟨Ab, cb, eb⟩ := Kd.S_slice ho2
  subst eb
  have Ho2 := Aside0.mk ho2
  clear ho2
  go_wp2_with fail
  refine (worldmintref28_Lots.calls k t _ _ l2 p _ (Kd.C_below Hr2.out hb2) hc2 H3.out).mono ?_
  rintro e w3 ⟨vp, rfl, ho3, hb3⟩
  obtain ⟨Ap, cp, ep⟩ := Kd.R_slice ho3
  subst ep
  have HV := Aside0.mk (Kd.V_below (Kd.S_V (base' := 0) Ho2.out) hb3)
  have hB3 := hb2.trans (hb3.mono hb2.size)
  have Ho3 := Aside0.mk ho3
  have HB3 := Aside0.mk hB3
  clear ho3 hb2 hB3 hb3 Ho2
  go_wp2_with ((with_reducible refine gate_builtin (b := .append) (xs := #[.tmp 29, .tmp 30]) rfl ?_); at_builtin; refine Kd.R_append_row (Value.int .i64) (0 : Int) (h1 := fun _ => rfl) (w0 := w) w.heap.size rfl (.tmp 29) (.tmp 30) 22 3 (.int .i64 0) 8 rfl Try.underlying22 info3 rfl (by decide) (.slice (some ⟨w3.heap.size, 0, none⟩) 0 0) [] p Ap p.length cp (fun _ => True) rfl rfl (fun _ _ => trivial) ?aO ?aR ?aB ?aS ?aL ?_; (case aO => exact R_empty w3 w.heap.size HB3.out.size); (case aR => exact Kd.C_alloc (Kd.R_reads' Ho3.out).2.2 _); (case aB => exact HB3.out.alloc HB3.out.size _); (case aS => exact Nat.le_trans HB3.out.size (by simp)); (case aL => simp only [List.length_nil]; omega); intro vq w4 hoq hbq hgq hatq)
  rw [List.nil_append] at hoq
  obtain ⟨gq, cq, rfl, hq0, hq1, qcs, hqc⟩ := Kd.R_form hoq (by omega)
  have hge : w3.heap.size ≤ gq := q_ge hatq
  have hB4 := Aside0.mk (below_grown w3 _ w4 _ hgq (fun k hk => by simp only [Value.ownBlock, Option.some.injEq] at hk; omega))
  have Hoq := Aside0.mk hoq
  clear hoq hgq hatq hbq
  refine (worldmintref01_Around.calls a3 t j _ H4.out).mono ?_
  rintro e w5 ⟨rfl, nd, rfl⟩
  have hoq5 := Kd.R_drewN Hoq.out nd
  have hB5 := pw_below_drewN hB4.out nd
  have hqc5 : (w4.drewN nd).heap[gq]? = some (.cells qcs 3 (0, 0)) := blk_drewN hqc nd
  have hcj : ∃ x, (w4.drewN nd).cell? ⟨gq, j.toNat, none⟩ = some x := by
    obtain ⟨ad, ea, hc⟩ := Kd.at_int (Kd.R_reads' hoq5).2.2 j g1 g2
    injection ea with ea
    subst ea
    rw [add0] at hc
    exact ⟨_, hc⟩
  obtain ⟨xj, hcj⟩ := hcj
  have hfj := blk_frozen hqc5 j.toNat
  have hoq6 := Kd.R_put hoq5 j a4
  have hB6 := hB5.setCell (p := ⟨gq, j.toNat, none⟩) hge (.int .i64 a4)
  have hqc6 : ((w4.drewN nd).setCell ⟨gq, j.toNat, none⟩ (.int .i64 a4)).heap[gq]? = some (.cells (qcs.setIfInBounds j.toNat (.int .i64 a4)) 3 (0, 0)) := blk_put hqc5 j.toNat _ rfl
  have Hoq6 := Aside0.mk hoq6
  have HB6 := Aside0.mk hB6
  clear hoq5 hB5 hoq6 hB6 Hoq hB4 hqc
  go_upto_region 6 with (fail)
  obtain ⟨w6, hw6⟩ : ∃ w6, w6 = (w4.drewN nd).setCell ⟨gq, j.toNat, none⟩ (.int .i64 a4) := ⟨_, rfl⟩
  have hoq6 : (Kd.int .i64).R 3 w6 w.heap.size (fun _ => True) (.slice (some ⟨gq, 0, none⟩) (p.set j.toNat a4).length cq) (p.set j.toNat a4) := by rw [hw6, List.length_set]; exact Hoq6.out.1
  have HB6' := Aside0.mk (show Below w3.heap.size w3 w6 by rw [hw6]; exact HB6.out)
  have Hpc := Aside0.mk (Kd.R_reads' Ho3.out).2.1
  have Hq := Aside0.mk hoq6
  have Hge := Aside0.mk hge
  rw [← hw6]
  clear hw6 hqc6 hqc5 hcj hfj HB6 Hoq6 hoq6 Hr1 Hr2 H1 H2 H3 H4 hq0 hq1 hge
  obtain ⟨m, hm⟩ : ∃ m : Nat, t = (m : Int) + 1 := ⟨(t - 1).toNat, by omega⟩
  subst hm
  have hpl : p.length = m + 1 := by omega
  have hwm : IntKind.i64.wrap ((m : Int) + 1 - 1) = (m : Int) := by rw [Int.add_sub_cancel]; exact IntWalk.i64_in _ (by omega)
  have hwm2 : IntKind.i64.wrap (m : Int) = (m : Int) := IntWalk.i64_in _ (by omega)
  have hmc : (m : Int) ≤ (cp : Int) := by have := Hpc.out; omega
  refine wp_region_held_drew (S := fun _ => True) (by kernel_rfl) trivial ?_
  intro hS0
  refine wpAnyH_take (i := 0) (v := ?_) rfl (by kernel_rfl) (by kernel_rfl) (by kernel_rfl) (fun _ _ _ h => h) (Or.inl ⟨by rfl, ?_⟩) (by assumption) ?_
  rotate_left
  · (intro w_ hSw_; (try dsimp only at hSw_); go_simp; try with_reducible rfl)
  try simp only [Act.put, List.getElem_toArray, List.getElem_cons_zero, List.getElem_cons_succ, List.setIfInBounds_toArray, List.set_cons_zero, List.set_cons_succ]
  refine wpAnyH_take (i := 1) (v := ?_) rfl (by kernel_rfl) (by kernel_rfl) (by kernel_rfl) (fun _ _ _ h => h) (Or.inl ⟨by rfl, ?_⟩) (by assumption) ?_
  rotate_left
  · (intro w_ hSw_; (try dsimp only at hSw_); go_simp; try with_reducible rfl)
  try simp only [Act.put, List.getElem_toArray, List.getElem_cons_zero, List.getElem_cons_succ, List.setIfInBounds_toArray, List.set_cons_zero, List.set_cons_succ]
  refine wpAnyH_take (i := 2) (v := ?_) rfl (by kernel_rfl) (by kernel_rfl) (by kernel_rfl) (fun _ _ _ h => h) (Or.inl ⟨by rfl, ?_⟩) (by assumption) ?_
  rotate_left
  · (intro w_ hSw_; (try dsimp only at hSw_); go_simp; try with_reducible rfl)
  try simp only [Act.put, List.getElem_toArray, List.getElem_cons_zero, List.getElem_cons_succ, List.setIfInBounds_toArray, List.set_cons_zero, List.set_cons_succ]
  refine wpAnyH_take (i := 3) (v := ?_) rfl (by kernel_rfl) (by kernel_rfl) (by kernel_rfl) (fun _ _ _ h => h) (Or.inl ⟨by rfl, ?_⟩) (by assumption) ?_
  rotate_left
  · (intro w_ hSw_; (try dsimp only at hSw_); go_simp; try with_reducible rfl)
  try simp only [Act.put, List.getElem_toArray, List.getElem_cons_zero, List.getElem_cons_succ, List.setIfInBounds_toArray, List.set_cons_zero, List.set_cons_succ]
  refine wpAnyH_take (i := 4) (v := ?_) rfl (by kernel_rfl) (by kernel_rfl) (by kernel_rfl) (fun _ _ _ h => h) (Or.inl ⟨by rfl, ?_⟩) (by assumption) ?_
  rotate_left
  · (intro w_ hSw_; (try dsimp only at hSw_); go_simp; try with_reducible rfl)
  try simp only [Act.put, List.getElem_toArray, List.getElem_cons_zero, List.getElem_cons_succ, List.setIfInBounds_toArray, List.set_cons_zero, List.set_cons_succ]
  refine wpAnyH_take (i := 5) (v := ?_) rfl (by kernel_rfl) (by kernel_rfl) (by kernel_rfl) (fun _ _ _ h => h) (Or.inl ⟨by rfl, ?_⟩) (by assumption) ?_
  rotate_left
  · (intro w_ hSw_; (try dsimp only at hSw_); go_simp; try with_reducible rfl)
  try simp only [Act.put, List.getElem_toArray, List.getElem_cons_zero, List.getElem_cons_succ, List.setIfInBounds_toArray, List.set_cons_zero, List.set_cons_succ]
  refine wpAnyH_take (i := 6) (v := ?_) rfl (by kernel_rfl) (by kernel_rfl) (by kernel_rfl) (fun _ _ _ h => h) (Or.inl ⟨by rfl, ?_⟩) (by assumption) ?_
  rotate_left
  · (intro w_ hSw_; (try dsimp only at hSw_); go_simp; try with_reducible rfl)
  try simp only [Act.put, List.getElem_toArray, List.getElem_cons_zero, List.getElem_cons_succ, List.setIfInBounds_toArray, List.set_cons_zero, List.set_cons_succ]
  refine wpAnyH_ready (rs := [7]) (by kernel_rfl) (by simp) ?_
  refine AllReadyH.cons rfl (fun K hK => ?_) AllReadyH.nil
  go_simp
  refine hK.out _ _ trivial (fun hSn_ => ?_)
  clear hK K
  try simp only [Act.put, List.getElem_toArray, List.getElem_cons_zero, List.getElem_cons_succ, List.setIfInBounds_toArray, List.set_cons_zero, List.set_cons_succ]
  refine wpAnyH_ready (rs := [8]) (by kernel_rfl) (by simp) ?_
  refine AllReadyH.cons rfl (fun K hK => ?_) AllReadyH.nil
  obtain ⟨A4, c4, w7, hrun, hc4, hC4, hcq, hCq, hB7⟩ := app_one w3 w6 w.heap.size gq cq (fun _ => True) (p.set j.toNat a4) 0 Hq.out HB6'.out Hge.out (by rw [List.length_set]; omega)
  have hql : (p.set j.toNat a4).length = m + 1 := by rw [List.length_set]; exact hpl
  rw [hql] at hrun hcq hCq
  have HC4 := Aside0.mk hC4
  have HCq := Aside0.mk hCq
  have HB7 := Aside0.mk hB7
  clear hC4 hCq hB7 Hq HB6' Hge
  refine step_append_run (by kernel_rfl) (.tmp 44) (.tmp 45) 22 rfl (.slice (some ⟨gq, 0, none⟩) (m + 1) cq) (.slice (some ⟨w6.heap.size, 0, none⟩) 1 1) rfl rfl _ _ hrun ?_
  refine hK.out _ _ trivial (fun hSn_ => ?_)
  clear hK K hrun
  try simp only [Act.put, List.getElem_toArray, List.getElem_cons_zero, List.getElem_cons_succ, List.setIfInBounds_toArray, List.set_cons_zero, List.set_cons_succ]
  refine wpAnyH_ready (rs := [9]) (by kernel_rfl) (by simp) ?_
  refine AllReadyH.cons rfl (fun K hK => ?_) AllReadyH.nil
  go_simp
  refine hK.out _ _ trivial (fun hSn_ => ?_)
  clear hK K
  try simp only [Act.put, List.getElem_toArray, List.getElem_cons_zero, List.getElem_cons_succ, List.setIfInBounds_toArray, List.set_cons_zero, List.set_cons_succ]
  refine wpAnyH_take (i := 10) (v := ?_) rfl (by kernel_rfl) (by kernel_rfl) (by kernel_rfl) (fun _ _ _ h => h) (Or.inl ⟨by rfl, ?_⟩) (by assumption) ?_
  rotate_left
  · (intro w_ hSw_; (try dsimp only at hSw_); go_simp; try with_reducible rfl)
  try simp only [Act.put, List.getElem_toArray, List.getElem_cons_zero, List.getElem_cons_succ, List.setIfInBounds_toArray, List.set_cons_zero, List.set_cons_succ]
  refine wpAnyH_done (by kernel_rfl) ?_ _
  have hb8 : w7.heap.size < (w7.alloc (.cells #[.slice Ap (m + 1) cp, .slice (some ⟨gq, 0, none⟩) (m + 1) cq, .slice Ap m cp, .slice A4 (m + 1 + 1) c4] 22)).heap.size := by rw [World.size_alloc]; omega
  obtain ⟨W8, hW8⟩ : ∃ W8, W8 = w7.alloc (.cells #[.slice Ap (m + 1) cp, .slice (some ⟨gq, 0, none⟩) (m + 1) cq, .slice Ap m cp, .slice A4 (m + 1 + 1) c4] 22) := ⟨_, rfl⟩
  have hblk : W8.heap[w7.heap.size]? = some (.cells #[.slice Ap (m + 1) cp, .slice (some ⟨gq, 0, none⟩) (m + 1) cq, .slice Ap m cp, .slice A4 (m + 1 + 1) c4] 22 (0, 0)) := by rw [hW8]; exact heap_alloc_new w7 _
  have hB8 : Below w3.heap.size w3 W8 := by rw [hW8]; exact HB7.out.alloc HB7.out.size _
  have hCp8 : Kd.C (Kd.int .i64) W8 Ap (m + 1) p := by have h := Kd.C_below (Kd.R_reads' Ho3.out).2.2 hB8; rwa [hpl] at h
  have hCq8 : Kd.C (Kd.int .i64) W8 (some ⟨gq, 0, none⟩) (m + 1) (p.set j.toNat a4) := by rw [hW8]; exact Kd.C_alloc HCq.out _
  have hC48 : Kd.C (Kd.int .i64) W8 A4 (m + 1 + 1) (p.set j.toNat a4 ++ [0]) := by rw [hW8]; have h := Kd.C_alloc HC4.out (.cells #[.slice Ap (m + 1) cp, .slice (some ⟨gq, 0, none⟩) (m + 1) cq, .slice Ap m cp, .slice A4 (m + 1 + 1) c4] 22); rwa [List.length_append, hql] at h
  rw [List.length_append, hql] at hc4
  have hpc := Hpc.out
  have hV8 := Kd.V_below HV.out hB8
  obtain ⟨rows, hrows⟩ : ∃ rows, rows = [p, p.set j.toNat a4, p.take m, p.set j.toNat a4 ++ [0]] := ⟨_, rfl⟩
  have hat : ∀ i : Nat, i < 4 → ∃ A c xs, rows[i]? = some xs ∧ W8.cell? ⟨w7.heap.size, i, none⟩ = some (.slice A xs.length c) ∧ xs.length ≤ c ∧ Kd.C (Kd.int .i64) W8 A xs.length xs := by
    intro i hi
    rw [hrows]
    rcases Nat.lt_or_ge i 1 with h | h
    · obtain rfl : i = 0 := by omega
      exact ⟨Ap, cp, p, rfl, by rw [hpl]; exact (blk_cell hblk 0).trans rfl, by omega, by rw [hpl]; exact hCp8⟩
    · rcases Nat.lt_or_ge i 2 with h | h
      · obtain rfl : i = 1 := by omega
        exact ⟨_, cq, p.set j.toNat a4, rfl, by rw [hql]; exact (blk_cell hblk 1).trans rfl, by omega, by rw [hql]; exact hCq8⟩
      · rcases Nat.lt_or_ge i 3 with h | h
        · obtain rfl : i = 2 := by omega
          have hl : (p.take m).length = m := by rw [List.length_take]; omega
          exact ⟨Ap, cp, p.take m, rfl, by rw [hl]; exact (blk_cell hblk 2).trans rfl, by omega, by rw [hl]; exact C_takeI hCp8 m hpl (by omega) (by omega)⟩
        · obtain rfl : i = 3 := by omega
          have hl : (p.set j.toNat a4 ++ [0]).length = m + 1 + 1 := by rw [List.length_append, hql]; rfl
          exact ⟨A4, c4, _, rfl, by rw [hl]; exact (blk_cell hblk 3).trans rfl, by rw [hl]; exact hc4, by rw [hl]; exact hC48⟩
  have hgo : cbGo k ((m : Int) + 1) bs rows = some b := by
    have h := H5.out
    unfold cbAll at h
    rw [show ((m : Int) + 1 - 1).toNat = m from by omega] at h
    rw [hrows]; exact h
  have hrl : rows.length = 4 := by rw [hrows]; rfl
  have Hat := Aside0.mk hat
  have Hgo := Aside0.mk hgo
  have Hrl := Aside0.mk hrl
  have HV8 := Aside0.mk hV8
  have HB8 := Aside0.mk (HB3.out.trans (hB8.mono HB3.out.size))
  rw [← hW8]
  clear hW8 hblk hb8 hB8 hCp8 hCq8 hC48 hc4 hpc hV8 hrows hat hgo hrl HC4 HCq HB7 Hpc HV Ho3 HB3 H5 hcq hpl hql hwm hwm2 hmc hS0 hSn_
  generalize w7.heap.size = b7 at *
  have hbc : bs.length ≤ cb := (Kd.V_reads' HV8.out).2.1
  go_wp2
  go_loopw [16] (fun i wr => ∃ n : Nat, n ≤ 4 ∧ i = .int .i64 n ∧ Aside0 (cbGo k ((m : Int) + 1) bs (rows.drop n) = some b) ∧ Aside0 (Below W8.heap.size W8 wr)) (fun i _ => 4 - (intOf i).toNat)
  case atStart => exact ⟨0, by omega, rfl, Hgo, ⟨Below.refl _ _⟩⟩
  case round =>
    obtain ⟨n, hn, rfl, HG, HB⟩ := hrel
    by_cases hlt : n < 4
    · obtain ⟨A, c, xs, hxs, hcell, hxc, hC⟩ := Hat.out n hlt
      have hdrop : rows.drop n = xs :: rows.drop (n + 1) := by
        obtain ⟨h1, h2⟩ := List.getElem?_eq_some_iff.1 hxs
        rw [List.drop_eq_getElem_cons h1, h2]
      have hg := HG.out
      rw [hdrop] at hg
      simp only [cbGo] at hg
      obtain ⟨g, e1, hg⟩ := Option.bind_eq_some_iff.mp hg
      obtain ⟨⟨u1, u2⟩, e2, hg⟩ := Option.bind_eq_some_iff.mp hg
      obtain ⟨⟨v1, v2⟩, e3, hg⟩ := Option.bind_eq_some_iff.mp hg
      have hgv := fun W (hW : Below wr.heap.size wr W) => worldmintlaw28_given.calls k (fun _ => True) Ab cb bs g W (Kd.V_below (Kd.V_below HV8.out HB.out) hW) e1
      have hkeep : ∀ w', Below wr.heap.size wr w' → w'.cell? ⟨b7, n, none⟩ = some (.slice A xs.length c) := fun w' hb => by
        have hb1 := HB.out.trans (hb.mono HB.out.size)
        exact (hb1.cell (World.block_lt_of_cell? W8 _ hcell)).trans hcell
      have Hgv := Aside0.mk hgv
      have Hkeep := Aside0.mk hkeep
      have He2 := Aside0.mk e2
      have He3 := Aside0.mk e3
      have Hg := Aside0.mk hg
      have HC := Aside0.mk (fun W (hW : Below wr.heap.size wr W) => Kd.C_below (Kd.C_below hC HB.out) hW)
      have HCb := Aside0.mk (fun W (hW : Below wr.heap.size wr W) => Kd.C_below (Kd.C_below (Kd.V_reads' HV8.out).2.2 HB.out) hW)
      have hd : decide ((n : Int) < 4) = true := decide_eq_true (by omega)
      have hn0 : (0 : Int) ≤ (n : Int) := by omega
      have hn4 : (n : Int) < 4 := by omega
      clear hgv hkeep e1 e2 e3 hg hC hcell hdrop hxs HG
      go_upto_region 10 with (fail)
      refine wp_region_held_drew (S := fun w' => w'.cell? ⟨b7, n, none⟩ = some (.slice A xs.length c)) (by kernel_rfl) (Hkeep.out wr.drew (below_drew1 (Below.refl _ wr))) ?_
      intro hS0
      refine wpAnyH_take (i := 0) (v := ?_) rfl (by kernel_rfl) (by kernel_rfl) (by kernel_rfl) (fun _ _ _ h => h) (Or.inl ⟨by rfl, ?_⟩) (by assumption) ?_
      rotate_left
      · (intro w_ hSw_; (try dsimp only at hSw_); go_simp; try with_reducible rfl)
      try simp only [Act.put, List.getElem_toArray, List.getElem_cons_zero, List.getElem_cons_succ, List.setIfInBounds_toArray, List.set_cons_zero, List.set_cons_succ]
      refine wpAnyH_take (i := 1) (v := ?_) rfl (by kernel_rfl) (by kernel_rfl) (by kernel_rfl) (fun _ _ _ h => h) (Or.inl ⟨by rfl, ?_⟩) (by assumption) ?_
      rotate_left
      · (intro w_ hSw_; (try dsimp only at hSw_); go_simp; try with_reducible rfl)
      try simp only [Act.put, List.getElem_toArray, List.getElem_cons_zero, List.getElem_cons_succ, List.setIfInBounds_toArray, List.set_cons_zero, List.set_cons_succ]
      refine wpAnyH_take (i := 3) (v := ?_) rfl (by kernel_rfl) (by kernel_rfl) (by kernel_rfl) (fun _ _ _ h => h) (Or.inl ⟨by rfl, ?_⟩) (by assumption) ?_
      rotate_left
      · (intro w_ hSw_; (try dsimp only at hSw_); go_simp; try with_reducible rfl)
      try simp only [Act.put, List.getElem_toArray, List.getElem_cons_zero, List.getElem_cons_succ, List.setIfInBounds_toArray, List.set_cons_zero, List.set_cons_succ]
      refine wpAnyH_take (i := 4) (v := ?_) rfl (by kernel_rfl) (by kernel_rfl) (by kernel_rfl) (fun _ _ _ h => h) (Or.inl ⟨by rfl, ?_⟩) (by assumption) ?_
      rotate_left
      · (intro w_ hSw_; (try dsimp only at hSw_); go_simp; try with_reducible rfl)
      try simp only [Act.put, List.getElem_toArray, List.getElem_cons_zero, List.getElem_cons_succ, List.setIfInBounds_toArray, List.set_cons_zero, List.set_cons_succ]
      refine wpAnyH_take (i := 5) (v := ?_) rfl (by kernel_rfl) (by kernel_rfl) (by kernel_rfl) (fun _ _ _ h => h) (Or.inl ⟨by rfl, ?_⟩) (by assumption) ?_
      rotate_left
      · (intro w_ hSw_; (try dsimp only at hSw_); go_simp; try with_reducible rfl)
      try simp only [Act.put, List.getElem_toArray, List.getElem_cons_zero, List.getElem_cons_succ, List.setIfInBounds_toArray, List.set_cons_zero, List.set_cons_succ]
      refine wpAnyH_take (i := 6) (v := ?_) rfl (by kernel_rfl) (by kernel_rfl) (by kernel_rfl) (fun _ _ _ h => h) (Or.inl ⟨by rfl, ?_⟩) (by assumption) ?_
      rotate_left
      · (intro w_ hSw_; (try dsimp only at hSw_); go_simp; try with_reducible rfl)
      try simp only [Act.put, List.getElem_toArray, List.getElem_cons_zero, List.getElem_cons_succ, List.setIfInBounds_toArray, List.set_cons_zero, List.set_cons_succ]
      refine wpAnyH_ready (rs := [2]) (by kernel_rfl) (by simp) ?_
      refine AllReadyH.cons rfl (fun K hK => ?_) AllReadyH.nil
      go_simp
      refine (Hgv.out wr.drew (below_drew1 (Below.refl _ wr))).mono ?_
      rintro e w9 ⟨vg, rfl, hN9, hb9⟩
      have hB9 : Below wr.heap.size wr w9 := ⟨hb9.os, hb9.tape, hb9.output, hb9.size, hb9.block⟩
      obtain ⟨Ag, cg, eg⟩ := Kd.N_slice hN9
      subst eg
      refine hK.out _ _ (Hkeep.out w9 hB9) (fun hSn_ => ?_)
      clear hK K
      try simp only [Act.put, List.getElem_toArray, List.getElem_cons_zero, List.getElem_cons_succ, List.setIfInBounds_toArray, List.set_cons_zero, List.set_cons_succ]
      have hbc2 := clear_Bound.calls ((m : Int) + 1) Ag cg g A c xs u1 u2 w9 (Kd.N_reads' hN9).2.2 (Kd.N_reads' hN9).2.1 (HC.out w9 hB9) hxc He2.out
      have Hbc2 := Aside0.mk hbc2
      have HB9 := Aside0.mk hB9
      clear hbc2 hB9 hN9 hb9
      refine wpAnyH_ready (rs := [7]) (by kernel_rfl) (by simp) ?_
      refine AllReadyH.cons rfl (fun K hK => ?_) AllReadyH.nil
      go_simp
      refine Hbc2.out.mono ?_
      rintro e w10 ⟨rfl, hb10⟩
      have hB10 := HB9.out.trans (hb10.mono HB9.out.size)
      refine hK.out _ _ (Hkeep.out w10 hB10) (fun hSn_ => ?_)
      clear hK K
      try simp only [Act.put, List.getElem_toArray, List.getElem_cons_zero, List.getElem_cons_succ, List.setIfInBounds_toArray, List.set_cons_zero, List.set_cons_succ]
      have HB10 := Aside0.mk hB10
      clear hB10 hb10 Hbc2 HB9
      refine wpAnyH_take (i := 8) (v := ?_) rfl (by kernel_rfl) (by kernel_rfl) (by kernel_rfl) (fun _ _ _ h => h) (Or.inl ⟨by rfl, ?_⟩) (by assumption) ?_
      rotate_left
      · (intro w_ hSw_; (try dsimp only at hSw_); go_simp; try with_reducible rfl)
      try simp only [Act.put, List.getElem_toArray, List.getElem_cons_zero, List.getElem_cons_succ, List.setIfInBounds_toArray, List.set_cons_zero, List.set_cons_succ]
      refine wpAnyH_take (i := 9) (v := ?_) rfl (by kernel_rfl) (by kernel_rfl) (by kernel_rfl) (fun _ _ _ h => h) (Or.inl ⟨by rfl, ?_⟩) (by assumption) ?_
      rotate_left
      · (intro w_ hSw_; (try dsimp only at hSw_); go_simp; try with_reducible rfl)
      try simp only [Act.put, List.getElem_toArray, List.getElem_cons_zero, List.getElem_cons_succ, List.setIfInBounds_toArray, List.set_cons_zero, List.set_cons_succ]
      refine wpAnyH_take (i := 10) (v := ?_) rfl (by kernel_rfl) (by kernel_rfl) (by kernel_rfl) (fun _ _ _ h => h) (Or.inl ⟨by rfl, ?_⟩) (by assumption) ?_
      rotate_left
      · (intro w_ hSw_; (try dsimp only at hSw_); go_simp; try with_reducible rfl)
      try simp only [Act.put, List.getElem_toArray, List.getElem_cons_zero, List.getElem_cons_succ, List.setIfInBounds_toArray, List.set_cons_zero, List.set_cons_succ]
      refine wpAnyH_take (i := 11) (v := ?_) rfl (by kernel_rfl) (by kernel_rfl) (by kernel_rfl) (fun _ _ _ h => h) (Or.inl ⟨by rfl, ?_⟩) (by assumption) ?_
      rotate_left
      · (intro w_ hSw_; (try dsimp only at hSw_); go_simp; try with_reducible rfl)
      try simp only [Act.put, List.getElem_toArray, List.getElem_cons_zero, List.getElem_cons_succ, List.setIfInBounds_toArray, List.set_cons_zero, List.set_cons_succ]
      refine wpAnyH_take (i := 12) (v := ?_) rfl (by kernel_rfl) (by kernel_rfl) (by kernel_rfl) (fun _ _ _ h => h) (Or.inl ⟨by rfl, ?_⟩) (by assumption) ?_
      rotate_left
      · (intro w_ hSw_; (try dsimp only at hSw_); go_simp; try with_reducible rfl)
      try simp only [Act.put, List.getElem_toArray, List.getElem_cons_zero, List.getElem_cons_succ, List.setIfInBounds_toArray, List.set_cons_zero, List.set_cons_succ]
      refine wpAnyH_done (by kernel_rfl) ?_ _
      have hcell10 := Hkeep.out w10 HB10.out
      have hrb := worldmintref28_Bound.calls k ((m : Int) + 1) Ab cb bs A c xs v1 v2 w10 (HCb.out w10 HB10.out) hbc (HC.out w10 HB10.out) hxc He3.out
      have Hrb := Aside0.mk hrb
      clear hrb HC HCb Hkeep He2 He3 Hgv hS0 hSn_
      go_wp2_with fail
      refine Hrb.out.mono ?_
      rintro e w11 ⟨rfl, hb11⟩
      have HB11 := Aside0.mk (HB.out.trans ((HB10.out.trans (hb11.mono HB10.out.size)).mono HB.out.size))
      clear hb11 HB10 HB Hrb hcell10
      by_cases h2 : u2 = v2
      · subst h2
        have hne2 : (u2 != u2) = false := by simp
        by_cases h1 : u1 = v1
        · subst h1
          have hne1 : (u1 != u1) = false := by simp
          have Hg2 := Aside0.mk (show cbGo k ((m : Int) + 1) bs (rows.drop (n + 1)) = some b by have := Hg.out; rwa [if_pos rfl] at this)
          clear Hg
          go_wp2
          go_roundw
          case rel => exact ⟨n + 1, by omega, by go_num, Hg2, HB11⟩
          case measure => simp [intOf]; omega
        · have hne1 : (u1 != v1) = true := by simpa using h1
          have hb : b = false := by have := Hg.out; rw [if_neg (by simpa using h1)] at this; exact (Option.some.inj this).symm
          subst hb
          have hr := H.out
          rw [if_neg (by simp)] at hr
          obtain rfl := Option.some.inj hr
          clear hr h1
          go_wp2
          go_ret
          exact ⟨rfl, HB8.out.trans (HB11.out.mono HB8.out.size)⟩
      · have hne2 : (u2 != v2) = true := by simpa using h2
        have hb : b = false := by have := Hg.out; rw [if_neg (by simp [h2])] at this; exact (Option.some.inj this).symm
        subst hb
        have hr := H.out
        rw [if_neg (by simp)] at hr
        obtain rfl := Option.some.inj hr
        clear hr h2
        go_wp2
        go_ret
        exact ⟨rfl, HB8.out.trans (HB11.out.mono HB8.out.size)⟩
    · obtain rfl : n = 4 := by omega
      have hbt : b = true := by
        have h := HG.out
        rw [List.drop_eq_nil_of_le (by rw [Hrl.out]; omega)] at h
        exact (Option.some.inj h).symm
      subst hbt
      have hr := H.out
      rw [if_pos rfl] at hr
      have HBe := Aside0.mk (HB8.out.trans (HB.out.mono HB8.out.size))
      have Hr := Aside0.mk hr
      clear hr H HG HB
      go_wp2_with fail
      refine (worldmintlaw28_lives.calls k r wr Hr.out).mono ?_
      rintro e w12 ⟨rfl, hb12⟩
      have HBf := HBe.out.trans (hb12.mono HBe.out.size)
      go_wp2
      go_ret
      exact ⟨rfl, HBf⟩
end Go.Proofs.Ytecbfpcidoilmaa.H

/- Written by a program of this session over the kit's printer: what the functions named below compute, and that the machine's calls compute it. Not trusted: Lean checks it. -/
namespace Go.Proofs.Ytecbfpcidoilmaa.H
open Go.RowKit Go.Proofs.YtecbfpcidoilmaaW.PrintWords Go.Proofs.YtecbfpcidoilmaaW.PrintLast Go.Proofs.YtecbfpcidoilmaaW.PrintMore
attribute [local go_sem] max2_int min2_int max_two min_two max_three min_three max_four min_four   -- for this text's walks alone
set_option linter.unusedVariables false
set_option linter.unusedSimpArgs false

/-! ### worldmintlaw28_ClearBound: function 4 -/
/-- THE ONE PURE STATEMENT of worldmintlaw28_ClearBound: yours. -/
def worldmintlaw28_ClearBound.Pure : Prop := ∀ (a0 : Int) (l1 : List Int) (l2 : List Int) (a3 : Int) (a4 : Int), (Lit.int .i64 a0).wf = true → l1.length ≤ maxLen → l1.length * 8 ≤ 140737488351232 → (∀ x ∈ l1, (Lit.int .i64 x).wf = true) → l2.length ≤ maxLen → l2.length * 8 ≤ 140737488351232 → (∀ x ∈ l2, (Lit.int .i64 x).wf = true) → (Lit.int .i64 a3).wf = true → (Lit.int .i64 a4).wf = true → ∃ k, worldmintlaw28_ClearBound.f k a0 l1 l2 a3 a4 = some true
theorem worldmintlaw28_ClearBound.walk (P : worldmintlaw28_ClearBound.Pure) (a0 : Int) (a1 : Option Addr) (len1 cap1 : Nat) (z1 : List Int) (a2 : Option Addr) (len2 cap2 : Nat) (z2 : List Int) (a3 : Int) (a4 : Int) (w : World) (w0 : (Lit.int .i64 a0).wf = true) (w1 : (a1 = none ∧ len1 = 0 ∧ cap1 = 0 ∧ z1 = []) ∨ ∃ x, a1 = some x ∧ len1 ≤ cap1 ∧ cap1 ≤ maxLen ∧ z1.length = cap1 ∧ (∀ i, i < z1.length → w.cell? (x.add i) = some (.int .i64 (z1.getD i 0))) ∧ ∀ n ∈ z1, (Lit.int .i64 n).wf = true) (y1 : len1 * 8 ≤ 140737488351232) (w2 : (a2 = none ∧ len2 = 0 ∧ cap2 = 0 ∧ z2 = []) ∨ ∃ x, a2 = some x ∧ len2 ≤ cap2 ∧ cap2 ≤ maxLen ∧ z2.length = cap2 ∧ (∀ i, i < z2.length → w.cell? (x.add i) = some (.int .i64 (z2.getD i 0))) ∧ ∀ n ∈ z2, (Lit.int .i64 n).wf = true) (y2 : len2 * 8 ≤ 140737488351232) (w3 : (Lit.int .i64 a3).wf = true) (w4 : (Lit.int .i64 a4).wf = true) :
  Calls Try.prog 4 #[.int .i64 a0, .slice a1 len1 cap1, .slice a2 len2 cap2, .int .i64 a3, .int .i64 a4] w fun e w' => e = .returned (.bool true) ∧ Below w.heap.size w w' := by
 obtain ⟨l1, rfl, hr1, hm1, hw1, hc1⟩ := ReadsInt.ofRowC w1
 obtain ⟨l2, rfl, hr2, hm2, hw2, hc2⟩ := ReadsInt.ofRowC w2
 obtain ⟨k, h⟩ := P a0 l1 l2 a3 a4 w0 hm1 y1 hw1 hm2 y2 hw2 w3 w4
 refine (worldmintlaw28_ClearBound.calls k a0 _ _ l1 _ _ l2 a3 a4 true w (Kd.C_of_reads (d := (0 : Int)) (h1 := fun _ => rfl) hr1) hc1 (Kd.C_of_reads (d := (0 : Int)) (h1 := fun _ => rfl) hr2) hc2 h).mono ?_
 rintro e w' ⟨rfl, hd⟩
 exact ⟨rfl, hd⟩

end Go.Proofs.Ytecbfpcidoilmaa.H
