/- Texts of this claim, one behind the other. -/
import Derived.Test.YtdbpdkmnnlippaaMBidsValidb

/- Written by a program of this session over the kit's printer: what the functions named below compute, and that the machine's calls compute it. Not trusted: Lean checks it. -/
namespace Go.Proofs.Ytdbpdkmnnlippaa.H
open Go.RowKit Go.Proofs.YtdbpdkmnnlippaaW.PrintWords Go.Proofs.YtdbpdkmnnlippaaW.PrintLast Go.Proofs.YtdbpdkmnnlippaaW.PrintMore
attribute [local go_sem] max2_int min2_int max_two min_two max_three min_three max_four min_four   -- for this text's walks alone
set_option linter.unusedVariables false
set_option linter.unusedSimpArgs false

/-! ### worldmintlaw27_given: function 15 -/
def worldmintlaw27_given.l0 : Nat → List (S40) → List (S38) → Int → Option ((List (S38)))
 | 0, _, _, _ => none
 | k + 1, x0, x3, x4 => if x4 < (x0.length : Int) then (if 0 ≤ x4 then (if x3.length < 3518437208883 then (worldmintlaw27_given.l0 k x0 (x3 ++ [(⟨(rd_T40 x0 x4).f0, (rd_T40 x0 x4).f1, (rd_T40 x0 x4).f2⟩ : S38)]) (wrap64 (x4 + 1))) else (none)) else (none)) else (some x3)
def worldmintlaw27_given.f (k : Nat) (l0 : List (S40)) : Option ((List (S38))) := worldmintlaw27_given.l0 k l0 ([] : List (S38)) 0
def worldmintlaw27_given.T5 : Bool × List (List Nat × List Nat) := (true, [([], []), ([], []), ([], []), ([1, 2], [1, 2]), ([3], [3]), ([4], [4]), ([], []), ([], []), ([6, 7], [6, 7]), ([8], [8]), ([9], [9]), ([], []), ([], []), ([11, 12], [11, 12]), ([13], [13]), ([14], [14]), ([5, 10, 15], [5, 10, 15]), ([16], [16]), ([0, 17], [0, 17]), ([18, 18, 0, 1, 2, 3, 4, 5, 6, 7, 8, 9, 10, 11, 12, 13, 14, 15, 16, 17, 18], [0, 18])])
def worldmintlaw27_given.B5 : List Nat := [0, 0, 0, 6, 14, 30, 0, 0, 192, 448, 960, 0, 0, 6144, 14336, 30720, 65534, 131070, 262143, 524287]
theorem worldmintlaw27_given.tab5 : rtab .any (opsOf Try.f15 5) = worldmintlaw27_given.T5 := by kernel_rfl
theorem worldmintlaw27_given.bits5 : waitsOk worldmintlaw27_given.T5.2 worldmintlaw27_given.B5 = true := by kernel_rfl
set_option maxHeartbeats 8000000 in
set_option maxRecDepth 100000 in
theorem worldmintlaw27_given.calls (k : Nat) (P0_ : Nat → Prop) (A0 : Option Addr) (c0 : Nat) (l0 : List (S40)) (r : List (S38)) (w : World) (hs0 : Kd.V k40 40 w w.heap.size (fun k_ => P0_ k_) (.slice A0 l0.length c0) l0) (h : worldmintlaw27_given.f k l0 = some r) :
  Calls Try.prog 15 #[.slice A0 l0.length c0] w fun e w' => ∃ v0_ : Value, e = .returned (v0_) ∧ Kd.N k38 38 w' w.heap.size (fun k_ => (P0_ k_ ∨ w.heap.size ≤ k_)) v0_ r ∧ Below w.heap.size w w' := by
 have hu38 := Try.underlying38
 have HO0 := Aside0.mk (show Kd.V k40 40 w w.heap.size (fun k_ => (P0_ k_ ∨ w.heap.size ≤ k_)) (.slice A0 l0.length c0) l0 from Kd.V_mono hs0 (fun k_ hk => .inl hk))
 have HB := Aside0.mk (Below.refl w.heap.size w)
 have H : (worldmintlaw27_given.l0 k l0 ([] : List (S38)) 0) = some r := h
 clear h
 have H' := Aside0.mk H
 clear H
 go_enter Try.func15, Try.ntmps15
 go_wp2
 go_loopg [3, 4] k (fun kq v3 v4 w' => ∃ (x3_1 : List (S38)) (x4_1 : Int), v4 = .int .i64 x4_1 ∧ Aside0 (worldmintlaw27_given.l0 kq l0 x3_1 x4_1 = some r) ∧ Aside0 (kq ≤ k) ∧ Aside0 (Kd.V k40 40 w' w.heap.size (fun k_ => (P0_ k_ ∨ w.heap.size ≤ k_) ∧ some k_ ≠ (v3 : Value).ownBlock) (.slice A0 l0.length c0) l0) ∧ Aside0 (Kd.N k38 38 w' w.heap.size (fun k_ => (P0_ k_ ∨ w.heap.size ≤ k_)) v3 x3_1) ∧ Aside0 (Below w.heap.size w w'))
 case atStart => exact ⟨(([] : List (S38))), (0), (by first | rfl | (simp; done) | (simp [*]; done)), H', ⟨Nat.le_refl _⟩, ⟨by (with_reducible repeat (first | apply Kd.V_alloc | apply Kd.V_drewN | apply Kd.V_drew)); exact Kd.V_mono HO0.out (fun _ hk => ⟨hk, (by simp [Value.ownBlock])⟩)⟩, ⟨by first | exact Kd.S_nil _ _ _ _ _ | exact Kd.N_nil _ _ _ _ _ | exact Kd.V_nil _ _ _ _ _ | exact Kd.Q_nil _ _ _ _ _ | exact Kd.R_nil _ _ _ _ _⟩, ⟨by repeat (first | (with_reducible first | exact HB.out | apply below_alloc | apply pw_below_drewN | apply below_drew1) | exact HB.out)⟩⟩
 case round =>
  clear H'
  try clear c1
  obtain ⟨x3_1, x4_1, rfl, HA, HK1, HO_0, HO_3, HB⟩ := hrel
  cases gk with
  | zero => exact absurd HA.out (by simp [worldmintlaw27_given.l0])
  | succ k1 =>
   have H := HA.out
   clear HA
   simp only [worldmintlaw27_given.l0] at H
   by_cases c2 : x4_1 < (l0.length : Int)
   ·rw [if_pos c2] at H
    have c2b0 : decide (x4_1 < (l0.length : Int)) = true := decide_eq_true c2
    clear c2
    by_cases c3 : 0 ≤ x4_1
    ·rw [if_pos c3] at H
     have c3b0 : decide (0 ≤ x4_1) = true := decide_eq_true c3
     clear c3
     by_cases c4 : x3_1.length < 3518437208883
     ·rw [if_pos c4] at H
      have LMc4 := Aside0.mk c4
      clear c4
      obtain ⟨y151, hy151⟩ : ∃ y_ : List (S38), y_ = (x3_1 ++ [(⟨(rd_T40 l0 x4_1).f0, (rd_T40 l0 x4_1).f1, (rd_T40 l0 x4_1).f2⟩ : S38)]) := ⟨_, rfl⟩
      replace H : (worldmintlaw27_given.l0 k1 l0 y151 (wrap64 (x4_1 + 1))) = some r := by first | (rw [hy151]; with_reducible exact H) | (have H2_ := (Option.bind_some _ _).symm.trans H; rw [hy151]; with_reducible exact H2_) | (have H2_ := (Option.bind_some _ _).symm.trans H; with_reducible exact H2_) | with_reducible exact H | (rw [hy151]; exact H) | exact H
      have Ny151 := Aside0.mk hy151
      clear hy151
      have H' := Aside0.mk H
      clear H
      try go_wp2
      have n0_ := Aside0.mk (Kd.V_drew HO_0.out)
      have n1_ := Aside0.mk (Kd.N_drew HO_3.out)
      have n2_ := Aside0.mk (below_drew1 HB.out)
      clear HO_0
      clear HO_3
      clear HB
      have HO_0 := n0_
      have HO_3 := n1_
      have HB := n2_
      clear n0_ n1_ n2_
      have p148 : 0 ≤ (x4_1 : Int) := of_decide_eq_true (by first | (with_reducible assumption) | assumption)
      have q148 : x4_1 < (l0.length : Int) := of_decide_eq_true (by first | (with_reducible assumption) | assumption)
      obtain ⟨ad148, A148_2, c148_2, e148, hx148_0, hx148_1, hx148_2, hl148_2, hi148_2⟩ := at_T40 (Kd.V_reads' HO_0.out).2.2 x4_1 p148 q148
      cases e148
      obtain ⟨ce148, hce148, hMe148, hcc148⟩ := Kd.V_get HO_0.out z40 x4_1 p148 (by first | exact q148 | exact of_decide_eq_true (by first | (with_reducible assumption) | assumption) | (have e_ := (Kd.V_reads' HO_0.out).1; omega))
      obtain ⟨ua148_2, uc148_2, rfl, ul148_2, ge148_2⟩ := k40_openF hMe148
      have hv148_2 := hcc148 2 _ rfl
      rw [add_field _ _ 2 (by omega)] at hv148_2
      replace hv148_2 := Option.some.inj (hv148_2.symm.trans hx148_2)
      injection hv148_2 with hva_ hvn_ hvc_
      rw [hva_] at ge148_2
      rw [hvc_] at ul148_2
      have HL148_2 := Aside0.mk (show Kd.V (Kd.int .i64) 3 _ w.heap.size _ _ ((rd_T40 l0 x4_1).f2) from Kd.V_mk ul148_2 ge148_2)
      clear hva_ hvn_ hvc_ ge148_2 ul148_2
      clear hcc148 hce148
      have HR148_2 := Aside0.mk hi148_2
      have HC148_2 := Aside0.mk hl148_2
      clear hi148_2 hl148_2
      replace p148 := eq_true p148
      replace q148 := eq_true q148
      have p149 : 0 ≤ (x4_1 : Int) := of_decide_eq_true (by first | (with_reducible assumption) | assumption)
      have q149 : x4_1 < (l0.length : Int) := of_decide_eq_true (by first | (with_reducible assumption) | assumption)
      obtain ⟨ad149, A149_2, c149_2, e149, hx149_0, hx149_1, hx149_2, hl149_2, hi149_2⟩ := at_T40 (Kd.V_reads' HO_0.out).2.2 x4_1 p149 q149
      obtain rfl : ad148 = ad149 := (by injection e149)
      obtain ⟨ce149, hce149, hMe149, hcc149⟩ := Kd.V_get HO_0.out z40 x4_1 p149 (by first | exact q149 | exact of_decide_eq_true (by first | (with_reducible assumption) | assumption) | (have e_ := (Kd.V_reads' HO_0.out).1; omega))
      obtain ⟨ua149_2, uc149_2, rfl, ul149_2, ge149_2⟩ := k40_openF hMe149
      have hv149_2 := hcc149 2 _ rfl
      rw [add_field _ _ 2 (by omega)] at hv149_2
      replace hv149_2 := Option.some.inj (hv149_2.symm.trans hx149_2)
      injection hv149_2 with hva_ hvn_ hvc_
      rw [hva_] at ge149_2
      rw [hvc_] at ul149_2
      have HL149_2 := Aside0.mk (show Kd.V (Kd.int .i64) 3 _ w.heap.size _ _ ((rd_T40 l0 x4_1).f2) from Kd.V_mk ul149_2 ge149_2)
      clear hva_ hvn_ hvc_ ge149_2 ul149_2
      clear hcc149 hce149
      have HR149_2 := Aside0.mk hi149_2
      have HC149_2 := Aside0.mk hl149_2
      clear hi149_2 hl149_2
      replace p149 := eq_true p149
      replace q149 := eq_true q149
      have ea_ := Option.some.inj (hx148_2.symm.trans hx149_2)
      injection ea_ with ea_ en_ ec_
      subst ea_
      subst ec_
      clear en_
      have p150 : 0 ≤ (x4_1 : Int) := of_decide_eq_true (by first | (with_reducible assumption) | assumption)
      have q150 : x4_1 < (l0.length : Int) := of_decide_eq_true (by first | (with_reducible assumption) | assumption)
      obtain ⟨ad150, A150_2, c150_2, e150, hx150_0, hx150_1, hx150_2, hl150_2, hi150_2⟩ := at_T40 (Kd.V_reads' HO_0.out).2.2 x4_1 p150 q150
      obtain rfl : ad148 = ad150 := (by injection e150)
      obtain ⟨ce150, hce150, hMe150, hcc150⟩ := Kd.V_get HO_0.out z40 x4_1 p150 (by first | exact q150 | exact of_decide_eq_true (by first | (with_reducible assumption) | assumption) | (have e_ := (Kd.V_reads' HO_0.out).1; omega))
      obtain ⟨ua150_2, uc150_2, rfl, ul150_2, ge150_2⟩ := k40_openF hMe150
      have hv150_2 := hcc150 2 _ rfl
      rw [add_field _ _ 2 (by omega)] at hv150_2
      replace hv150_2 := Option.some.inj (hv150_2.symm.trans hx150_2)
      injection hv150_2 with hva_ hvn_ hvc_
      rw [hva_] at ge150_2
      rw [hvc_] at ul150_2
      have HL150_2 := Aside0.mk (show Kd.V (Kd.int .i64) 3 _ w.heap.size _ _ ((rd_T40 l0 x4_1).f2) from Kd.V_mk ul150_2 ge150_2)
      clear hva_ hvn_ hvc_ ge150_2 ul150_2
      clear hcc150 hce150
      have HR150_2 := Aside0.mk hi150_2
      have HC150_2 := Aside0.mk hl150_2
      clear hi150_2 hl150_2
      replace p150 := eq_true p150
      replace q150 := eq_true q150
      have ea_ := Option.some.inj (hx148_2.symm.trans hx150_2)
      injection ea_ with ea_ en_ ec_
      subst ea_
      subst ec_
      clear en_
      refine start_ (n := 20) (S := fun w' => w'.cell? (ad148.add ((x4_1).toNat * 3)) = some (.int .i64 ((rd_T40 l0 x4_1).f0)) ∧ w'.cell? ⟨(ad148.add ((x4_1).toNat * 3)).block, (ad148.add ((x4_1).toNat * 3)).off + 1, none⟩ = some (.int .i64 ((rd_T40 l0 x4_1).f1)) ∧ w'.cell? ⟨(ad148.add ((x4_1).toNat * 3)).block, (ad148.add ((x4_1).toNat * 3)).off + 2, none⟩ = some (.slice A148_2 ((rd_T40 l0 x4_1).f2).length c148_2) ∧ w'.cell? (ad148.add ((x4_1).toNat * 3)) = some (.int .i64 ((rd_T40 l0 x4_1).f0)) ∧ w'.cell? ⟨(ad148.add ((x4_1).toNat * 3)).block, (ad148.add ((x4_1).toNat * 3)).off + 1, none⟩ = some (.int .i64 ((rd_T40 l0 x4_1).f1)) ∧ w'.cell? ⟨(ad148.add ((x4_1).toNat * 3)).block, (ad148.add ((x4_1).toNat * 3)).off + 2, none⟩ = some (.slice A148_2 ((rd_T40 l0 x4_1).f2).length c148_2) ∧ w'.cell? (ad148.add ((x4_1).toNat * 3)) = some (.int .i64 ((rd_T40 l0 x4_1).f0)) ∧ w'.cell? ⟨(ad148.add ((x4_1).toNat * 3)).block, (ad148.add ((x4_1).toNat * 3)).off + 1, none⟩ = some (.int .i64 ((rd_T40 l0 x4_1).f1)) ∧ w'.cell? ⟨(ad148.add ((x4_1).toNat * 3)).block, (ad148.add ((x4_1).toNat * 3)).off + 2, none⟩ = some (.slice A148_2 ((rd_T40 l0 x4_1).f2).length c148_2)) (ds := [17, 18]) #[false, false, false, false, false, false, false, false, false, false, false, false, false, false, false, false, false, false, false, false] (by kernel_rfl) rfl rfl ⟨hx148_0, hx148_1, hx148_2, hx149_0, hx149_1, hx149_2, hx150_0, hx150_1, hx150_2⟩ (fun hHeld => ?_); refine with_tabW worldmintlaw27_given.tab5 worldmintlaw27_given.bits5 (fun HT_ HW_ => ?_)
      generalize wr.drew = w5 at HO_0 HO_3 HB HL148_2 HL149_2 HL150_2 HR148_2 HR149_2 HR150_2 hx148_0 hx148_1 hx148_2 hx149_0 hx149_1 hx149_2 hx150_0 hx150_1 hx150_2 hHeld ⊢
      refine pure_ (i := 0) (N := some 11) (v := ?_) (a' := ?_) #[true, false, false, false, false, false, false, false, false, false, false, false, false, false, false, false, false, false, false, false] rfl rfl (any_of HT_.out (by kernel_rfl)) (fun _ _ _ h => h) (Or.inl ⟨by rfl, ?_⟩) ?_ ?_
      rotate_left
      ·intro w'
       go_simp
       with_reducible rfl
      rotate_left
      ·simp only [Act.put, List.setIfInBounds_toArray, List.set_cons_zero, List.set_cons_succ, i64_w, i32_w]
       rfl
      refine pure_ (i := 1) (N := some 12) (v := ?_) (a' := ?_) #[true, true, false, false, false, false, false, false, false, false, false, false, false, false, false, false, false, false, false, false] rfl rfl (any_of HT_.out (by kernel_rfl)) (fun _ _ _ h => h) (Or.inl ⟨by rfl, ?_⟩) ?_ ?_
      rotate_left
      ·intro w'
       go_simp
       with_reducible rfl
      rotate_left
      ·simp only [Act.put, List.setIfInBounds_toArray, List.set_cons_zero, List.set_cons_succ, i64_w, i32_w]
       rfl
      refine pure_ (i := 2) (N := some 13) (v := ?_) (a' := ?_) #[true, true, true, false, false, false, false, false, false, false, false, false, false, false, false, false, false, false, false, false] rfl rfl (any_of HT_.out (by kernel_rfl)) (fun _ _ _ h => h) (Or.inl ⟨by rfl, ?_⟩) ?_ ?_
      rotate_left
      ·intro w'
       go_simp
       with_reducible rfl
      rotate_left
      ·simp only [Act.put, List.setIfInBounds_toArray, List.set_cons_zero, List.set_cons_succ, i64_w, i32_w]
       rfl
      refine pure_ (i := 3) (N := some 14) (v := ?_) (a' := ?_) #[true, true, true, true, false, false, false, false, false, false, false, false, false, false, false, false, false, false, false, false] rfl rfl (any_of HT_.out (by kernel_rfl)) (fun _ _ _ h => h) (Or.inl ⟨by rfl, ?_⟩) ?_ ?_
      rotate_left
      ·intro w'
       go_simp
       with_reducible rfl
      rotate_left
      ·simp only [Act.put, List.setIfInBounds_toArray, List.set_cons_zero, List.set_cons_succ, i64_w, i32_w]
       rfl
      refine pure_ (i := 4) (N := some 15) (v := ?_) (a' := ?_) #[true, true, true, true, true, false, false, false, false, false, false, false, false, false, false, false, false, false, false, false] rfl rfl (any_of HT_.out (by kernel_rfl)) (fun _ _ _ h => h) (Or.inl ⟨by rfl, ?_⟩) ?_ ?_
      rotate_left
      ·intro w'
       go_simp
       with_reducible rfl
      rotate_left
      ·simp only [Act.put, List.setIfInBounds_toArray, List.set_cons_zero, List.set_cons_succ, i64_w, i32_w]
       rfl
      refine pure_ (i := 6) (N := some 17) (v := ?_) (a' := ?_) #[true, true, true, true, true, false, true, false, false, false, false, false, false, false, false, false, false, false, false, false] rfl rfl (any_of HT_.out (by kernel_rfl)) (fun _ _ _ h => h) (Or.inl ⟨by rfl, ?_⟩) ?_ ?_
      rotate_left
      ·intro w'
       go_simp
       with_reducible rfl
      rotate_left
      ·simp only [Act.put, List.setIfInBounds_toArray, List.set_cons_zero, List.set_cons_succ, i64_w, i32_w]
       rfl
      refine pure_ (i := 7) (N := some 18) (v := ?_) (a' := ?_) #[true, true, true, true, true, false, true, true, false, false, false, false, false, false, false, false, false, false, false, false] rfl rfl (any_of HT_.out (by kernel_rfl)) (fun _ _ _ h => h) (Or.inl ⟨by rfl, ?_⟩) ?_ ?_
      rotate_left
      ·intro w'
       go_simp
       with_reducible rfl
      rotate_left
      ·simp only [Act.put, List.setIfInBounds_toArray, List.set_cons_zero, List.set_cons_succ, i64_w, i32_w]
       rfl
      refine pure_ (i := 8) (N := some 19) (v := ?_) (a' := ?_) #[true, true, true, true, true, false, true, true, true, false, false, false, false, false, false, false, false, false, false, false] rfl rfl (any_of HT_.out (by kernel_rfl)) (fun _ _ _ h => h) (Or.inl ⟨by rfl, ?_⟩) ?_ ?_
      rotate_left
      ·intro w'
       go_simp
       with_reducible rfl
      rotate_left
      ·simp only [Act.put, List.setIfInBounds_toArray, List.set_cons_zero, List.set_cons_succ, i64_w, i32_w]
       rfl
      refine pure_ (i := 9) (N := some 20) (v := ?_) (a' := ?_) #[true, true, true, true, true, false, true, true, true, true, false, false, false, false, false, false, false, false, false, false] rfl rfl (any_of HT_.out (by kernel_rfl)) (fun _ _ _ h => h) (Or.inl ⟨by rfl, ?_⟩) ?_ ?_
      rotate_left
      ·intro w'
       go_simp
       with_reducible rfl
      rotate_left
      ·simp only [Act.put, List.setIfInBounds_toArray, List.set_cons_zero, List.set_cons_succ, i64_w, i32_w]
       rfl
      refine pure_ (i := 11) (N := some 22) (v := ?_) (a' := ?_) #[true, true, true, true, true, false, true, true, true, true, false, true, false, false, false, false, false, false, false, false] rfl rfl (any_of HT_.out (by kernel_rfl)) (fun _ _ _ h => h) (Or.inl ⟨by rfl, ?_⟩) ?_ ?_
      rotate_left
      ·intro w'
       go_simp
       with_reducible rfl
      rotate_left
      ·simp only [Act.put, List.setIfInBounds_toArray, List.set_cons_zero, List.set_cons_succ, i64_w, i32_w]
       rfl
      refine pure_ (i := 12) (N := some 23) (v := ?_) (a' := ?_) #[true, true, true, true, true, false, true, true, true, true, false, true, true, false, false, false, false, false, false, false] rfl rfl (any_of HT_.out (by kernel_rfl)) (fun _ _ _ h => h) (Or.inl ⟨by rfl, ?_⟩) ?_ ?_
      rotate_left
      ·intro w'
       go_simp
       with_reducible rfl
      rotate_left
      ·simp only [Act.put, List.setIfInBounds_toArray, List.set_cons_zero, List.set_cons_succ, i64_w, i32_w]
       rfl
      refine pure_ (i := 13) (N := some 24) (v := ?_) (a' := ?_) #[true, true, true, true, true, false, true, true, true, true, false, true, true, true, false, false, false, false, false, false] rfl rfl (any_of HT_.out (by kernel_rfl)) (fun _ _ _ h => h) (Or.inl ⟨by rfl, ?_⟩) ?_ ?_
      rotate_left
      ·intro w'
       go_simp
       with_reducible rfl
      rotate_left
      ·simp only [Act.put, List.setIfInBounds_toArray, List.set_cons_zero, List.set_cons_succ, i64_w, i32_w]
       rfl
      refine pure_ (i := 14) (N := some 25) (v := ?_) (a' := ?_) #[true, true, true, true, true, false, true, true, true, true, false, true, true, true, true, false, false, false, false, false] rfl rfl (any_of HT_.out (by kernel_rfl)) (fun _ _ _ h => h) (Or.inl ⟨by rfl, ?_⟩) ?_ ?_
      rotate_left
      ·intro w'
       go_simp
       with_reducible rfl
      rotate_left
      ·simp only [Act.put, List.setIfInBounds_toArray, List.set_cons_zero, List.set_cons_succ, i64_w, i32_w]
       rfl
      refine take_ (i := 5) (N := some 16) (v := ?_) (a' := ?_) #[true, true, true, true, true, true, true, true, true, true, false, true, true, true, true, false, false, false, false, false] rfl rfl (take_ofW HT_.out HW_.out (by kernel_rfl)) (fun _ _ _ h => h) (Or.inl ⟨by rfl, ?_⟩) hHeld ?_ ?_
      rotate_left
      ·rintro w' ⟨s0, s1, s2, s3, s4, s5, s6, s7, s8⟩
       go_simp
       with_reducible rfl
      rotate_left
      ·simp only [Act.put, List.setIfInBounds_toArray, List.set_cons_zero, List.set_cons_succ, i64_w, i32_w]
       rfl
      refine take_ (i := 10) (N := some 21) (v := ?_) (a' := ?_) #[true, true, true, true, true, true, true, true, true, true, true, true, true, true, true, false, false, false, false, false] rfl rfl (take_ofW HT_.out HW_.out (by kernel_rfl)) (fun _ _ _ h => h) (Or.inl ⟨by rfl, ?_⟩) hHeld ?_ ?_
      rotate_left
      ·rintro w' ⟨s0, s1, s2, s3, s4, s5, s6, s7, s8⟩
       go_simp
       with_reducible rfl
      rotate_left
      ·simp only [Act.put, List.setIfInBounds_toArray, List.set_cons_zero, List.set_cons_succ, i64_w, i32_w]
       rfl
      refine take_ (i := 15) (N := some 26) (v := ?_) (a' := ?_) #[true, true, true, true, true, true, true, true, true, true, true, true, true, true, true, true, false, false, false, false] rfl rfl (take_ofW HT_.out HW_.out (by kernel_rfl)) (fun _ _ _ h => h) (Or.inl ⟨by rfl, ?_⟩) hHeld ?_ ?_
      rotate_left
      ·rintro w' ⟨s0, s1, s2, s3, s4, s5, s6, s7, s8⟩
       go_simp
       with_reducible rfl
      rotate_left
      ·simp only [Act.put, List.setIfInBounds_toArray, List.set_cons_zero, List.set_cons_succ, i64_w, i32_w]
       rfl
      refine pure_ (i := 16) (N := some 27) (v := ?_) (a' := ?_) #[true, true, true, true, true, true, true, true, true, true, true, true, true, true, true, true, true, false, false, false] rfl rfl (any_of HT_.out (by kernel_rfl)) (fun _ _ _ h => h) (Or.inl ⟨by rfl, ?_⟩) ?_ ?_
      rotate_left
      ·intro w'
       go_simp
       with_reducible rfl
      rotate_left
      ·simp only [Act.put, List.setIfInBounds_toArray, List.set_cons_zero, List.set_cons_succ, i64_w, i32_w]
       rfl
      refine last_ (i := 17) (N := some 28) #[true, true, true, true, true, true, true, true, true, true, true, true, true, true, true, true, true, true, false, false] rfl rfl (one_of HT_.out (by kernel_rfl)) (by decide) (fun K hK => ?_)
      refine value_ (w1 := ?_) (v := ?_) (by rfl) rfl ?_ ?_
      rotate_left 2
      ·go_simp
       constructor
       ·rfl
       ·rfl
      refine hK.out _ _ ?_
      clear hK K
      refine norm_ (a' := ?_) ?_ ?_
      rotate_left
      ·show Act.put _ (some 28) _ = _
       simp only [Act.put, List.setIfInBounds_toArray, List.set_cons_zero, List.set_cons_succ, i64_w, i32_w]
       rfl
      refine last_ (i := 18) (N := some 29) #[true, true, true, true, true, true, true, true, true, true, true, true, true, true, true, true, true, true, true, false] rfl rfl (one_of HT_.out (by kernel_rfl)) (by decide) (fun K hK => ?_)
      refine Kd.N_append_step k38 (w0 := w) w.heap.size (by rfl) (.tmp 11) (.tmp 28) 31 38 (.agg #[(.int .i64 0), (.int .i64 0), (.slice none 0 0)]) 40 rfl Try.underlying31 info38 rfl (by decide) (by omega) u3 x3_1 (⟨(rd_T40 l0 x4_1).f0, (rd_T40 l0 x4_1).f1, (rd_T40 l0 x4_1).f2⟩ : S38) [.int .i64 ((rd_T40 l0 x4_1).f0), .int .i64 ((rd_T40 l0 x4_1).f1), .slice A148_2 ((rd_T40 l0 x4_1).f2).length c148_2] (fun k_ => (P0_ k_ ∨ w.heap.size ≤ k_)) (fun k_ => ((fun k_ => (P0_ k_ ∨ w.heap.size ≤ k_))) k_ ∧ some k_ ≠ (u3 : Value).ownBlock) rfl rfl ?aP (fun _ hk => hk) ?aF ?aO ?aB ?aS ?aL ?_
      (case aP => exact (k38_mkF _ _ (⟨(rd_T40 l0 x4_1).f0, (rd_T40 l0 x4_1).f1, (rd_T40 l0 x4_1).f2⟩ : S38) (Kd.V_reads' (Kd.V_mono (ok' := (fun k_ => ((fun k_ => (P0_ k_ ∨ w.heap.size ≤ k_))) k_ ∧ some k_ ≠ (u3 : Value).ownBlock)) (HL150_2.out) (fun k_ hk => ⟨hk.1, hk.2⟩))).2.1 (Kd.V_F (Kd.V_mono (ok' := (fun k_ => ((fun k_ => (P0_ k_ ∨ w.heap.size ≤ k_))) k_ ∧ some k_ ≠ (u3 : Value).ownBlock)) (HL150_2.out) (fun k_ hk => ⟨hk.1, hk.2⟩)))))
      (case aB => exact (by repeat (first | (with_reducible first | exact HB.out | apply below_alloc | apply pw_below_drewN | apply below_drew1) | exact HB.out)))
      (case aF => exact (fun k_ hk => (.inr (Nat.le_trans (below_size (by repeat (first | (with_reducible first | exact HB.out | apply below_alloc | apply pw_below_drewN | apply below_drew1) | exact HB.out))) hk))))
      (case aO => exact (by (with_reducible repeat (first | apply Kd.N_alloc | apply Kd.N_drewN | apply Kd.N_drew)); exact HO_3.out))
      (case aS => exact (below_size (by repeat (first | (with_reducible first | exact HB.out | apply below_alloc | apply pw_below_drewN | apply below_drew1) | exact HB.out))))
      (case aL => have := LMc4.out; omega)
      intro v152 w6 ho hb hg hat
      rw [← Ny151.out] at ho
      have n0_ := Aside0.mk (Kd.V_afterv (ok := (fun k_ => (P0_ k_ ∨ w.heap.size ≤ k_))) (by (with_reducible repeat (first | apply Kd.V_alloc | apply Kd.V_drewN | apply Kd.V_drew)); exact HO_0.out) hg hat)
      have n1_ := Aside0.mk (Kd.V_afterv (ok := (fun k_ => (P0_ k_ ∨ w.heap.size ≤ k_))) (by (with_reducible repeat (first | apply Kd.V_alloc | apply Kd.V_drewN | apply Kd.V_drew)); exact HL148_2.out) hg hat)
      have n2_ := Aside0.mk (Kd.V_afterv (ok := (fun k_ => (P0_ k_ ∨ w.heap.size ≤ k_))) (by (with_reducible repeat (first | apply Kd.V_alloc | apply Kd.V_drewN | apply Kd.V_drew)); exact HL149_2.out) hg hat)
      have n3_ := Aside0.mk (Kd.V_afterv (ok := (fun k_ => (P0_ k_ ∨ w.heap.size ≤ k_))) (by (with_reducible repeat (first | apply Kd.V_alloc | apply Kd.V_drewN | apply Kd.V_drew)); exact HL150_2.out) hg hat)
      have n4_ := Aside0.mk (hb)
      have n5_ := Aside0.mk (ho)
      clear HO_0
      clear HL148_2
      clear HL149_2
      clear HL150_2
      clear HB
      clear HO_3
      have HO_0 := n0_
      have HL148_2 := n1_
      have HL149_2 := n2_
      have HL150_2 := n3_
      have HB := n4_
      have HO153 := n5_
      clear n0_ n1_ n2_ n3_ n4_ n5_
      clear ho hb hg hat
      refine hK.out _ _ ?_
      clear hK K
      refine norm_ (a' := ?_) ?_ ?_
      rotate_left
      ·show Act.put _ (some 29) _ = _
       simp only [Act.put, List.setIfInBounds_toArray, List.set_cons_zero, List.set_cons_succ, i64_w, i32_w]
       rfl
      refine pure_ (i := 19) (N := some 3) (v := ?_) (a' := ?_) #[true, true, true, true, true, true, true, true, true, true, true, true, true, true, true, true, true, true, true, true] rfl rfl (any_of HT_.out (by kernel_rfl)) (fun _ _ _ h => h) (Or.inl ⟨by rfl, ?_⟩) ?_ ?_
      rotate_left
      ·intro w'
       go_simp
       with_reducible rfl
      rotate_left
      ·simp only [Act.put, List.setIfInBounds_toArray, List.set_cons_zero, List.set_cons_succ, i64_w, i32_w]
       rfl
      refine done_ (done_of HT_.out (by kernel_rfl)) ?_
      try go_wp2
      go_roundg k1
      case measure => have := HK1.out; omega
      case rel => exact ⟨(y151), (wrap64 (x4_1 + 1)), (by first | rfl | (simp; done) | (simp [*]; done)), H', ⟨by have := HK1.out; omega⟩, ⟨by (with_reducible repeat (first | apply Kd.V_alloc | apply Kd.V_drewN | apply Kd.V_drew)); exact HO_0.out⟩, ⟨by (with_reducible repeat (first | apply Kd.N_alloc | apply Kd.N_drewN | apply Kd.N_drew)); exact HO153.out⟩, ⟨by repeat (first | (with_reducible first | exact HB.out | apply below_alloc | apply pw_below_drewN | apply below_drew1) | exact HB.out)⟩⟩
     ·rw [if_neg c4] at H
      exact absurd H (by simp)
    ·rw [if_neg c3] at H
     exact absurd H (by simp)
   ·rw [if_neg c2] at H
    have c2b0 : decide (x4_1 < (l0.length : Int)) = false := decide_eq_false c2
    clear c2
    obtain rfl := Option.some.inj H
    go_wp2
    go_ret
    exact ⟨_, by first | rfl | (simp [errW_none, errW_some] <;> rfl) | (simp [*, errW_none, errW_some] <;> rfl), by (with_reducible repeat (first | apply Kd.N_alloc | apply Kd.N_drewN | apply Kd.N_drew)); exact HO_3.out, by repeat (first | (with_reducible first | exact HB.out | apply below_alloc | apply pw_below_drewN | apply below_drew1) | exact HB.out)⟩

end Go.Proofs.Ytdbpdkmnnlippaa.H

/- Written by a program of this session over the kit's printer: what the functions named below compute, and that the machine's calls compute it. Not trusted: Lean checks it. -/
namespace Go.Proofs.Ytdbpdkmnnlippaa.H
open Go.RowKit Go.Proofs.YtdbpdkmnnlippaaW.PrintWords Go.Proofs.YtdbpdkmnnlippaaW.PrintLast Go.Proofs.YtdbpdkmnnlippaaW.PrintMore
attribute [local go_sem] max2_int min2_int max_two min_two max_three min_three max_four min_four   -- for this text's walks alone
set_option linter.unusedVariables false
set_option linter.unusedSimpArgs false

/-! ### worldmintref27_Valid: function 16 -/
mutual
def worldmintref27_Valid.j0 : Nat → Int → List (S40) → Bool → Option (Int)
 | 0, _, _, _ => none
 | k + 1, x0, x1, x13 => if x13 = true then (some 5) else (if (x1.length : Int) > 10 then (some 4) else (worldmintref27_Valid.l0 k x0 x1 0))
def worldmintref27_Valid.l0 : Nat → Int → List (S40) → Int → Option (Int)
 | 0, _, _, _ => none
 | k + 1, x0, x1, x5 => if x5 < (x1.length : Int) then (if 0 ≤ x5 then (if ((rd_T40 x1 x5).f0) < 1 then (worldmintref27_Valid.j2 k x0 x1 x5 true ((rd_T40 x1 x5).f0) ((rd_T40 x1 x5).f1) ((rd_T40 x1 x5).f2)) else (worldmintref27_Valid.j2 k x0 x1 x5 (decide (((rd_T40 x1 x5).f0) > 1073741824)) ((rd_T40 x1 x5).f0) ((rd_T40 x1 x5).f1) ((rd_T40 x1 x5).f2))) else (none)) else (some 0)
def worldmintref27_Valid.j2 : Nat → Int → List (S40) → Int → Bool → Int → Int → List Int → Option (Int)
 | 0, _, _, _, _, _, _, _ => none
 | k + 1, x0, x1, x5, x34, x156000, x156001, x156002 => if x34 = true then (some 1) else (if x156001 < 1 then (worldmintref27_Valid.j3 k x0 x1 x5 true x156000 x156001 x156002) else (worldmintref27_Valid.j3 k x0 x1 x5 (decide (x156001 > 1099511627776)) x156000 x156001 x156002))
def worldmintref27_Valid.j3 : Nat → Int → List (S40) → Int → Bool → Int → Int → List Int → Option (Int)
 | 0, _, _, _, _, _, _, _ => none
 | k + 1, x0, x1, x5, x42, x156000, x156001, x156002 => if x42 = true then (some 5) else (if (x156002.length : Int) = 0 then (some 1) else (worldmintref27_Valid.l1 k x0 x1 x5 0 x156000 x156001 x156002))
def worldmintref27_Valid.l1 : Nat → Int → List (S40) → Int → Int → Int → Int → List Int → Option (Int)
 | 0, _, _, _, _, _, _, _ => none
 | k + 1, x0, x1, x5, x7, x156000, x156001, x156002 => if x7 < (x156002.length : Int) then (if 0 ≤ x7 then (if (rd x156002 x7) < 0 then (some 1) else (if (rd x156002 x7) ≥ x0 then (some 1) else (if x7 > 0 then (if 0 ≤ (wrap64 (x7 - 1)) then (if (wrap64 (x7 - 1)) < (x156002.length : Int) then (if (rd x156002 x7) ≤ (rd x156002 (wrap64 (x7 - 1))) then (some 1) else (worldmintref27_Valid.l1 k x0 x1 x5 (wrap64 (x7 + 1)) x156000 x156001 x156002)) else (none)) else (none)) else (worldmintref27_Valid.l1 k x0 x1 x5 (wrap64 (x7 + 1)) x156000 x156001 x156002)))) else (none)) else (worldmintref27_Valid.l0 k x0 x1 (wrap64 (x5 + 1)))
end
def worldmintref27_Valid.f (k : Nat) (a0 : Int) (l1 : List (S40)) : Option (Int) := if a0 < 1 then (worldmintref27_Valid.j0 k a0 l1 true) else (worldmintref27_Valid.j0 k a0 l1 (decide (a0 > 8)))
set_option maxHeartbeats 8000000 in
set_option maxRecDepth 100000 in
theorem worldmintref27_Valid.calls (k : Nat) (a0 : Int) (A1 : Option Addr) (c1 : Nat) (l1 : List (S40)) (r : Int) (w : World) (hr1 : Kd.C k40 w A1 l1.length l1) (hc1 : l1.length ≤ c1) (h : worldmintref27_Valid.f k a0 l1 = some r) :
  Calls Try.prog 16 #[.int .i64 a0, .slice A1 l1.length c1] w fun e w' => e = .returned (.int .i64 r) ∧ Below w.heap.size w w' := by
 have hu40 := Try.underlying40
 have HR1 := Aside0.mk hr1
 have HC1 := Aside0.mk hc1
 clear hr1 hc1
 have HB := Aside0.mk (Below.refl w.heap.size w)
 have H : (if a0 < 1 then (worldmintref27_Valid.j0 k a0 l1 true) else (worldmintref27_Valid.j0 k a0 l1 (decide (a0 > 8)))) = some r := h
 clear h
 have HC3 := Aside0.mk H
 clear H
 go_enter Try.func16, Try.ntmps16
 go_upto_region 1 with (fail)
 repeat (go_quiet (fail); go_upto_region 1 with (fail))
 go_cut [13] (fun v13 wc => ∃ (kq : Nat) (x13_2 : Bool), v13 = .bool x13_2 ∧ Aside0 (worldmintref27_Valid.j0 kq a0 l1 x13_2 = some r) ∧ Aside0 (kq ≤ k) ∧ Aside0 (Below w.heap.size w wc))
 case first =>
  have H := HC3.out
  clear HC3
  by_cases c4 : a0 < 1
  ·rw [if_pos c4] at H
   have c4b0 : decide (a0 < 1) = true := decide_eq_true c4
   clear c4
   (first | rw [c4b0] | (simp only [i64_w, i32_w]; rw [c4b0]) | skip)
   have H' := Aside0.mk H
   clear H
   go_wp2
   repeat (go_quiet (fail); try go_wp2)
   go_meet
   case rel => exact ⟨_, (true), (by first | rfl | (simp; done) | (simp [*]; done)), H', ⟨by first | omega | exact Nat.le_refl _⟩, ⟨by repeat (first | (with_reducible first | exact HB.out | apply below_alloc | apply pw_below_drewN | apply below_drew1) | exact HB.out)⟩⟩
  ·rw [if_neg c4] at H
   have c4b0 : decide (a0 < 1) = false := decide_eq_false c4
   clear c4
   (first | rw [c4b0] | (simp only [i64_w, i32_w]; rw [c4b0]) | skip)
   have H' := Aside0.mk H
   clear H
   go_wp2
   repeat (go_quiet (fail); try go_wp2)
   go_meet
   case rel => exact ⟨_, (decide (a0 > 8)), (by first | rfl | (simp; done) | (simp [*]; done)), H', ⟨by first | omega | exact Nat.le_refl _⟩, ⟨by repeat (first | (with_reducible first | exact HB.out | apply below_alloc | apply pw_below_drewN | apply below_drew1) | exact HB.out)⟩⟩
 case rest =>
  clear HC3
  try clear c1
  try clear p2
  try clear c4
  try clear c4b0
  obtain ⟨kq, x13_2, rfl, HA, HJ2, HB⟩ := hcut
  cases kq with
  | zero => exact absurd HA.out (by simp [worldmintref27_Valid.j0])
  | succ kj2 =>
   have H := HA.out
   clear HA
   simp only [worldmintref27_Valid.j0] at H
   by_cases c5 : x13_2 = true
   ·subst c5
    have H1 : (some 5) = some r := by rw [if_pos rfl] at H; exact H
    clear H
    have H := H1
    clear H1
    obtain rfl := Option.some.inj H
    go_wp2
    repeat (go_quiet (fail); try go_wp2)
    go_ret
    exact ⟨by first | rfl | (simp [errW_none, errW_some] <;> rfl) | (simp [*, errW_none, errW_some] <;> rfl), by repeat (first | (with_reducible first | exact HB.out | apply below_alloc | apply pw_below_drewN | apply below_drew1) | exact HB.out)⟩
   ·replace c5 := Bool.eq_false_iff.mpr c5
    subst c5
    have H1 : (if (l1.length : Int) > 10 then (some 4) else (worldmintref27_Valid.l0 kj2 a0 l1 0)) = some r := by rw [if_neg (show ¬ (false = true) by decide)] at H; exact H
    clear H
    have H := H1
    clear H1
    by_cases c6 : (l1.length : Int) > 10
    ·rw [if_pos c6] at H
     have c6b0 : decide (10 < (l1.length : Int)) = true := decide_eq_true c6
     have c6b1 : decide (10 < l1.length) = true := decide_eq_true (by omega)
     clear c6
     obtain rfl := Option.some.inj H
     go_wp2
     repeat (go_quiet (fail); try go_wp2)
     go_ret
     exact ⟨by first | rfl | (simp [errW_none, errW_some] <;> rfl) | (simp [*, errW_none, errW_some] <;> rfl), by repeat (first | (with_reducible first | exact HB.out | apply below_alloc | apply pw_below_drewN | apply below_drew1) | exact HB.out)⟩
    ·rw [if_neg c6] at H
     have c6b0 : decide (10 < (l1.length : Int)) = false := decide_eq_false c6
     have c6b1 : decide (10 < l1.length) = false := decide_eq_false (by omega)
     clear c6
     have H' := Aside0.mk H
     clear H
     go_wp2
     repeat (go_quiet (fail); try go_wp2)
     go_loopg [5] kj2 (fun kq v5 w' => ∃ (x5_2 : Int), v5 = .int .i64 x5_2 ∧ Aside0 (worldmintref27_Valid.l0 kq a0 l1 x5_2 = some r) ∧ Aside0 (kq ≤ kj2) ∧ Aside0 (Below w.heap.size w w'))
     case atStart => exact ⟨(0), (by first | rfl | (simp; done) | (simp [*]; done)), H', ⟨Nat.le_refl _⟩, ⟨by repeat (first | (with_reducible first | exact HB.out | apply below_alloc | apply pw_below_drewN | apply below_drew1) | exact HB.out)⟩⟩
     case round =>
      clear H'
      try clear c1
      try clear p2
      try clear c4
      try clear c4b0
      try clear c5
      try clear c6
      try clear c6b0
      try clear c6b1
      try clear p2
      obtain ⟨x5_2, rfl, HA, HK2, HB⟩ := hrel
      cases gk with
      | zero => exact absurd HA.out (by simp [worldmintref27_Valid.l0])
      | succ k2 =>
       have H := HA.out
       clear HA
       simp only [worldmintref27_Valid.l0] at H
       by_cases c7 : x5_2 < (l1.length : Int)
       ·rw [if_pos c7] at H
        have c7b0 : decide (x5_2 < (l1.length : Int)) = true := decide_eq_true c7
        clear c7
        by_cases c8 : 0 ≤ x5_2
        ·rw [if_pos c8] at H
         have c8b0 : decide (0 ≤ x5_2) = true := decide_eq_true c8
         clear c8
         have HC9 := Aside0.mk H
         clear H
         have p154 : 0 ≤ (x5_2 : Int) := of_decide_eq_true (by first | (with_reducible assumption) | assumption)
         have q154 : x5_2 < (l1.length : Int) := of_decide_eq_true (by first | (with_reducible assumption) | assumption)
         obtain ⟨ad154, A154_2, c154_2, e154, hx154_0, hx154_1, hx154_2, hl154_2, hi154_2⟩ := at_T40 HR1.out x5_2 p154 q154
         cases e154
         replace hx154_0 := (HB.out.cell (World.block_lt_of_cell? w _ hx154_0)).trans hx154_0
         replace hx154_1 := (HB.out.cell (World.block_lt_of_cell? w _ hx154_1)).trans hx154_1
         replace hx154_2 := (HB.out.cell (World.block_lt_of_cell? w _ hx154_2)).trans hx154_2
         have HR154_2 := Aside0.mk hi154_2
         have HC154_2 := Aside0.mk hl154_2
         clear hi154_2 hl154_2
         replace p154 := eq_true p154
         replace q154 := eq_true q154
         go_upto_region 9 with (first | ((with_reducible refine gate_dst (N := 6) rfl ?_); refine box_event ?hg (N := 6) ?hd (cs := #[.int .i64 0, .int .i64 0, .slice none 0 0]) (t := 40) ?hr ?_; (case hd => rfl); (case hg => rfl); (case hr => first | (go_simp; done) | (go_simp; rfl)); intro gb155 hg w10 hbox hb; have n0_ := Aside0.mk (below_step (by repeat (first | (with_reducible first | exact HB.out | apply below_alloc | apply pw_below_drewN | apply below_drew1) | exact HB.out)) hb); have n1_ := Aside0.mk (hbox); have n2_ := Aside0.mk ((by rw [hg]; exact (below_size (by repeat (first | (with_reducible first | exact HB.out | apply below_alloc | apply pw_below_drewN | apply below_drew1) | exact HB.out))) : w.heap.size ≤ gb155)); have n3_ := Aside0.mk ((by rw [hg]; exact (below_size (by repeat (first | (with_reducible first | exact HB.out | apply below_alloc | apply pw_below_drewN | apply below_drew1) | exact HB.out))) : w.heap.size ≤ gb155)); clear HB; have HB := n0_; have BK155 := n1_; have GW155 := n2_; have GE155 := n3_; clear n0_ n1_ n2_ n3_; clear hb hbox hg; have hcz11_0 : w10.cell? ⟨gb155, 0, none⟩ = some (.int .i64 0) := (blk_cell BK155.out 0).trans rfl; have hcz11_1 : w10.cell? ⟨gb155, 1, none⟩ = some (.int .i64 0) := (blk_cell BK155.out 1).trans rfl; have hcz11_2 : w10.cell? ⟨gb155, 2, none⟩ = some (.slice none 0 0) := (blk_cell BK155.out 2).trans rfl; have hfz11_0 := blk_frozen BK155.out 0; have hfz11_1 := blk_frozen BK155.out 1; have hfz11_2 := blk_frozen BK155.out 2))
         repeat (go_quiet (first | ((with_reducible refine gate_dst (N := 6) rfl ?_); refine box_event ?hg (N := 6) ?hd (cs := #[.int .i64 0, .int .i64 0, .slice none 0 0]) (t := 40) ?hr ?_; (case hd => rfl); (case hg => rfl); (case hr => first | (go_simp; done) | (go_simp; rfl)); intro gb155 hg w10 hbox hb; have n0_ := Aside0.mk (below_step (by repeat (first | (with_reducible first | exact HB.out | apply below_alloc | apply pw_below_drewN | apply below_drew1) | exact HB.out)) hb); have n1_ := Aside0.mk (hbox); have n2_ := Aside0.mk ((by rw [hg]; exact (below_size (by repeat (first | (with_reducible first | exact HB.out | apply below_alloc | apply pw_below_drewN | apply below_drew1) | exact HB.out))) : w.heap.size ≤ gb155)); have n3_ := Aside0.mk ((by rw [hg]; exact (below_size (by repeat (first | (with_reducible first | exact HB.out | apply below_alloc | apply pw_below_drewN | apply below_drew1) | exact HB.out))) : w.heap.size ≤ gb155)); clear HB; have HB := n0_; have BK155 := n1_; have GW155 := n2_; have GE155 := n3_; clear n0_ n1_ n2_ n3_; clear hb hbox hg; have hcz11_0 : w10.cell? ⟨gb155, 0, none⟩ = some (.int .i64 0) := (blk_cell BK155.out 0).trans rfl; have hcz11_1 : w10.cell? ⟨gb155, 1, none⟩ = some (.int .i64 0) := (blk_cell BK155.out 1).trans rfl; have hcz11_2 : w10.cell? ⟨gb155, 2, none⟩ = some (.slice none 0 0) := (blk_cell BK155.out 2).trans rfl; have hfz11_0 := blk_frozen BK155.out 0; have hfz11_1 := blk_frozen BK155.out 1; have hfz11_2 := blk_frozen BK155.out 2)); go_upto_region 9 with (first | ((with_reducible refine gate_dst (N := 6) rfl ?_); refine box_event ?hg (N := 6) ?hd (cs := #[.int .i64 0, .int .i64 0, .slice none 0 0]) (t := 40) ?hr ?_; (case hd => rfl); (case hg => rfl); (case hr => first | (go_simp; done) | (go_simp; rfl)); intro gb155 hg w10 hbox hb; have n0_ := Aside0.mk (below_step (by repeat (first | (with_reducible first | exact HB.out | apply below_alloc | apply pw_below_drewN | apply below_drew1) | exact HB.out)) hb); have n1_ := Aside0.mk (hbox); have n2_ := Aside0.mk ((by rw [hg]; exact (below_size (by repeat (first | (with_reducible first | exact HB.out | apply below_alloc | apply pw_below_drewN | apply below_drew1) | exact HB.out))) : w.heap.size ≤ gb155)); have n3_ := Aside0.mk ((by rw [hg]; exact (below_size (by repeat (first | (with_reducible first | exact HB.out | apply below_alloc | apply pw_below_drewN | apply below_drew1) | exact HB.out))) : w.heap.size ≤ gb155)); clear HB; have HB := n0_; have BK155 := n1_; have GW155 := n2_; have GE155 := n3_; clear n0_ n1_ n2_ n3_; clear hb hbox hg; have hcz11_0 : w10.cell? ⟨gb155, 0, none⟩ = some (.int .i64 0) := (blk_cell BK155.out 0).trans rfl; have hcz11_1 : w10.cell? ⟨gb155, 1, none⟩ = some (.int .i64 0) := (blk_cell BK155.out 1).trans rfl; have hcz11_2 : w10.cell? ⟨gb155, 2, none⟩ = some (.slice none 0 0) := (blk_cell BK155.out 2).trans rfl; have hfz11_0 := blk_frozen BK155.out 0; have hfz11_1 := blk_frozen BK155.out 1; have hfz11_2 := blk_frozen BK155.out 2)))
         (try simp only [Act.put, List.setIfInBounds_toArray, List.set_cons_zero, List.set_cons_succ])
         go_cut [34] (fun v34 wc => ∃ (kq : Nat) (x34_8 : Bool), v34 = .bool x34_8 ∧ Aside0 (worldmintref27_Valid.j2 kq a0 l1 x5_2 x34_8 ((rd_T40 l1 x5_2).f0) ((rd_T40 l1 x5_2).f1) ((rd_T40 l1 x5_2).f2) = some r) ∧ Aside0 (kq ≤ k2) ∧ Aside0 (wc.heap[gb155]? = some (.cells #[.int .i64 ((rd_T40 l1 x5_2).f0), .int .i64 ((rd_T40 l1 x5_2).f1), (.slice A154_2 ((rd_T40 l1 x5_2).f2).length c154_2)] 40 (0, 0))) ∧ Aside0 (Below w.heap.size w wc))
         case first =>
          have H := HC9.out
          clear HC9
          by_cases c12 : ((rd_T40 l1 x5_2).f0) < 1
          ·rw [if_pos c12] at H
           have c12b0 : decide (((rd_T40 l1 x5_2).f0) < 1) = true := decide_eq_true c12
           clear c12
           (first | rw [c12b0] | (simp only [i64_w, i32_w]; rw [c12b0]) | skip)
           have H' := Aside0.mk H
           clear H
           have hcz13_0 : w10.cell? ⟨gb155, 0, none⟩ = some (.int .i64 0) := (blk_cell BK155.out 0).trans rfl
           have hcz13_1 : w10.cell? ⟨gb155, 1, none⟩ = some (.int .i64 0) := (blk_cell BK155.out 1).trans rfl
           have hcz13_2 : w10.cell? ⟨gb155, 2, none⟩ = some (.slice none 0 0) := (blk_cell BK155.out 2).trans rfl
           have hfz13_0 := blk_frozen BK155.out 0
           have hfz13_1 := blk_frozen BK155.out 1
           have hfz13_2 := blk_frozen BK155.out 2
           go_wp2
           repeat (go_quiet (fail); try go_wp2)
           go_meet
           case rel => exact ⟨_, (true), (by first | rfl | (simp; done) | (simp [*]; done)), H', ⟨by have := HJ2.out; have := HK2.out; first | omega | exact Nat.le_refl _⟩, ⟨by (with_reducible repeat (first | refine blk_drewN ?_ _ | refine blk_drew ?_ | refine blk_alloc ?_ _)); refine blk_put (cs := #[.int .i64 ((rd_T40 l1 x5_2).f0), .int .i64 ((rd_T40 l1 x5_2).f1), .slice none 0 0]) ?_ 2 _ rfl; (with_reducible repeat (first | refine blk_drewN ?_ _ | refine blk_drew ?_ | refine blk_alloc ?_ _)); refine blk_put (cs := #[.int .i64 ((rd_T40 l1 x5_2).f0), .int .i64 0, .slice none 0 0]) ?_ 1 _ rfl; (with_reducible repeat (first | refine blk_drewN ?_ _ | refine blk_drew ?_ | refine blk_alloc ?_ _)); refine blk_put (cs := #[.int .i64 0, .int .i64 0, .slice none 0 0]) ?_ 0 _ rfl; (with_reducible repeat (first | refine blk_drewN ?_ _ | refine blk_drew ?_ | refine blk_alloc ?_ _)); exact BK155.out⟩, ⟨by repeat (first | (with_reducible first | exact HB.out | apply below_alloc | apply pw_below_drewN | apply below_drew1 | refine below_set ?_ GE155.out) | exact HB.out)⟩⟩
          ·rw [if_neg c12] at H
           have c12b0 : decide (((rd_T40 l1 x5_2).f0) < 1) = false := decide_eq_false c12
           clear c12
           (first | rw [c12b0] | (simp only [i64_w, i32_w]; rw [c12b0]) | skip)
           have H' := Aside0.mk H
           clear H
           have hcz14_0 : w10.cell? ⟨gb155, 0, none⟩ = some (.int .i64 0) := (blk_cell BK155.out 0).trans rfl
           have hcz14_1 : w10.cell? ⟨gb155, 1, none⟩ = some (.int .i64 0) := (blk_cell BK155.out 1).trans rfl
           have hcz14_2 : w10.cell? ⟨gb155, 2, none⟩ = some (.slice none 0 0) := (blk_cell BK155.out 2).trans rfl
           have hfz14_0 := blk_frozen BK155.out 0
           have hfz14_1 := blk_frozen BK155.out 1
           have hfz14_2 := blk_frozen BK155.out 2
           go_wp2
           repeat (go_quiet (fail); try go_wp2)
           go_meet
           case rel => exact ⟨_, (decide (((rd_T40 l1 x5_2).f0) > 1073741824)), (by first | rfl | (simp; done) | (simp [*]; done)), H', ⟨by have := HJ2.out; have := HK2.out; first | omega | exact Nat.le_refl _⟩, ⟨by (with_reducible repeat (first | refine blk_drewN ?_ _ | refine blk_drew ?_ | refine blk_alloc ?_ _)); refine blk_put (cs := #[.int .i64 ((rd_T40 l1 x5_2).f0), .int .i64 ((rd_T40 l1 x5_2).f1), .slice none 0 0]) ?_ 2 _ rfl; (with_reducible repeat (first | refine blk_drewN ?_ _ | refine blk_drew ?_ | refine blk_alloc ?_ _)); refine blk_put (cs := #[.int .i64 ((rd_T40 l1 x5_2).f0), .int .i64 0, .slice none 0 0]) ?_ 1 _ rfl; (with_reducible repeat (first | refine blk_drewN ?_ _ | refine blk_drew ?_ | refine blk_alloc ?_ _)); refine blk_put (cs := #[.int .i64 0, .int .i64 0, .slice none 0 0]) ?_ 0 _ rfl; (with_reducible repeat (first | refine blk_drewN ?_ _ | refine blk_drew ?_ | refine blk_alloc ?_ _)); exact BK155.out⟩, ⟨by repeat (first | (with_reducible first | exact HB.out | apply below_alloc | apply pw_below_drewN | apply below_drew1 | refine below_set ?_ GE155.out) | exact HB.out)⟩⟩
         case rest =>
          clear HC9
          try clear c1
          try clear p1
          try clear q1
          try clear hx1
          try clear p2
          try clear c4
          try clear c4b0
          try clear c5
          try clear c6
          try clear c6b0
          try clear c6b1
          try clear c7
          try clear c7b0
          try clear c8
          try clear c8b0
          try clear c12
          try clear c12b0
          try clear hcz11_0
          try clear hcz11_1
          try clear hcz11_2
          try clear hcz13_0
          try clear hcz13_1
          try clear hcz13_2
          try clear hcz14_0
          try clear hcz14_1
          try clear hcz14_2
          try clear hfz11_0
          try clear hfz11_1
          try clear hfz11_2
          try clear hfz13_0
          try clear hfz13_1
          try clear hfz13_2
          try clear hfz14_0
          try clear hfz14_1
          try clear hfz14_2
          try clear hx154_0
          try clear hx154_1
          try clear hx154_2
          try clear p154
          try clear p2
          try clear q154
          obtain ⟨kq, x34_8, rfl, HA, HJ8, BK155, HB⟩ := hcut
          cases kq with
          | zero => exact absurd HA.out (by simp [worldmintref27_Valid.j2])
          | succ kj8 =>
           have H := HA.out
           clear HA
           simp only [worldmintref27_Valid.j2] at H
           by_cases c15 : x34_8 = true
           ·subst c15
            have H1 : (some 1) = some r := by rw [if_pos rfl] at H; exact H
            clear H
            have H := H1
            clear H1
            obtain rfl := Option.some.inj H
            go_wp2
            repeat (go_quiet (fail); try go_wp2)
            go_ret
            exact ⟨by first | rfl | (simp [errW_none, errW_some] <;> rfl) | (simp [*, errW_none, errW_some] <;> rfl), by repeat (first | (with_reducible first | exact HB.out | apply below_alloc | apply pw_below_drewN | apply below_drew1 | refine below_set ?_ GE155.out) | exact HB.out)⟩
           ·replace c15 := Bool.eq_false_iff.mpr c15
            subst c15
            have H1 : (if ((rd_T40 l1 x5_2).f1) < 1 then (worldmintref27_Valid.j3 kj8 a0 l1 x5_2 true ((rd_T40 l1 x5_2).f0) ((rd_T40 l1 x5_2).f1) ((rd_T40 l1 x5_2).f2)) else (worldmintref27_Valid.j3 kj8 a0 l1 x5_2 (decide (((rd_T40 l1 x5_2).f1) > 1099511627776)) ((rd_T40 l1 x5_2).f0) ((rd_T40 l1 x5_2).f1) ((rd_T40 l1 x5_2).f2))) = some r := by rw [if_neg (show ¬ (false = true) by decide)] at H; exact H
            clear H
            have H := H1
            clear H1
            have HC16 := Aside0.mk H
            clear H
            go_upto_region 11 with (fail)
            repeat (go_quiet (fail); go_upto_region 11 with (fail))
            go_cut [42] (fun v42 wc => ∃ (kq : Nat) (x42_15 : Bool), v42 = .bool x42_15 ∧ Aside0 (worldmintref27_Valid.j3 kq a0 l1 x5_2 x42_15 ((rd_T40 l1 x5_2).f0) ((rd_T40 l1 x5_2).f1) ((rd_T40 l1 x5_2).f2) = some r) ∧ Aside0 (kq ≤ kj8) ∧ Aside0 (wc.heap[gb155]? = some (.cells #[.int .i64 ((rd_T40 l1 x5_2).f0), .int .i64 ((rd_T40 l1 x5_2).f1), (.slice A154_2 ((rd_T40 l1 x5_2).f2).length c154_2)] 40 (0, 0))) ∧ Aside0 (Below w.heap.size w wc))
            case first =>
             have H := HC16.out
             clear HC16
             by_cases c17 : ((rd_T40 l1 x5_2).f1) < 1
             ·rw [if_pos c17] at H
              have c17b0 : decide (((rd_T40 l1 x5_2).f1) < 1) = true := decide_eq_true c17
              clear c17
              (first | rw [c17b0] | (simp only [i64_w, i32_w]; rw [c17b0]) | skip)
              have H' := Aside0.mk H
              clear H
              have hcz18_0 : wc.cell? ⟨gb155, 0, none⟩ = some (.int .i64 ((rd_T40 l1 x5_2).f0)) := (blk_cell BK155.out 0).trans rfl
              have hcz18_1 : wc.cell? ⟨gb155, 1, none⟩ = some (.int .i64 ((rd_T40 l1 x5_2).f1)) := (blk_cell BK155.out 1).trans rfl
              have hcz18_2 : wc.cell? ⟨gb155, 2, none⟩ = some (.slice A154_2 ((rd_T40 l1 x5_2).f2).length c154_2) := (blk_cell BK155.out 2).trans rfl
              have hfz18_0 := blk_frozen BK155.out 0
              have hfz18_1 := blk_frozen BK155.out 1
              have hfz18_2 := blk_frozen BK155.out 2
              go_wp2
              repeat (go_quiet (fail); try go_wp2)
              go_meet
              case rel => exact ⟨_, (true), (by first | rfl | (simp; done) | (simp [*]; done)), H', ⟨by have := HJ2.out; have := HK2.out; have := HJ8.out; first | omega | exact Nat.le_refl _⟩, ⟨by (with_reducible repeat (first | refine blk_drewN ?_ _ | refine blk_drew ?_ | refine blk_alloc ?_ _)); exact BK155.out⟩, ⟨by repeat (first | (with_reducible first | exact HB.out | apply below_alloc | apply pw_below_drewN | apply below_drew1 | refine below_set ?_ GE155.out) | exact HB.out)⟩⟩
             ·rw [if_neg c17] at H
              have c17b0 : decide (((rd_T40 l1 x5_2).f1) < 1) = false := decide_eq_false c17
              clear c17
              (first | rw [c17b0] | (simp only [i64_w, i32_w]; rw [c17b0]) | skip)
              have H' := Aside0.mk H
              clear H
              have hcz19_0 : wc.cell? ⟨gb155, 0, none⟩ = some (.int .i64 ((rd_T40 l1 x5_2).f0)) := (blk_cell BK155.out 0).trans rfl
              have hcz19_1 : wc.cell? ⟨gb155, 1, none⟩ = some (.int .i64 ((rd_T40 l1 x5_2).f1)) := (blk_cell BK155.out 1).trans rfl
              have hcz19_2 : wc.cell? ⟨gb155, 2, none⟩ = some (.slice A154_2 ((rd_T40 l1 x5_2).f2).length c154_2) := (blk_cell BK155.out 2).trans rfl
              have hfz19_0 := blk_frozen BK155.out 0
              have hfz19_1 := blk_frozen BK155.out 1
              have hfz19_2 := blk_frozen BK155.out 2
              go_wp2
              repeat (go_quiet (fail); try go_wp2)
              go_meet
              case rel => exact ⟨_, (decide (((rd_T40 l1 x5_2).f1) > 1099511627776)), (by first | rfl | (simp; done) | (simp [*]; done)), H', ⟨by have := HJ2.out; have := HK2.out; have := HJ8.out; first | omega | exact Nat.le_refl _⟩, ⟨by (with_reducible repeat (first | refine blk_drewN ?_ _ | refine blk_drew ?_ | refine blk_alloc ?_ _)); exact BK155.out⟩, ⟨by repeat (first | (with_reducible first | exact HB.out | apply below_alloc | apply pw_below_drewN | apply below_drew1 | refine below_set ?_ GE155.out) | exact HB.out)⟩⟩
            case rest =>
             clear HC16
             try clear c1
             try clear p1
             try clear q1
             try clear hx1
             try clear p2
             try clear c4
             try clear c4b0
             try clear c5
             try clear c6
             try clear c6b0
             try clear c6b1
             try clear c7
             try clear c7b0
             try clear c8
             try clear c8b0
             try clear c12
             try clear c12b0
             try clear c15
             try clear p15
             try clear q15
             try clear hx15
             try clear c16
             try clear c17
             try clear c17b0
             try clear hcz11_0
             try clear hcz11_1
             try clear hcz11_2
             try clear hcz13_0
             try clear hcz13_1
             try clear hcz13_2
             try clear hcz14_0
             try clear hcz14_1
             try clear hcz14_2
             try clear hcz18_0
             try clear hcz18_1
             try clear hcz18_2
             try clear hcz19_0
             try clear hcz19_1
             try clear hcz19_2
             try clear hfz11_0
             try clear hfz11_1
             try clear hfz11_2
             try clear hfz13_0
             try clear hfz13_1
             try clear hfz13_2
             try clear hfz14_0
             try clear hfz14_1
             try clear hfz14_2
             try clear hfz18_0
             try clear hfz18_1
             try clear hfz18_2
             try clear hfz19_0
             try clear hfz19_1
             try clear hfz19_2
             try clear hx154_0
             try clear hx154_1
             try clear hx154_2
             try clear p1
             try clear p154
             try clear p2
             try clear q1
             try clear q154
             obtain ⟨kq, x42_15, rfl, HA, HJ15, BK155, HB⟩ := hcut
             cases kq with
             | zero => exact absurd HA.out (by simp [worldmintref27_Valid.j3])
             | succ kj15 =>
              have H := HA.out
              clear HA
              simp only [worldmintref27_Valid.j3] at H
              by_cases c20 : x42_15 = true
              ·subst c20
               have H1 : (some 5) = some r := by rw [if_pos rfl] at H; exact H
               clear H
               have H := H1
               clear H1
               obtain rfl := Option.some.inj H
               go_wp2
               repeat (go_quiet (fail); try go_wp2)
               go_ret
               exact ⟨by first | rfl | (simp [errW_none, errW_some] <;> rfl) | (simp [*, errW_none, errW_some] <;> rfl), by repeat (first | (with_reducible first | exact HB.out | apply below_alloc | apply pw_below_drewN | apply below_drew1 | refine below_set ?_ GE155.out) | exact HB.out)⟩
              ·replace c20 := Bool.eq_false_iff.mpr c20
               subst c20
               have H1 : (if (((rd_T40 l1 x5_2).f2).length : Int) = 0 then (some 1) else (worldmintref27_Valid.l1 kj15 a0 l1 x5_2 0 ((rd_T40 l1 x5_2).f0) ((rd_T40 l1 x5_2).f1) ((rd_T40 l1 x5_2).f2))) = some r := by rw [if_neg (show ¬ (false = true) by decide)] at H; exact H
               clear H
               have H := H1
               clear H1
               by_cases c21 : (((rd_T40 l1 x5_2).f2).length : Int) = 0
               ·rw [if_pos c21] at H
                have c21b0 : ((((rd_T40 l1 x5_2).f2).length : Int) == 0) = true := beq_iff_eq.mpr c21
                have c21b1 : ((((rd_T40 l1 x5_2).f2).length : Int) != 0) = false := bne_eq_false_iff_eq.mpr c21
                clear c21
                obtain rfl := Option.some.inj H
                have hcz22_0 : wc.cell? ⟨gb155, 0, none⟩ = some (.int .i64 ((rd_T40 l1 x5_2).f0)) := (blk_cell BK155.out 0).trans rfl
                have hcz22_1 : wc.cell? ⟨gb155, 1, none⟩ = some (.int .i64 ((rd_T40 l1 x5_2).f1)) := (blk_cell BK155.out 1).trans rfl
                have hcz22_2 : wc.cell? ⟨gb155, 2, none⟩ = some (.slice A154_2 ((rd_T40 l1 x5_2).f2).length c154_2) := (blk_cell BK155.out 2).trans rfl
                have hfz22_0 := blk_frozen BK155.out 0
                have hfz22_1 := blk_frozen BK155.out 1
                have hfz22_2 := blk_frozen BK155.out 2
                go_wp2
                repeat (go_quiet (fail); try go_wp2)
                go_ret
                exact ⟨by first | rfl | (simp [errW_none, errW_some] <;> rfl) | (simp [*, errW_none, errW_some] <;> rfl), by repeat (first | (with_reducible first | exact HB.out | apply below_alloc | apply pw_below_drewN | apply below_drew1 | refine below_set ?_ GE155.out) | exact HB.out)⟩
               ·rw [if_neg c21] at H
                have c21b0 : ((((rd_T40 l1 x5_2).f2).length : Int) == 0) = false := beq_eq_false_iff_ne.mpr c21
                have c21b1 : ((((rd_T40 l1 x5_2).f2).length : Int) != 0) = true := bne_iff_ne.mpr c21
                have c21b2 : ¬ (((rd_T40 l1 x5_2).f2) = []) := fun h_ => c21 (by rw [h_]; rfl)
                have H' := Aside0.mk H
                clear H
                have hcz23_0 : wc.cell? ⟨gb155, 0, none⟩ = some (.int .i64 ((rd_T40 l1 x5_2).f0)) := (blk_cell BK155.out 0).trans rfl
                have hcz23_1 : wc.cell? ⟨gb155, 1, none⟩ = some (.int .i64 ((rd_T40 l1 x5_2).f1)) := (blk_cell BK155.out 1).trans rfl
                have hcz23_2 : wc.cell? ⟨gb155, 2, none⟩ = some (.slice A154_2 ((rd_T40 l1 x5_2).f2).length c154_2) := (blk_cell BK155.out 2).trans rfl
                have hfz23_0 := blk_frozen BK155.out 0
                have hfz23_1 := blk_frozen BK155.out 1
                have hfz23_2 := blk_frozen BK155.out 2
                go_wp2
                repeat (go_quiet (fail); try go_wp2)
                go_loopg [7] kj15 (fun kq v7 w' => ∃ (x7_5 : Int), v7 = .int .i64 x7_5 ∧ Aside0 (worldmintref27_Valid.l1 kq a0 l1 x5_2 x7_5 ((rd_T40 l1 x5_2).f0) ((rd_T40 l1 x5_2).f1) ((rd_T40 l1 x5_2).f2) = some r) ∧ Aside0 (kq ≤ kj15) ∧ Aside0 (w'.heap[gb155]? = some (.cells #[.int .i64 ((rd_T40 l1 x5_2).f0), .int .i64 ((rd_T40 l1 x5_2).f1), (.slice A154_2 ((rd_T40 l1 x5_2).f2).length c154_2)] 40 (0, 0))) ∧ Aside0 (Below w.heap.size w w'))
                case atStart => exact ⟨(0), (by first | rfl | (simp; done) | (simp [*]; done)), H', ⟨Nat.le_refl _⟩, ⟨by (with_reducible repeat (first | refine blk_drewN ?_ _ | refine blk_drew ?_ | refine blk_alloc ?_ _)); exact BK155.out⟩, ⟨by repeat (first | (with_reducible first | exact HB.out | apply below_alloc | apply pw_below_drewN | apply below_drew1 | refine below_set ?_ GE155.out) | exact HB.out)⟩⟩
                case round =>
                 clear H'
                 try clear c1
                 try clear p1
                 try clear q1
                 try clear hx1
                 try clear c2
                 try clear p2
                 try clear c4
                 try clear c4b0
                 try clear c5
                 try clear c6
                 try clear c6b0
                 try clear c6b1
                 try clear c7
                 try clear c7b0
                 try clear c8
                 try clear c8b0
                 try clear c12
                 try clear c12b0
                 try clear c15
                 try clear p15
                 try clear q15
                 try clear hx15
                 try clear c16
                 try clear c17
                 try clear c17b0
                 try clear c20
                 try clear c21
                 try clear c21b0
                 try clear c21b1
                 try clear c21b2
                 try clear hcz11_0
                 try clear hcz11_1
                 try clear hcz11_2
                 try clear hcz13_0
                 try clear hcz13_1
                 try clear hcz13_2
                 try clear hcz14_0
                 try clear hcz14_1
                 try clear hcz14_2
                 try clear hcz18_0
                 try clear hcz18_1
                 try clear hcz18_2
                 try clear hcz19_0
                 try clear hcz19_1
                 try clear hcz19_2
                 try clear hcz22_0
                 try clear hcz22_1
                 try clear hcz22_2
                 try clear hcz23_0
                 try clear hcz23_1
                 try clear hcz23_2
                 try clear hfz11_0
                 try clear hfz11_1
                 try clear hfz11_2
                 try clear hfz13_0
                 try clear hfz13_1
                 try clear hfz13_2
                 try clear hfz14_0
                 try clear hfz14_1
                 try clear hfz14_2
                 try clear hfz18_0
                 try clear hfz18_1
                 try clear hfz18_2
                 try clear hfz19_0
                 try clear hfz19_1
                 try clear hfz19_2
                 try clear hfz22_0
                 try clear hfz22_1
                 try clear hfz22_2
                 try clear hfz23_0
                 try clear hfz23_1
                 try clear hfz23_2
                 try clear hx154_0
                 try clear hx154_1
                 try clear hx154_2
                 try clear p1
                 try clear p15
                 try clear p154
                 try clear p2
                 try clear q1
                 try clear q15
                 try clear q154
                 obtain ⟨x7_5, rfl, HA, HK5, BK155, HB⟩ := hrel
                 cases gk with
                 | zero => exact absurd HA.out (by simp [worldmintref27_Valid.l1])
                 | succ k5 =>
                  have H := HA.out
                  clear HA
                  simp only [worldmintref27_Valid.l1] at H
                  by_cases c24 : x7_5 < (((rd_T40 l1 x5_2).f2).length : Int)
                  ·rw [if_pos c24] at H
                   have c24b0 : decide (x7_5 < (((rd_T40 l1 x5_2).f2).length : Int)) = true := decide_eq_true c24
                   clear c24
                   by_cases c25 : 0 ≤ x7_5
                   ·rw [if_pos c25] at H
                    have c25b0 : decide (0 ≤ x7_5) = true := decide_eq_true c25
                    clear c25
                    by_cases c26 : (rd ((rd_T40 l1 x5_2).f2) x7_5) < 0
                    ·rw [if_pos c26] at H
                     have c26b0 : decide ((rd ((rd_T40 l1 x5_2).f2) x7_5) < 0) = true := decide_eq_true c26
                     clear c26
                     obtain rfl := Option.some.inj H
                     have hcz27_0 : wr.cell? ⟨gb155, 0, none⟩ = some (.int .i64 ((rd_T40 l1 x5_2).f0)) := (blk_cell BK155.out 0).trans rfl
                     have hcz27_1 : wr.cell? ⟨gb155, 1, none⟩ = some (.int .i64 ((rd_T40 l1 x5_2).f1)) := (blk_cell BK155.out 1).trans rfl
                     have hcz27_2 : wr.cell? ⟨gb155, 2, none⟩ = some (.slice A154_2 ((rd_T40 l1 x5_2).f2).length c154_2) := (blk_cell BK155.out 2).trans rfl
                     have hfz27_0 := blk_frozen BK155.out 0
                     have hfz27_1 := blk_frozen BK155.out 1
                     have hfz27_2 := blk_frozen BK155.out 2
                     have p156 : 0 ≤ (x7_5 : Int) := of_decide_eq_true (by first | (with_reducible assumption) | assumption)
                     have q156 : x7_5 < (((rd_T40 l1 x5_2).f2).length : Int) := of_decide_eq_true (by first | (with_reducible assumption) | assumption)
                     obtain ⟨ad156, e156, hx156_0⟩ := Kd.at_int HR154_2.out x7_5 p156 q156
                     cases e156
                     replace hx156_0 := (HB.out.cell (World.block_lt_of_cell? w _ hx156_0)).trans hx156_0
                     replace p156 := eq_true p156
                     replace q156 := eq_true q156
                     go_wp2
                     repeat (go_quiet (fail); try go_wp2)
                     go_ret
                     exact ⟨by first | rfl | (simp [errW_none, errW_some] <;> rfl) | (simp [*, errW_none, errW_some] <;> rfl), by repeat (first | (with_reducible first | exact HB.out | apply below_alloc | apply pw_below_drewN | apply below_drew1 | refine below_set ?_ GE155.out) | exact HB.out)⟩
                    ·rw [if_neg c26] at H
                     have c26b0 : decide ((rd ((rd_T40 l1 x5_2).f2) x7_5) < 0) = false := decide_eq_false c26
                     clear c26
                     by_cases c28 : (rd ((rd_T40 l1 x5_2).f2) x7_5) ≥ a0
                     ·rw [if_pos c28] at H
                      have c28b0 : decide (a0 ≤ (rd ((rd_T40 l1 x5_2).f2) x7_5)) = true := decide_eq_true c28
                      clear c28
                      obtain rfl := Option.some.inj H
                      have hcz29_0 : wr.cell? ⟨gb155, 0, none⟩ = some (.int .i64 ((rd_T40 l1 x5_2).f0)) := (blk_cell BK155.out 0).trans rfl
                      have hcz29_1 : wr.cell? ⟨gb155, 1, none⟩ = some (.int .i64 ((rd_T40 l1 x5_2).f1)) := (blk_cell BK155.out 1).trans rfl
                      have hcz29_2 : wr.cell? ⟨gb155, 2, none⟩ = some (.slice A154_2 ((rd_T40 l1 x5_2).f2).length c154_2) := (blk_cell BK155.out 2).trans rfl
                      have hfz29_0 := blk_frozen BK155.out 0
                      have hfz29_1 := blk_frozen BK155.out 1
                      have hfz29_2 := blk_frozen BK155.out 2
                      have p156 : 0 ≤ (x7_5 : Int) := of_decide_eq_true (by first | (with_reducible assumption) | assumption)
                      have q156 : x7_5 < (((rd_T40 l1 x5_2).f2).length : Int) := of_decide_eq_true (by first | (with_reducible assumption) | assumption)
                      obtain ⟨ad156, e156, hx156_0⟩ := Kd.at_int HR154_2.out x7_5 p156 q156
                      cases e156
                      replace hx156_0 := (HB.out.cell (World.block_lt_of_cell? w _ hx156_0)).trans hx156_0
                      replace p156 := eq_true p156
                      replace q156 := eq_true q156
                      have p157 : 0 ≤ (x7_5 : Int) := of_decide_eq_true (by first | (with_reducible assumption) | assumption)
                      have q157 : x7_5 < (((rd_T40 l1 x5_2).f2).length : Int) := of_decide_eq_true (by first | (with_reducible assumption) | assumption)
                      obtain ⟨ad157, e157, hx157_0⟩ := Kd.at_int HR154_2.out x7_5 p157 q157
                      obtain rfl : ad156 = ad157 := (by injection e157)
                      replace hx157_0 := (HB.out.cell (World.block_lt_of_cell? w _ hx157_0)).trans hx157_0
                      replace p157 := eq_true p157
                      replace q157 := eq_true q157
                      go_wp2
                      repeat (go_quiet (fail); try go_wp2)
                      go_ret
                      exact ⟨by first | rfl | (simp [errW_none, errW_some] <;> rfl) | (simp [*, errW_none, errW_some] <;> rfl), by repeat (first | (with_reducible first | exact HB.out | apply below_alloc | apply pw_below_drewN | apply below_drew1 | refine below_set ?_ GE155.out) | exact HB.out)⟩
                     ·rw [if_neg c28] at H
                      have c28b0 : decide (a0 ≤ (rd ((rd_T40 l1 x5_2).f2) x7_5)) = false := decide_eq_false c28
                      clear c28
                      by_cases c30 : x7_5 > 0
                      ·rw [if_pos c30] at H
                       have c30b0 : decide (0 < x7_5) = true := decide_eq_true c30
                       clear c30
                       obtain ⟨ji31, hji31⟩ : ∃ j_ : Int, (wrap64 (x7_5 - 1)) = j_ := ⟨_, rfl⟩
                       replace H : (if 0 ≤ (ji31) then (if (ji31) < (((rd_T40 l1 x5_2).f2).length : Int) then (if (rd ((rd_T40 l1 x5_2).f2) x7_5) ≤ (rd ((rd_T40 l1 x5_2).f2) (ji31)) then (some 1) else (worldmintref27_Valid.l1 k5 a0 l1 x5_2 (wrap64 (x7_5 + 1)) ((rd_T40 l1 x5_2).f0) ((rd_T40 l1 x5_2).f1) ((rd_T40 l1 x5_2).f2))) else (none)) else (none)) = some r := by first | (rw [hji31] at H; exact H) | (simp only [hji31] at H ⊢; exact H)
                       have hji31w : (IntKind.i64.wrap (x7_5 - 1)) = ji31 := (i64_w _).trans hji31
                       by_cases c32 : 0 ≤ (ji31)
                       ·rw [if_pos c32] at H
                        have c32b0 : decide (0 ≤ (ji31)) = true := decide_eq_true c32
                        clear c32
                        by_cases c33 : (ji31) < (((rd_T40 l1 x5_2).f2).length : Int)
                        ·rw [if_pos c33] at H
                         have c33b0 : decide ((ji31) < (((rd_T40 l1 x5_2).f2).length : Int)) = true := decide_eq_true c33
                         clear c33
                         by_cases c34 : (rd ((rd_T40 l1 x5_2).f2) x7_5) ≤ (rd ((rd_T40 l1 x5_2).f2) (ji31))
                         ·rw [if_pos c34] at H
                          have c34b0 : decide ((rd ((rd_T40 l1 x5_2).f2) x7_5) ≤ (rd ((rd_T40 l1 x5_2).f2) (ji31))) = true := decide_eq_true c34
                          clear c34
                          obtain rfl := Option.some.inj H
                          have hcz35_0 : wr.cell? ⟨gb155, 0, none⟩ = some (.int .i64 ((rd_T40 l1 x5_2).f0)) := (blk_cell BK155.out 0).trans rfl
                          have hcz35_1 : wr.cell? ⟨gb155, 1, none⟩ = some (.int .i64 ((rd_T40 l1 x5_2).f1)) := (blk_cell BK155.out 1).trans rfl
                          have hcz35_2 : wr.cell? ⟨gb155, 2, none⟩ = some (.slice A154_2 ((rd_T40 l1 x5_2).f2).length c154_2) := (blk_cell BK155.out 2).trans rfl
                          have hfz35_0 := blk_frozen BK155.out 0
                          have hfz35_1 := blk_frozen BK155.out 1
                          have hfz35_2 := blk_frozen BK155.out 2
                          have p156 : 0 ≤ (x7_5 : Int) := of_decide_eq_true (by first | (with_reducible assumption) | assumption)
                          have q156 : x7_5 < (((rd_T40 l1 x5_2).f2).length : Int) := of_decide_eq_true (by first | (with_reducible assumption) | assumption)
                          obtain ⟨ad156, e156, hx156_0⟩ := Kd.at_int HR154_2.out x7_5 p156 q156
                          cases e156
                          replace hx156_0 := (HB.out.cell (World.block_lt_of_cell? w _ hx156_0)).trans hx156_0
                          replace p156 := eq_true p156
                          replace q156 := eq_true q156
                          have p157 : 0 ≤ (x7_5 : Int) := of_decide_eq_true (by first | (with_reducible assumption) | assumption)
                          have q157 : x7_5 < (((rd_T40 l1 x5_2).f2).length : Int) := of_decide_eq_true (by first | (with_reducible assumption) | assumption)
                          obtain ⟨ad157, e157, hx157_0⟩ := Kd.at_int HR154_2.out x7_5 p157 q157
                          obtain rfl : ad156 = ad157 := (by injection e157)
                          replace hx157_0 := (HB.out.cell (World.block_lt_of_cell? w _ hx157_0)).trans hx157_0
                          replace p157 := eq_true p157
                          replace q157 := eq_true q157
                          have p158 : 0 ≤ (x7_5 : Int) := of_decide_eq_true (by first | (with_reducible assumption) | assumption)
                          have q158 : x7_5 < (((rd_T40 l1 x5_2).f2).length : Int) := of_decide_eq_true (by first | (with_reducible assumption) | assumption)
                          obtain ⟨ad158, e158, hx158_0⟩ := Kd.at_int HR154_2.out x7_5 p158 q158
                          obtain rfl : ad156 = ad158 := (by injection e158)
                          replace hx158_0 := (HB.out.cell (World.block_lt_of_cell? w _ hx158_0)).trans hx158_0
                          replace p158 := eq_true p158
                          replace q158 := eq_true q158
                          have p159 : 0 ≤ ((ji31) : Int) := of_decide_eq_true (by first | (with_reducible assumption) | assumption)
                          have q159 : (ji31) < (((rd_T40 l1 x5_2).f2).length : Int) := of_decide_eq_true (by first | (with_reducible assumption) | assumption)
                          obtain ⟨ad159, e159, hx159_0⟩ := Kd.at_int HR154_2.out (ji31) p159 q159
                          obtain rfl : ad156 = ad159 := (by injection e159)
                          replace hx159_0 := (HB.out.cell (World.block_lt_of_cell? w _ hx159_0)).trans hx159_0
                          replace p159 := eq_true p159
                          replace q159 := eq_true q159
                          go_wp2
                          repeat (go_quiet (fail); try go_wp2)
                          go_ret
                          exact ⟨by first | rfl | (simp [errW_none, errW_some] <;> rfl) | (simp only [← hji31]; first | rfl | (simp [errW_none, errW_some] <;> rfl)) | (simp [*, errW_none, errW_some] <;> rfl), by repeat (first | (with_reducible first | exact HB.out | apply below_alloc | apply pw_below_drewN | apply below_drew1 | refine below_set ?_ GE155.out) | exact HB.out)⟩
                         ·rw [if_neg c34] at H
                          have c34b0 : decide ((rd ((rd_T40 l1 x5_2).f2) x7_5) ≤ (rd ((rd_T40 l1 x5_2).f2) (ji31))) = false := decide_eq_false c34
                          clear c34
                          have H' := Aside0.mk H
                          clear H
                          have hcz36_0 : wr.cell? ⟨gb155, 0, none⟩ = some (.int .i64 ((rd_T40 l1 x5_2).f0)) := (blk_cell BK155.out 0).trans rfl
                          have hcz36_1 : wr.cell? ⟨gb155, 1, none⟩ = some (.int .i64 ((rd_T40 l1 x5_2).f1)) := (blk_cell BK155.out 1).trans rfl
                          have hcz36_2 : wr.cell? ⟨gb155, 2, none⟩ = some (.slice A154_2 ((rd_T40 l1 x5_2).f2).length c154_2) := (blk_cell BK155.out 2).trans rfl
                          have hfz36_0 := blk_frozen BK155.out 0
                          have hfz36_1 := blk_frozen BK155.out 1
                          have hfz36_2 := blk_frozen BK155.out 2
                          have p156 : 0 ≤ (x7_5 : Int) := of_decide_eq_true (by first | (with_reducible assumption) | assumption)
                          have q156 : x7_5 < (((rd_T40 l1 x5_2).f2).length : Int) := of_decide_eq_true (by first | (with_reducible assumption) | assumption)
                          obtain ⟨ad156, e156, hx156_0⟩ := Kd.at_int HR154_2.out x7_5 p156 q156
                          cases e156
                          replace hx156_0 := (HB.out.cell (World.block_lt_of_cell? w _ hx156_0)).trans hx156_0
                          replace p156 := eq_true p156
                          replace q156 := eq_true q156
                          have p157 : 0 ≤ (x7_5 : Int) := of_decide_eq_true (by first | (with_reducible assumption) | assumption)
                          have q157 : x7_5 < (((rd_T40 l1 x5_2).f2).length : Int) := of_decide_eq_true (by first | (with_reducible assumption) | assumption)
                          obtain ⟨ad157, e157, hx157_0⟩ := Kd.at_int HR154_2.out x7_5 p157 q157
                          obtain rfl : ad156 = ad157 := (by injection e157)
                          replace hx157_0 := (HB.out.cell (World.block_lt_of_cell? w _ hx157_0)).trans hx157_0
                          replace p157 := eq_true p157
                          replace q157 := eq_true q157
                          have p158 : 0 ≤ (x7_5 : Int) := of_decide_eq_true (by first | (with_reducible assumption) | assumption)
                          have q158 : x7_5 < (((rd_T40 l1 x5_2).f2).length : Int) := of_decide_eq_true (by first | (with_reducible assumption) | assumption)
                          obtain ⟨ad158, e158, hx158_0⟩ := Kd.at_int HR154_2.out x7_5 p158 q158
                          obtain rfl : ad156 = ad158 := (by injection e158)
                          replace hx158_0 := (HB.out.cell (World.block_lt_of_cell? w _ hx158_0)).trans hx158_0
                          replace p158 := eq_true p158
                          replace q158 := eq_true q158
                          have p159 : 0 ≤ ((ji31) : Int) := of_decide_eq_true (by first | (with_reducible assumption) | assumption)
                          have q159 : (ji31) < (((rd_T40 l1 x5_2).f2).length : Int) := of_decide_eq_true (by first | (with_reducible assumption) | assumption)
                          obtain ⟨ad159, e159, hx159_0⟩ := Kd.at_int HR154_2.out (ji31) p159 q159
                          obtain rfl : ad156 = ad159 := (by injection e159)
                          replace hx159_0 := (HB.out.cell (World.block_lt_of_cell? w _ hx159_0)).trans hx159_0
                          replace p159 := eq_true p159
                          replace q159 := eq_true q159
                          go_wp2
                          repeat (go_quiet (fail); try go_wp2)
                          go_roundg k5
                          case measure => have := HJ2.out; have := HK2.out; have := HJ8.out; have := HJ15.out; have := HK5.out; omega
                          case rel => exact ⟨(wrap64 (x7_5 + 1)), (by first | rfl | (simp; done) | (simp [*]; done)), H', ⟨by have := HJ2.out; have := HK2.out; have := HJ8.out; have := HJ15.out; have := HK5.out; omega⟩, ⟨by (with_reducible repeat (first | refine blk_drewN ?_ _ | refine blk_drew ?_ | refine blk_alloc ?_ _)); exact BK155.out⟩, ⟨by repeat (first | (with_reducible first | exact HB.out | apply below_alloc | apply pw_below_drewN | apply below_drew1 | refine below_set ?_ GE155.out) | exact HB.out)⟩⟩
                        ·rw [if_neg c33] at H
                         exact absurd H (by simp)
                       ·rw [if_neg c32] at H
                        exact absurd H (by simp)
                      ·rw [if_neg c30] at H
                       have c30b0 : decide (0 < x7_5) = false := decide_eq_false c30
                       clear c30
                       have H' := Aside0.mk H
                       clear H
                       have hcz37_0 : wr.cell? ⟨gb155, 0, none⟩ = some (.int .i64 ((rd_T40 l1 x5_2).f0)) := (blk_cell BK155.out 0).trans rfl
                       have hcz37_1 : wr.cell? ⟨gb155, 1, none⟩ = some (.int .i64 ((rd_T40 l1 x5_2).f1)) := (blk_cell BK155.out 1).trans rfl
                       have hcz37_2 : wr.cell? ⟨gb155, 2, none⟩ = some (.slice A154_2 ((rd_T40 l1 x5_2).f2).length c154_2) := (blk_cell BK155.out 2).trans rfl
                       have hfz37_0 := blk_frozen BK155.out 0
                       have hfz37_1 := blk_frozen BK155.out 1
                       have hfz37_2 := blk_frozen BK155.out 2
                       have p156 : 0 ≤ (x7_5 : Int) := of_decide_eq_true (by first | (with_reducible assumption) | assumption)
                       have q156 : x7_5 < (((rd_T40 l1 x5_2).f2).length : Int) := of_decide_eq_true (by first | (with_reducible assumption) | assumption)
                       obtain ⟨ad156, e156, hx156_0⟩ := Kd.at_int HR154_2.out x7_5 p156 q156
                       cases e156
                       replace hx156_0 := (HB.out.cell (World.block_lt_of_cell? w _ hx156_0)).trans hx156_0
                       replace p156 := eq_true p156
                       replace q156 := eq_true q156
                       have p157 : 0 ≤ (x7_5 : Int) := of_decide_eq_true (by first | (with_reducible assumption) | assumption)
                       have q157 : x7_5 < (((rd_T40 l1 x5_2).f2).length : Int) := of_decide_eq_true (by first | (with_reducible assumption) | assumption)
                       obtain ⟨ad157, e157, hx157_0⟩ := Kd.at_int HR154_2.out x7_5 p157 q157
                       obtain rfl : ad156 = ad157 := (by injection e157)
                       replace hx157_0 := (HB.out.cell (World.block_lt_of_cell? w _ hx157_0)).trans hx157_0
                       replace p157 := eq_true p157
                       replace q157 := eq_true q157
                       go_wp2
                       repeat (go_quiet (fail); try go_wp2)
                       go_roundg k5
                       case measure => have := HJ2.out; have := HK2.out; have := HJ8.out; have := HJ15.out; have := HK5.out; omega
                       case rel => exact ⟨(wrap64 (x7_5 + 1)), (by first | rfl | (simp; done) | (simp [*]; done)), H', ⟨by have := HJ2.out; have := HK2.out; have := HJ8.out; have := HJ15.out; have := HK5.out; omega⟩, ⟨by (with_reducible repeat (first | refine blk_drewN ?_ _ | refine blk_drew ?_ | refine blk_alloc ?_ _)); exact BK155.out⟩, ⟨by repeat (first | (with_reducible first | exact HB.out | apply below_alloc | apply pw_below_drewN | apply below_drew1 | refine below_set ?_ GE155.out) | exact HB.out)⟩⟩
                   ·rw [if_neg c25] at H
                    exact absurd H (by simp)
                  ·rw [if_neg c24] at H
                   have c24b0 : decide (x7_5 < (((rd_T40 l1 x5_2).f2).length : Int)) = false := decide_eq_false c24
                   clear c24
                   have H' := Aside0.mk H
                   clear H
                   have hcz38_0 : wr.cell? ⟨gb155, 0, none⟩ = some (.int .i64 ((rd_T40 l1 x5_2).f0)) := (blk_cell BK155.out 0).trans rfl
                   have hcz38_1 : wr.cell? ⟨gb155, 1, none⟩ = some (.int .i64 ((rd_T40 l1 x5_2).f1)) := (blk_cell BK155.out 1).trans rfl
                   have hcz38_2 : wr.cell? ⟨gb155, 2, none⟩ = some (.slice A154_2 ((rd_T40 l1 x5_2).f2).length c154_2) := (blk_cell BK155.out 2).trans rfl
                   have hfz38_0 := blk_frozen BK155.out 0
                   have hfz38_1 := blk_frozen BK155.out 1
                   have hfz38_2 := blk_frozen BK155.out 2
                   go_wp2
                   repeat (go_quiet (fail); try go_wp2)
                   go_roundg k5
                   case measure => have := HJ2.out; have := HK2.out; have := HJ8.out; have := HJ15.out; have := HK5.out; omega
                   case rel => exact ⟨(wrap64 (x5_2 + 1)), (by first | rfl | (simp; done) | (simp [*]; done)), H', ⟨by have := HJ2.out; have := HK2.out; have := HJ8.out; have := HJ15.out; have := HK5.out; omega⟩, ⟨by repeat (first | (with_reducible first | exact HB.out | apply below_alloc | apply pw_below_drewN | apply below_drew1 | refine below_set ?_ GE155.out) | exact HB.out)⟩⟩
        ·rw [if_neg c8] at H
         exact absurd H (by simp)
       ·rw [if_neg c7] at H
        have c7b0 : decide (x5_2 < (l1.length : Int)) = false := decide_eq_false c7
        clear c7
        obtain rfl := Option.some.inj H
        go_wp2
        repeat (go_quiet (fail); try go_wp2)
        go_ret
        exact ⟨by first | rfl | (simp [errW_none, errW_some] <;> rfl) | (simp [*, errW_none, errW_some] <;> rfl), by repeat (first | (with_reducible first | exact HB.out | apply below_alloc | apply pw_below_drewN | apply below_drew1) | exact HB.out)⟩

end Go.Proofs.Ytdbpdkmnnlippaa.H

/- Written by a program of this session over the kit's printer: what the functions named below compute, and that the machine's calls compute it. Not trusted: Lean checks it. -/
namespace Go.Proofs.Ytdbpdkmnnlippaa.H
open Go.RowKit Go.Proofs.YtdbpdkmnnlippaaW.PrintWords Go.Proofs.YtdbpdkmnnlippaaW.PrintLast Go.Proofs.YtdbpdkmnnlippaaW.PrintMore
attribute [local go_sem] max2_int min2_int max_two min_two max_three min_three max_four min_four   -- for this text's walks alone
set_option linter.unusedVariables false
set_option linter.unusedSimpArgs false

/-! ### bids_Value: function 23 -/
def bids_Value.l0 : Nat → List (S38) → Int → List Int → Int → Int → Option (Int)
 | 0, _, _, _, _, _ => none
 | k + 1, x0, x5, x8, x9, x10 => if x10 < x9 then (if 0 ≤ x10 then (if x10 < (x8.length : Int) then (if (rd x8 x10) ≥ 0 then (if (rd x8 x10) < (x0.length : Int) then (if 0 ≤ (rd x8 x10) then (bids_Value.l0 k x0 (wrap64 (x5 + ((rd_T38 x0 (rd x8 x10)).f1))) x8 x9 (wrap64 (x10 + 1))) else (none)) else (bids_Value.l0 k x0 x5 x8 x9 (wrap64 (x10 + 1)))) else (bids_Value.l0 k x0 x5 x8 x9 (wrap64 (x10 + 1)))) else (none)) else (none)) else (some x5)
def bids_Value.f (k : Nat) (l0 : List (S38)) (l1 : List Int) : Option (Int) := bids_Value.l0 k l0 0 l1 (l1.length : Int) 0
theorem bids_Value.mono_l : ∀ k, (∀ y0 y1 y2 y3 y4, LeO (bids_Value.l0 k y0 y1 y2 y3 y4) (bids_Value.l0 (k + 1) y0 y1 y2 y3 y4))
 | 0 => fun _ _ _ _ _ r h => by simp [bids_Value.l0] at h
 | k + 1 => by
  have ih0 := bids_Value.mono_l k
  ·intro y0 y1 y2 y3 y4
   unfold bids_Value.l0
   repeat' first
   | (with_reducible exact ih0 _ _ _ _ _)
   | (with_reducible exact LeO.refl _)
   | (with_reducible exact LeO.none _)
   | (with_reducible refine LeO.ite ?_ ?_)
   | (with_reducible refine LeO.bind ?_ (fun _ => ?_))
   | exact ih0 _ _ _ _ _
   | exact LeO.none _
   | refine LeO.ite ?_ ?_
   | refine LeO.bind ?_ (fun _ => ?_)
theorem bids_Value.mono : ∀ a0 a1 k, LeO (bids_Value.f k a0 a1) (bids_Value.f (k + 1) a0 a1) := by
 intro a0 a1 k
 have ih0 := bids_Value.mono_l k
 unfold bids_Value.f
 repeat' first
   | (with_reducible exact ih0 _ _ _ _ _)
   | (with_reducible exact LeO.refl _)
   | (with_reducible exact LeO.none _)
   | (with_reducible refine LeO.ite ?_ ?_)
   | (with_reducible refine LeO.bind ?_ (fun _ => ?_))
   | exact ih0 _ _ _ _ _
   | exact LeO.none _
   | refine LeO.ite ?_ ?_
   | refine LeO.bind ?_ (fun _ => ?_)
set_option maxHeartbeats 8000000 in
set_option maxRecDepth 100000 in
theorem bids_Value.calls (k : Nat) (A0 : Option Addr) (c0 : Nat) (l0 : List (S38)) (A1 : Option Addr) (c1 : Nat) (l1 : List Int) (r : Int) (w : World) (hr0 : Kd.C k38 w A0 l0.length l0) (hc0 : l0.length ≤ c0) (hr1 : Kd.C (Kd.int .i64) w A1 l1.length l1) (hc1 : l1.length ≤ c1) (h : bids_Value.f k l0 l1 = some r) :
  Calls Try.prog 23 #[.slice A0 l0.length c0, .slice A1 l1.length c1] w fun e w' => e = .returned (.int .i64 r) ∧ Drawn0 w w' := by
 have HR0 := Aside0.mk hr0
 have HC0 := Aside0.mk hc0
 clear hr0 hc0
 have HR1 := Aside0.mk hr1
 have HC1 := Aside0.mk hc1
 clear hr1 hc1
 have H : (bids_Value.l0 k l0 0 l1 (l1.length : Int) 0) = some r := h
 clear h
 have H' := Aside0.mk H
 clear H
 go_enter Try.func23, Try.ntmps23
 go_wp2
 go_loopg [5, 10] k (fun kq v5 v10 w' => ∃ (x5_1 : Int) (x10_1 : Int), v5 = .int .i64 x5_1 ∧ v10 = .int .i64 x10_1 ∧ Aside0 (bids_Value.l0 kq l0 x5_1 l1 (l1.length : Int) x10_1 = some r) ∧ Aside0 (kq ≤ k) ∧ Drawn0 w w')
 case atStart => exact ⟨(0), (0), (by first | rfl | (simp; done) | (simp [*]; done)), (by first | rfl | (simp; done) | (simp [*]; done)), H', ⟨Nat.le_refl _⟩, by repeat (first | exact Drawn0.refl _ | apply Drawn0.step)⟩
 case round =>
  clear H'
  try clear c1
  try clear c2
  try clear p2
  obtain ⟨x5_1, x10_1, rfl, rfl, HA, HK1, ⟨m1, rfl⟩⟩ := hrel
  cases gk with
  | zero => exact absurd HA.out (by simp [bids_Value.l0])
  | succ k1 =>
   have H := HA.out
   clear HA
   simp only [bids_Value.l0] at H
   by_cases c3 : x10_1 < (l1.length : Int)
   ·rw [if_pos c3] at H
    have c3b0 : decide (x10_1 < (l1.length : Int)) = true := decide_eq_true c3
    clear c3
    by_cases c4 : 0 ≤ x10_1
    ·rw [if_pos c4] at H
     have c4b0 : decide (0 ≤ x10_1) = true := decide_eq_true c4
     clear c4
     by_cases c5 : x10_1 < (l1.length : Int)
     ·rw [if_pos c5] at H
      have c5b0 : decide (x10_1 < (l1.length : Int)) = true := decide_eq_true c5
      clear c5
      by_cases c6 : (rd l1 x10_1) ≥ 0
      ·rw [if_pos c6] at H
       have c6b0 : decide (0 ≤ (rd l1 x10_1)) = true := decide_eq_true c6
       clear c6
       by_cases c7 : (rd l1 x10_1) < (l0.length : Int)
       ·rw [if_pos c7] at H
        have c7b0 : decide ((rd l1 x10_1) < (l0.length : Int)) = true := decide_eq_true c7
        clear c7
        by_cases c8 : 0 ≤ (rd l1 x10_1)
        ·rw [if_pos c8] at H
         have c8b0 : decide (0 ≤ (rd l1 x10_1)) = true := decide_eq_true c8
         clear c8
         have H' := Aside0.mk H
         clear H
         have p160 : 0 ≤ (x10_1 : Int) := of_decide_eq_true (by first | (with_reducible assumption) | assumption)
         have q160 : x10_1 < (l1.length : Int) := of_decide_eq_true (by first | (with_reducible assumption) | assumption)
         obtain ⟨ad160, e160, hx160_0⟩ := Kd.at_int HR1.out x10_1 p160 q160
         cases e160
         replace p160 := eq_true p160
         replace q160 := eq_true q160
         have p161 : 0 ≤ ((rd l1 x10_1) : Int) := of_decide_eq_true (by first | (with_reducible assumption) | assumption)
         have q161 : (rd l1 x10_1) < (l0.length : Int) := of_decide_eq_true (by first | (with_reducible assumption) | assumption)
         obtain ⟨ad161, A161_2, c161_2, e161, hx161_0, hx161_1, hx161_2, hl161_2, hi161_2⟩ := at_T38 HR0.out (rd l1 x10_1) p161 q161
         cases e161
         have HR161_2 := Aside0.mk hi161_2
         have HC161_2 := Aside0.mk hl161_2
         clear hi161_2 hl161_2
         replace p161 := eq_true p161
         replace q161 := eq_true q161
         go_wp2
         go_roundg k1
         case measure => have := HK1.out; omega
         case rel => exact ⟨(wrap64 (x5_1 + ((rd_T38 l0 (rd l1 x10_1)).f1))), (wrap64 (x10_1 + 1)), (by first | rfl | (simp; done) | (simp [*]; done)), (by first | rfl | (simp; done) | (simp [*]; done)), H', ⟨by have := HK1.out; omega⟩, by repeat (first | exact Drawn0.refl _ | apply Drawn0.step)⟩
        ·rw [if_neg c8] at H
         exact absurd H (by simp)
       ·rw [if_neg c7] at H
        have c7b0 : decide ((rd l1 x10_1) < (l0.length : Int)) = false := decide_eq_false c7
        clear c7
        have H' := Aside0.mk H
        clear H
        have p160 : 0 ≤ (x10_1 : Int) := of_decide_eq_true (by first | (with_reducible assumption) | assumption)
        have q160 : x10_1 < (l1.length : Int) := of_decide_eq_true (by first | (with_reducible assumption) | assumption)
        obtain ⟨ad160, e160, hx160_0⟩ := Kd.at_int HR1.out x10_1 p160 q160
        cases e160
        replace p160 := eq_true p160
        replace q160 := eq_true q160
        go_wp2
        go_roundg k1
        case measure => have := HK1.out; omega
        case rel => exact ⟨(x5_1), (wrap64 (x10_1 + 1)), (by first | rfl | (simp; done) | (simp [*]; done)), (by first | rfl | (simp; done) | (simp [*]; done)), H', ⟨by have := HK1.out; omega⟩, by repeat (first | exact Drawn0.refl _ | apply Drawn0.step)⟩
      ·rw [if_neg c6] at H
       have c6b0 : decide (0 ≤ (rd l1 x10_1)) = false := decide_eq_false c6
       clear c6
       have H' := Aside0.mk H
       clear H
       have p160 : 0 ≤ (x10_1 : Int) := of_decide_eq_true (by first | (with_reducible assumption) | assumption)
       have q160 : x10_1 < (l1.length : Int) := of_decide_eq_true (by first | (with_reducible assumption) | assumption)
       obtain ⟨ad160, e160, hx160_0⟩ := Kd.at_int HR1.out x10_1 p160 q160
       cases e160
       replace p160 := eq_true p160
       replace q160 := eq_true q160
       go_wp2
       go_roundg k1
       case measure => have := HK1.out; omega
       case rel => exact ⟨(x5_1), (wrap64 (x10_1 + 1)), (by first | rfl | (simp; done) | (simp [*]; done)), (by first | rfl | (simp; done) | (simp [*]; done)), H', ⟨by have := HK1.out; omega⟩, by repeat (first | exact Drawn0.refl _ | apply Drawn0.step)⟩
     ·rw [if_neg c5] at H
      exact absurd H (by simp)
    ·rw [if_neg c4] at H
     exact absurd H (by simp)
   ·rw [if_neg c3] at H
    have c3b0 : decide (x10_1 < (l1.length : Int)) = false := decide_eq_false c3
    clear c3
    obtain rfl := Option.some.inj H
    go_wp2
    go_ret
    exact ⟨by first | rfl | (simp; done) | (simp [*]; done), by repeat (first | exact Drawn0.refl _ | apply Drawn0.step)⟩

end Go.Proofs.Ytdbpdkmnnlippaa.H

/- Written by a program of this session over the kit's printer: what the functions named below compute, and that the machine's calls compute it. Not trusted: Lean checks it. -/
namespace Go.Proofs.Ytdbpdkmnnlippaa.H
open Go.RowKit Go.Proofs.YtdbpdkmnnlippaaW.PrintWords Go.Proofs.YtdbpdkmnnlippaaW.PrintLast Go.Proofs.YtdbpdkmnnlippaaW.PrintMore
attribute [local go_sem] max2_int min2_int max_two min_two max_three min_three max_four min_four   -- for this text's walks alone
set_option linter.unusedVariables false
set_option linter.unusedSimpArgs false


end Go.Proofs.Ytdbpdkmnnlippaa.H

/- Written by a program of this session over the kit's printer: what the functions named below compute, and that the machine's calls compute it. Not trusted: Lean checks it. -/
namespace Go.Proofs.Ytdbpdkmnnlippaa.H
open Go.RowKit Go.Proofs.YtdbpdkmnnlippaaW.PrintWords Go.Proofs.YtdbpdkmnnlippaaW.PrintLast Go.Proofs.YtdbpdkmnnlippaaW.PrintMore
attribute [local go_sem] max2_int min2_int max_two min_two max_three min_three max_four min_four   -- for this text's walks alone
set_option linter.unusedVariables false
set_option linter.unusedSimpArgs false


end Go.Proofs.Ytdbpdkmnnlippaa.H

/- Written by a program of this session over the kit's printer: what the functions named below compute, and that the machine's calls compute it. Not trusted: Lean checks it. -/
namespace Go.Proofs.Ytdbpdkmnnlippaa.H
open Go.RowKit Go.Proofs.YtdbpdkmnnlippaaW.PrintWords Go.Proofs.YtdbpdkmnnlippaaW.PrintLast Go.Proofs.YtdbpdkmnnlippaaW.PrintMore
attribute [local go_sem] max2_int min2_int max_two min_two max_three min_three max_four min_four   -- for this text's walks alone
set_option linter.unusedVariables false
set_option linter.unusedSimpArgs false


end Go.Proofs.Ytdbpdkmnnlippaa.H

/- Written by a program of this session over the kit's printer: what the functions named below compute, and that the machine's calls compute it. Not trusted: Lean checks it. -/
namespace Go.Proofs.Ytdbpdkmnnlippaa.H
open Go.RowKit Go.Proofs.YtdbpdkmnnlippaaW.PrintWords Go.Proofs.YtdbpdkmnnlippaaW.PrintLast Go.Proofs.YtdbpdkmnnlippaaW.PrintMore
attribute [local go_sem] max2_int min2_int max_two min_two max_three min_three max_four min_four   -- for this text's walks alone
set_option linter.unusedVariables false
set_option linter.unusedSimpArgs false


end Go.Proofs.Ytdbpdkmnnlippaa.H

/- Written by a program of this session over the kit's printer: what the functions named below compute, and that the machine's calls compute it. Not trusted: Lean checks it. -/
namespace Go.Proofs.Ytdbpdkmnnlippaa.H
open Go.RowKit Go.Proofs.YtdbpdkmnnlippaaW.PrintWords Go.Proofs.YtdbpdkmnnlippaaW.PrintLast Go.Proofs.YtdbpdkmnnlippaaW.PrintMore
attribute [local go_sem] max2_int min2_int max_two min_two max_three min_three max_four min_four   -- for this text's walks alone
set_option linter.unusedVariables false
set_option linter.unusedSimpArgs false


end Go.Proofs.Ytdbpdkmnnlippaa.H
