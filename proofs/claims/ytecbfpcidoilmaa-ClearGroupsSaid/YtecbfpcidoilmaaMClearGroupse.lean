/- Texts of this claim, one behind the other. -/
import Derived.Test.YtecbfpcidoilmaaMClearGroupsb
import Derived.Test.YtecbfpcidoilmaaMClearGroupsd
import Derived.Test.YtecbfpcidoilmaaMClearGroupsc

/- Written by a program of this session over the kit's printer: what the functions named below compute, and that the machine's calls compute it. Not trusted: Lean checks it. -/
namespace Go.Proofs.Ytecbfpcidoilmaa.H
open Go.RowKit Go.Proofs.YtecbfpcidoilmaaW.PrintWords Go.Proofs.YtecbfpcidoilmaaW.PrintLast Go.Proofs.YtecbfpcidoilmaaW.PrintMore
attribute [local go_sem] max2_int min2_int max_two min_two max_three min_three max_four min_four   -- for this text's walks alone
set_option linter.unusedVariables false
set_option linter.unusedSimpArgs false

/-! ### worldmintlaw28_ClearGroups: function 9 -/
mutual
def worldmintlaw28_ClearGroups.j0 : Nat → Int → List (S45) → List Int → Int → List (List Int) → Int → Bool → Option (Bool)
 | 0, _, _, _, _, _, _, _ => none
 | k + 1, x5, x6, x7, x8, x10, x11, x55 => if x55 = true then (some false) else (worldmintlaw28_ClearGroups.l0 k x5 x6 x7 x8 x10 x11 0)
def worldmintlaw28_ClearGroups.l0 : Nat → Int → List (S45) → List Int → Int → List (List Int) → Int → Int → Option (Bool)
 | 0, _, _, _, _, _, _, _ => none
 | k + 1, x5, x6, x7, x8, x10, x11, x12 => if x12 < (x10.length : Int) then (worldmintlaw28_ClearGroups.l1 k x5 x6 x7 x8 x10 x11 x12 ([] : List (S45)) 0) else (if x11 = x8 then ((worldmintlaw28_lives.f k).bind fun t532 => (some t532)) else (some false))
def worldmintlaw28_ClearGroups.l1 : Nat → Int → List (S45) → List Int → Int → List (List Int) → Int → Int → List (S45) → Int → Option (Bool)
 | 0, _, _, _, _, _, _, _, _, _ => none
 | k + 1, x5, x6, x7, x8, x10, x11, x12, x13, x14 => if 0 ≤ x12 then (if x12 < (x10.length : Int) then (if x14 < ((rd_L1 x10 x12).length : Int) then (if 0 ≤ x14 then (if (rd (rd_L1 x10 x12) x14) < 0 then (some false) else (if (rd (rd_L1 x10 x12) x14) ≥ (x6.length : Int) then (some false) else (if 0 ≤ (rd (rd_L1 x10 x12) x14) then (if (rd (rd_L1 x10 x12) x14) < (x6.length : Int) then (if x13.length < 3518437208883 then (worldmintlaw28_ClearGroups.l1 k x5 x6 x7 x8 x10 x11 x12 (x13 ++ [(⟨(rd_T45 x6 (rd (rd_L1 x10 x12) x14)).f0, (rd_T45 x6 (rd (rd_L1 x10 x12) x14)).f1, (rd_T45 x6 (rd (rd_L1 x10 x12) x14)).f2⟩ : S45)]) (wrap64 (x14 + 1))) else (none)) else (none)) else (none)))) else (none)) else ((clear_Best.f x5 x13).bind fun bt544 => (worldmintlaw28_ClearGroups.l2 k x5 x6 x7 x8 x10 x11 x12 bt544.1 bt544.2.1 bt544.2.2 ([] : List Int) 0))) else (none)) else (none)
def worldmintlaw28_ClearGroups.l2 : Nat → Int → List (S45) → List Int → Int → List (List Int) → Int → Int → List Int → Int → Int → List Int → Int → Option (Bool)
 | 0, _, _, _, _, _, _, _, _, _, _, _, _ => none
 | k + 1, x5, x6, x7, x8, x10, x11, x12, x15, x16, x17, x18, x19 => if x19 < (x7.length : Int) then (if 0 ≤ x12 then (if x12 < (x10.length : Int) then (if 0 ≤ x19 then ((worldmintref01_Has.f k (rd_L1 x10 x12) (rd x7 x19)).bind fun t551 => (if t551 = true then (if x18.length < 17592186044416 then (worldmintlaw28_ClearGroups.l2 k x5 x6 x7 x8 x10 x11 x12 x15 x16 x17 (x18 ++ [rd x7 x19]) (wrap64 (x19 + 1))) else (none)) else (worldmintlaw28_ClearGroups.l2 k x5 x6 x7 x8 x10 x11 x12 x15 x16 x17 x18 (wrap64 (x19 + 1))))) else (none)) else (none)) else (none)) else (worldmintlaw28_ClearGroups.l3 k x5 x6 x7 x8 x10 x11 x12 x15 x16 x17 x18 ([] : List Int) 0)
def worldmintlaw28_ClearGroups.l3 : Nat → Int → List (S45) → List Int → Int → List (List Int) → Int → Int → List Int → Int → Int → List Int → List Int → Int → Option (Bool)
 | 0, _, _, _, _, _, _, _, _, _, _, _, _, _ => none
 | k + 1, x5, x6, x7, x8, x10, x11, x12, x15, x16, x17, x18, x20, x21 => if x21 < (x15.length : Int) then (if 0 ≤ x21 then (if (rd x15 x21) < 0 then (some false) else (if 0 ≤ x12 then (if x12 < (x10.length : Int) then (if (rd x15 x21) ≥ ((rd_L1 x10 x12).length : Int) then (some false) else (if 0 ≤ (rd x15 x21) then (if (rd x15 x21) < ((rd_L1 x10 x12).length : Int) then (if x20.length < 17592186044416 then (worldmintlaw28_ClearGroups.l3 k x5 x6 x7 x8 x10 x11 x12 x15 x16 x17 x18 (x20 ++ [rd (rd_L1 x10 x12) (rd x15 x21)]) (wrap64 (x21 + 1))) else (none)) else (none)) else (none))) else (none)) else (none))) else (none)) else (if x17 = 0 then ((worldmintref01_SameInts.f k x20 x18).bind fun t565 => (worldmintlaw28_ClearGroups.j5 k x5 x6 x7 x8 x10 x11 x12 x16 (!t565))) else (worldmintlaw28_ClearGroups.j5 k x5 x6 x7 x8 x10 x11 x12 x16 true))
def worldmintlaw28_ClearGroups.j5 : Nat → Int → List (S45) → List Int → Int → List (List Int) → Int → Int → Int → Bool → Option (Bool)
 | 0, _, _, _, _, _, _, _, _, _ => none
 | k + 1, x5, x6, x7, x8, x10, x11, x12, x16, x176 => if x176 = true then (some false) else (if (wrap64 (x12 + 1)) < (x10.length : Int) then (worldmintlaw28_ClearGroups.l0 k x5 x6 x7 x8 x10 (wrap64 (x11 + x16)) (wrap64 (x12 + 1))) else (if x16 = x8 then (worldmintlaw28_ClearGroups.l0 k x5 x6 x7 x8 x10 x11 (wrap64 (x12 + 1))) else (some false)))
end
def worldmintlaw28_ClearGroups.f (k : Nat) (a0 : Int) (l1 : List Int) : Option (Bool) := (worldmintref27_Lots.f a0).bind fun t509 => ((worldmintref27_Bids.f k t509 l1 9).bind fun t510 => ((worldmintlaw28_given.f k t510).bind fun t513 => ((clear_Best.f t509 t513).bind fun bt516 => ((bids_Parts.f t513).bind fun t521 => ((bids_Reduce.f k t513).bind fun t524 => (if t521.length < 5864062014805 then ((some (t521 ++ [t524] : List (List Int))).bind fun y527 => (if bt516.2.2 = 0 then ((bids_Feasible.f t513 bt516.1).bind fun t530 => (if t530 = true then ((bids_Value.f k t513 bt516.1).bind fun t531 => (worldmintlaw28_ClearGroups.j0 k t509 t513 bt516.1 bt516.2.1 y527 0 (t531 != bt516.2.1))) else (worldmintlaw28_ClearGroups.j0 k t509 t513 bt516.1 bt516.2.1 y527 0 true))) else (worldmintlaw28_ClearGroups.j0 k t509 t513 bt516.1 bt516.2.1 y527 0 true))) else (none)))))))
def worldmintlaw28_ClearGroups.T23 : Bool × List (List Nat × List Nat) := (true, [([], []), ([], []), ([0, 1], [0, 1]), ([2], [2]), ([], []), ([], []), ([4, 5], [4, 5]), ([6], [6]), ([3, 7], [3, 7])])
def worldmintlaw28_ClearGroups.B23 : List Nat := [0, 0, 3, 7, 0, 0, 48, 112, 255]
theorem worldmintlaw28_ClearGroups.tab23 : rtab .any (opsOf Try.f9 23) = worldmintlaw28_ClearGroups.T23 := by kernel_rfl
theorem worldmintlaw28_ClearGroups.bits23 : waitsOk worldmintlaw28_ClearGroups.T23.2 worldmintlaw28_ClearGroups.B23 = true := by kernel_rfl
def worldmintlaw28_ClearGroups.T29 : Bool × List (List Nat × List Nat) := (true, [([], []), ([], []), ([0, 1], [0, 1]), ([2], [2]), ([3], [3]), ([4], [4]), ([5], [5]), ([5], [5]), ([6, 7, 5], [5, 6, 7]), ([8, 5], [5, 8]), ([5], [5]), ([5], [5]), ([10, 11, 5], [5, 10, 11]), ([12, 5], [5, 12]), ([13, 5], [5, 13]), ([9, 14, 5], [5, 9, 14]), ([5, 15], [5, 15])])
def worldmintlaw28_ClearGroups.B29 : List Nat := [0, 0, 3, 7, 15, 31, 63, 63, 255, 511, 63, 63, 3135, 7231, 15423, 32767, 65535]
theorem worldmintlaw28_ClearGroups.tab29 : rtab .any (opsOf Try.f9 29) = worldmintlaw28_ClearGroups.T29 := by kernel_rfl
theorem worldmintlaw28_ClearGroups.bits29 : waitsOk worldmintlaw28_ClearGroups.T29.2 worldmintlaw28_ClearGroups.B29 = true := by kernel_rfl
def worldmintlaw28_ClearGroups.T31 : Bool × List (List Nat × List Nat) := (true, [([], []), ([], []), ([], []), ([1, 2], [1, 2]), ([3], [3]), ([], []), ([], []), ([5, 6], [5, 6]), ([7], [7]), ([4, 8], [4, 8]), ([9], [9]), ([10], [10]), ([0, 11], [0, 11]), ([12, 12, 0, 1, 2, 3, 4, 5, 6, 7, 8, 9, 10, 11, 12], [0, 12])])
def worldmintlaw28_ClearGroups.B31 : List Nat := [0, 0, 0, 6, 14, 0, 0, 96, 224, 510, 1022, 2046, 4095, 8191]
theorem worldmintlaw28_ClearGroups.tab31 : rtab .any (opsOf Try.f9 31) = worldmintlaw28_ClearGroups.T31 := by kernel_rfl
theorem worldmintlaw28_ClearGroups.bits31 : waitsOk worldmintlaw28_ClearGroups.T31.2 worldmintlaw28_ClearGroups.B31 = true := by kernel_rfl
set_option maxHeartbeats 8000000 in
set_option maxRecDepth 100000 in
theorem worldmintlaw28_ClearGroups.calls (k : Nat) (a0 : Int) (A1 : Option Addr) (c1 : Nat) (l1 : List Int) (r : Bool) (w : World) (hr1 : Kd.C (Kd.int .i64) w A1 l1.length l1) (hc1 : l1.length ≤ c1) (h : worldmintlaw28_ClearGroups.f k a0 l1 = some r) :
  Calls Try.prog 9 #[.int .i64 a0, .slice A1 l1.length c1] w fun e w' => e = .returned (.bool r) ∧ Below w.heap.size w w' := by
 have hu45 := Try.underlying45
 have HR1 := Aside0.mk hr1
 have HC1 := Aside0.mk hc1
 clear hr1 hc1
 have HB := Aside0.mk (Below.refl w.heap.size w)
 have H : ((worldmintref27_Lots.f a0).bind fun t509 => ((worldmintref27_Bids.f k t509 l1 9).bind fun t510 => ((worldmintlaw28_given.f k t510).bind fun t513 => ((clear_Best.f t509 t513).bind fun bt516 => ((bids_Parts.f t513).bind fun t521 => ((bids_Reduce.f k t513).bind fun t524 => (if t521.length < 5864062014805 then ((some (t521 ++ [t524] : List (List Int))).bind fun y527 => (if bt516.2.2 = 0 then ((bids_Feasible.f t513 bt516.1).bind fun t530 => (if t530 = true then ((bids_Value.f k t513 bt516.1).bind fun t531 => (worldmintlaw28_ClearGroups.j0 k t509 t513 bt516.1 bt516.2.1 y527 0 (t531 != bt516.2.1))) else (worldmintlaw28_ClearGroups.j0 k t509 t513 bt516.1 bt516.2.1 y527 0 true))) else (worldmintlaw28_ClearGroups.j0 k t509 t513 bt516.1 bt516.2.1 y527 0 true))) else (none)))))))) = some r := h
 clear h
 replace H := Option.bind_eq_some_iff.mp H
 obtain ⟨t509, A30, H⟩ := H
 replace H : ((worldmintref27_Bids.f k t509 l1 9).bind fun t510 => ((worldmintlaw28_given.f k t510).bind fun t513 => ((clear_Best.f t509 t513).bind fun bt516 => ((bids_Parts.f t513).bind fun t521 => ((bids_Reduce.f k t513).bind fun t524 => (if t521.length < 5864062014805 then ((some (t521 ++ [t524] : List (List Int))).bind fun y527 => (if bt516.2.2 = 0 then ((bids_Feasible.f t513 bt516.1).bind fun t530 => (if t530 = true then ((bids_Value.f k t513 bt516.1).bind fun t531 => (worldmintlaw28_ClearGroups.j0 k t509 t513 bt516.1 bt516.2.1 y527 0 (t531 != bt516.2.1))) else (worldmintlaw28_ClearGroups.j0 k t509 t513 bt516.1 bt516.2.1 y527 0 true))) else (worldmintlaw28_ClearGroups.j0 k t509 t513 bt516.1 bt516.2.1 y527 0 true))) else (none))))))) = some r := H
 have A3 := Aside0.mk A30
 clear A30
 replace H := Option.bind_eq_some_iff.mp H
 obtain ⟨t510, A40, H⟩ := H
 replace H : ((worldmintlaw28_given.f k t510).bind fun t513 => ((clear_Best.f t509 t513).bind fun bt516 => ((bids_Parts.f t513).bind fun t521 => ((bids_Reduce.f k t513).bind fun t524 => (if t521.length < 5864062014805 then ((some (t521 ++ [t524] : List (List Int))).bind fun y527 => (if bt516.2.2 = 0 then ((bids_Feasible.f t513 bt516.1).bind fun t530 => (if t530 = true then ((bids_Value.f k t513 bt516.1).bind fun t531 => (worldmintlaw28_ClearGroups.j0 k t509 t513 bt516.1 bt516.2.1 y527 0 (t531 != bt516.2.1))) else (worldmintlaw28_ClearGroups.j0 k t509 t513 bt516.1 bt516.2.1 y527 0 true))) else (worldmintlaw28_ClearGroups.j0 k t509 t513 bt516.1 bt516.2.1 y527 0 true))) else (none)))))) = some r := H
 have A4 := Aside0.mk A40
 clear A40
 replace H := Option.bind_eq_some_iff.mp H
 obtain ⟨t513, A50, H⟩ := H
 replace H : ((clear_Best.f t509 t513).bind fun bt516 => ((bids_Parts.f t513).bind fun t521 => ((bids_Reduce.f k t513).bind fun t524 => (if t521.length < 5864062014805 then ((some (t521 ++ [t524] : List (List Int))).bind fun y527 => (if bt516.2.2 = 0 then ((bids_Feasible.f t513 bt516.1).bind fun t530 => (if t530 = true then ((bids_Value.f k t513 bt516.1).bind fun t531 => (worldmintlaw28_ClearGroups.j0 k t509 t513 bt516.1 bt516.2.1 y527 0 (t531 != bt516.2.1))) else (worldmintlaw28_ClearGroups.j0 k t509 t513 bt516.1 bt516.2.1 y527 0 true))) else (worldmintlaw28_ClearGroups.j0 k t509 t513 bt516.1 bt516.2.1 y527 0 true))) else (none))))) = some r := H
 have A5 := Aside0.mk A50
 clear A50
 replace H := Option.bind_eq_some_iff.mp H
 obtain ⟨⟨t516, t517, t518⟩, A60, H⟩ := H
 replace H : ((bids_Parts.f t513).bind fun t521 => ((bids_Reduce.f k t513).bind fun t524 => (if t521.length < 5864062014805 then ((some (t521 ++ [t524] : List (List Int))).bind fun y527 => (if t518 = 0 then ((bids_Feasible.f t513 t516).bind fun t530 => (if t530 = true then ((bids_Value.f k t513 t516).bind fun t531 => (worldmintlaw28_ClearGroups.j0 k t509 t513 t516 t517 y527 0 (t531 != t517))) else (worldmintlaw28_ClearGroups.j0 k t509 t513 t516 t517 y527 0 true))) else (worldmintlaw28_ClearGroups.j0 k t509 t513 t516 t517 y527 0 true))) else (none)))) = some r := H
 have A6 := Aside0.mk A60
 clear A60
 replace H := Option.bind_eq_some_iff.mp H
 obtain ⟨t521, A70, H⟩ := H
 replace H : ((bids_Reduce.f k t513).bind fun t524 => (if t521.length < 5864062014805 then ((some (t521 ++ [t524] : List (List Int))).bind fun y527 => (if t518 = 0 then ((bids_Feasible.f t513 t516).bind fun t530 => (if t530 = true then ((bids_Value.f k t513 t516).bind fun t531 => (worldmintlaw28_ClearGroups.j0 k t509 t513 t516 t517 y527 0 (t531 != t517))) else (worldmintlaw28_ClearGroups.j0 k t509 t513 t516 t517 y527 0 true))) else (worldmintlaw28_ClearGroups.j0 k t509 t513 t516 t517 y527 0 true))) else (none))) = some r := H
 have A7 := Aside0.mk A70
 clear A70
 replace H := Option.bind_eq_some_iff.mp H
 obtain ⟨t524, A80, H⟩ := H
 replace H : (if t521.length < 5864062014805 then ((some (t521 ++ [t524] : List (List Int))).bind fun y527 => (if t518 = 0 then ((bids_Feasible.f t513 t516).bind fun t530 => (if t530 = true then ((bids_Value.f k t513 t516).bind fun t531 => (worldmintlaw28_ClearGroups.j0 k t509 t513 t516 t517 y527 0 (t531 != t517))) else (worldmintlaw28_ClearGroups.j0 k t509 t513 t516 t517 y527 0 true))) else (worldmintlaw28_ClearGroups.j0 k t509 t513 t516 t517 y527 0 true))) else (none)) = some r := H
 have A8 := Aside0.mk A80
 clear A80
 by_cases c9 : t521.length < 5864062014805
 ·rw [if_pos c9] at H
  have LMc9 := Aside0.mk c9
  clear c9
  obtain ⟨y527, hy527⟩ : ∃ y_ : List (List Int), y_ = (t521 ++ [t524]) := ⟨_, rfl⟩
  replace H : (if t518 = 0 then ((bids_Feasible.f t513 t516).bind fun t530 => (if t530 = true then ((bids_Value.f k t513 t516).bind fun t531 => (worldmintlaw28_ClearGroups.j0 k t509 t513 t516 t517 y527 0 (t531 != t517))) else (worldmintlaw28_ClearGroups.j0 k t509 t513 t516 t517 y527 0 true))) else (worldmintlaw28_ClearGroups.j0 k t509 t513 t516 t517 y527 0 true)) = some r := by first | (rw [hy527]; with_reducible exact H) | (have H2_ := (Option.bind_some _ _).symm.trans H; rw [hy527]; with_reducible exact H2_) | (have H2_ := (Option.bind_some _ _).symm.trans H; with_reducible exact H2_) | with_reducible exact H | (rw [hy527]; exact H) | exact H
  have Ny527 := Aside0.mk hy527
  clear hy527
  have HC10 := Aside0.mk H
  clear H
  go_enter Try.func9, Try.ntmps9
  go_upto_region 6 with (first | ((with_reducible refine gate_callee (f := 11) rfl ?_); refine goesL_ (some 23) rfl rfl Try.func11 (by kernel_rfl) rfl #[.int .i64 a0] rfl (by (try simp only [List.map_toArray, List.map_cons, List.map_nil]); first | done | rfl | (simp only [List.length_drop, List.length_take]; rfl)) ?_; (with_reducible refine (worldmintref27_Lots.calls a0 t509 _ A3.out).mono ?_); rintro e w' ⟨rfl, ⟨nd, rfl⟩⟩; refine ⟨_, rfl, ?_⟩) | ((with_reducible refine gate_callee (f := 12) rfl ?_); refine goesL_ (some 26) rfl rfl Try.func12 (by kernel_rfl) rfl #[.int .i64 t509, .slice A1 l1.length c1, .int .i64 9] rfl (by (try simp only [List.map_toArray, List.map_cons, List.map_nil]); first | done | rfl | (simp only [List.length_drop, List.length_take]; rfl)) ?_; (with_reducible refine (worldmintref27_Bids.calls k t509 _ _ l1 9 t510 _ ?side1 ?side2 A4.out).mono ?_); (case side1 => repeat (first | exact HR1.out | (with_reducible refine Kd.C_alloc ?_ _) | (with_reducible refine Kd.C_drewN ?_ _) | (with_reducible refine Kd.C_drew ?_))); (case side2 => exact HC1.out); rintro e w11 ⟨v511, rfl, ho0, hb⟩; refine ⟨_, rfl, ?_⟩; have n0_ := Aside0.mk (Kd.N_lower (Kd.N_mono (ok' := fun k_ => True) (Kd.S_N (Kd.S_bound ho0)) (fun k_ hk_ => trivial)) (below_size (by repeat (first | (with_reducible first | exact HB.out | apply below_alloc | apply pw_below_drewN | apply below_drew1) | exact HB.out)))); have n1_ := Aside0.mk (below_step (by repeat (first | (with_reducible first | exact HB.out | apply below_alloc | apply pw_below_drewN | apply below_drew1) | exact HB.out)) hb); clear HB; have HO512 := n0_; have HB := n1_; clear n0_ n1_; (try clear hb); (try clear hb2); (try clear hk); (try clear hi); (try clear ho0); obtain ⟨Ao12, co12, eo12⟩ := Kd.N_slice HO512.out; subst eo12) | ((with_reducible refine gate_callee (f := 15) rfl ?_); refine goesL_ (some 27) rfl rfl Try.func15 (by kernel_rfl) rfl #[.slice Ao12 t510.length co12] rfl (by (try simp only [List.map_toArray, List.map_cons, List.map_nil]); first | done | rfl | (simp only [List.length_drop, List.length_take]; rfl)) ?_; (with_reducible refine (worldmintlaw28_given.calls k (fun k_ => True) _ _ t510 t513 _ ?side1 A5.out).mono ?_); (case side1 => exact Kd.N_V (HO512.out)); rintro e w13 ⟨v514, rfl, ho0, hb⟩; refine ⟨_, rfl, ?_⟩; have n0_ := Aside0.mk (Kd.N_elder' (by (with_reducible repeat (first | apply Kd.N_alloc | apply Kd.N_drewN | apply Kd.N_drew)); exact HO512.out) (by first | exact Kd.N_base ho0 | exact Kd.N_base (Kd.S_N ho0)) hb); have n1_ := Aside0.mk (Kd.N_lower (Kd.N_mono (ok' := fun k_ => True) ho0 (fun k_ hk_ => trivial)) (below_size (by repeat (first | (with_reducible first | exact HB.out | apply below_alloc | apply pw_below_drewN | apply below_drew1) | exact HB.out)))); have n2_ := Aside0.mk (below_step (by repeat (first | (with_reducible first | exact HB.out | apply below_alloc | apply pw_below_drewN | apply below_drew1) | exact HB.out)) hb); clear HO512; clear HB; have HO512 := n0_; have HO515 := n1_; have HB := n2_; clear n0_ n1_ n2_; (try clear hb); (try clear hb2); (try clear hk); (try clear hi); (try clear ho0); obtain ⟨Ao14, co14, eo14⟩ := Kd.N_slice HO515.out; subst eo14) | ((with_reducible refine gate_callee (f := 24) rfl ?_); refine goesL_ (some 31) rfl rfl Try.func24 (by kernel_rfl) rfl #[.int .i64 t509, .slice Ao14 t513.length co14] rfl (by (try simp only [List.map_toArray, List.map_cons, List.map_nil]); first | done | rfl | (simp only [List.length_drop, List.length_take]; rfl)) ?_; (with_reducible refine (clear_Best.calls t509 _ _ t513 t516 t517 t518 _ ?side1 ?side2 A6.out).mono ?_); (case side1 => repeat (first | exact (Kd.N_reads' HO515.out).2.2 | (with_reducible refine Kd.C_alloc ?_ _) | (with_reducible refine Kd.C_drewN ?_ _) | (with_reducible refine Kd.C_drew ?_))); (case side2 => exact (Kd.N_reads' HO515.out).2.1); rintro e w15 ⟨v519, rfl, ho0, hb⟩; refine ⟨_, rfl, ?_⟩; have n0_ := Aside0.mk (Kd.N_elder' (by (with_reducible repeat (first | apply Kd.N_alloc | apply Kd.N_drewN | apply Kd.N_drew)); exact HO512.out) (Kd.R_base ho0) hb); have n1_ := Aside0.mk (Kd.N_elder' (by (with_reducible repeat (first | apply Kd.N_alloc | apply Kd.N_drewN | apply Kd.N_drew)); exact HO515.out) (Kd.R_base ho0) hb); have n2_ := Aside0.mk (Kd.R_lower ho0 (below_size (by repeat (first | (with_reducible first | exact HB.out | apply below_alloc | apply pw_below_drewN | apply below_drew1) | exact HB.out)))); have n3_ := Aside0.mk (below_step (by repeat (first | (with_reducible first | exact HB.out | apply below_alloc | apply pw_below_drewN | apply below_drew1) | exact HB.out)) hb); clear HO512; clear HO515; clear HB; have HO512 := n0_; have HO515 := n1_; have HO520 := n2_; have HB := n3_; clear n0_ n1_ n2_ n3_; (try clear hb); (try clear hb2); (try clear hk); (try clear hi); (try clear ho0)) | ((with_reducible refine gate_callee (f := 31) rfl ?_); refine goesL_ (some 36) rfl rfl Try.func31 (by kernel_rfl) rfl #[.slice Ao14 t513.length co14] rfl (by (try simp only [List.map_toArray, List.map_cons, List.map_nil]); first | done | rfl | (simp only [List.length_drop, List.length_take]; rfl)) ?_; (with_reducible refine (bids_Parts.calls _ _ t513 t521 _ ?side1 ?side2 A7.out).mono ?_); (case side1 => repeat (first | exact (Kd.N_reads' HO515.out).2.2 | (with_reducible refine Kd.C_alloc ?_ _) | (with_reducible refine Kd.C_drewN ?_ _) | (with_reducible refine Kd.C_drew ?_))); (case side2 => exact (Kd.N_reads' HO515.out).2.1); rintro e w16 ⟨v522, rfl, ho0, hb⟩; refine ⟨_, rfl, ?_⟩; have n0_ := Aside0.mk (Kd.N_elder' (by (with_reducible repeat (first | apply Kd.N_alloc | apply Kd.N_drewN | apply Kd.N_drew)); exact HO512.out) (by first | exact Kd.N_base ho0 | exact Kd.N_base (Kd.S_N ho0)) hb); have n1_ := Aside0.mk (Kd.N_elder' (by (with_reducible repeat (first | apply Kd.N_alloc | apply Kd.N_drewN | apply Kd.N_drew)); exact HO515.out) (by first | exact Kd.N_base ho0 | exact Kd.N_base (Kd.S_N ho0)) hb); have n2_ := Aside0.mk (Kd.R_below (by (with_reducible repeat (first | apply Kd.R_alloc | apply Kd.R_drewN | apply Kd.R_drew)); exact HO520.out) hb); have n3_ := Aside0.mk (Kd.N_lower (Kd.N_mono (ok' := fun k_ => some k_ ≠ (.slice Ao12 t510.length co12 : Value).ownBlock ∧ some k_ ≠ (.slice Ao14 t513.length co14 : Value).ownBlock ∧ some k_ ≠ (v519 : Value).ownBlock) (Kd.S_N (Kd.S_bound ho0)) (fun k_ hk_ => ⟨(Kd.fresh' (Kd.N_lt (by (with_reducible repeat (first | apply Kd.N_alloc | apply Kd.N_drewN | apply Kd.N_drew)); exact HO512.out)) k_ hk_.2.1), (Kd.fresh' (Kd.N_lt (by (with_reducible repeat (first | apply Kd.N_alloc | apply Kd.N_drewN | apply Kd.N_drew)); exact HO515.out)) k_ hk_.2.1), (Kd.fresh' (Kd.R_lt (by (with_reducible repeat (first | apply Kd.R_alloc | apply Kd.R_drewN | apply Kd.R_drew)); exact HO520.out)) k_ hk_.2.1)⟩)) (below_size (by repeat (first | (with_reducible first | exact HB.out | apply below_alloc | apply pw_below_drewN | apply below_drew1) | exact HB.out)))); have n4_ := Aside0.mk (below_step (by repeat (first | (with_reducible first | exact HB.out | apply below_alloc | apply pw_below_drewN | apply below_drew1) | exact HB.out)) hb); clear HO512; clear HO515; clear HO520; clear HB; have HO512 := n0_; have HO515 := n1_; have HO520 := n2_; have HO523 := n3_; have HB := n4_; clear n0_ n1_ n2_ n3_ n4_; (try clear hb); (try clear hb2); (try clear hk); (try clear hi); (try clear ho0)) | ((with_reducible refine gate_callee (f := 32) rfl ?_); refine goesL_ (some 38) rfl rfl Try.func32 (by kernel_rfl) rfl #[.slice Ao14 t513.length co14] rfl (by (try simp only [List.map_toArray, List.map_cons, List.map_nil]); first | done | rfl | (simp only [List.length_drop, List.length_take]; rfl)) ?_; (with_reducible refine (bids_Reduce.calls k _ _ t513 t524 _ ?side1 ?side2 A8.out).mono ?_); (case side1 => repeat (first | exact (Kd.N_reads' HO515.out).2.2 | (with_reducible refine Kd.C_alloc ?_ _) | (with_reducible refine Kd.C_drewN ?_ _) | (with_reducible refine Kd.C_drew ?_))); (case side2 => exact (Kd.N_reads' HO515.out).2.1); rintro e w17 ⟨v525, rfl, ho0, hb⟩; refine ⟨_, rfl, ?_⟩; have n0_ := Aside0.mk (Kd.N_elder' (by (with_reducible repeat (first | apply Kd.N_alloc | apply Kd.N_drewN | apply Kd.N_drew)); exact HO512.out) (Kd.R_base ho0) hb); have n1_ := Aside0.mk (Kd.N_elder' (by (with_reducible repeat (first | apply Kd.N_alloc | apply Kd.N_drewN | apply Kd.N_drew)); exact HO515.out) (Kd.R_base ho0) hb); have n2_ := Aside0.mk (Kd.R_elder' (by (with_reducible repeat (first | apply Kd.R_alloc | apply Kd.R_drewN | apply Kd.R_drew)); exact HO520.out) (Kd.R_base ho0) hb); have n3_ := Aside0.mk (Kd.N_elder' (by (with_reducible repeat (first | apply Kd.N_alloc | apply Kd.N_drewN | apply Kd.N_drew)); exact HO523.out) (Kd.R_base ho0) hb); have n4_ := Aside0.mk (Kd.R_lower (Kd.R_new' ho0 (Kd.R_lt (by (with_reducible repeat (first | apply Kd.R_alloc | apply Kd.R_drewN | apply Kd.R_drew)); exact HO520.out))) (below_size (by repeat (first | (with_reducible first | exact HB.out | apply below_alloc | apply pw_below_drewN | apply below_drew1) | exact HB.out)))); have n5_ := Aside0.mk (below_step (by repeat (first | (with_reducible first | exact HB.out | apply below_alloc | apply pw_below_drewN | apply below_drew1) | exact HB.out)) hb); clear HO512; clear HO515; clear HO520; clear HO523; clear HB; have HO512 := n0_; have HO515 := n1_; have HO520 := n2_; have HO523 := n3_; have HO526 := n4_; have HB := n5_; clear n0_ n1_ n2_ n3_ n4_ n5_; (try clear hb); (try clear hb2); (try clear hk); (try clear hi); (try clear ho0); obtain ⟨Ao19, co19, eo19⟩ := Kd.R_slice HO526.out; subst eo19) | ((with_reducible refine gate_builtin (b := .append) (xs := #[.tmp 36, .tmp 39]) rfl ?_); (try (refine gate_guard (by rfl) ?_; dsimp only)); at_builtin; refine Kd.N_append (Kd.slice 3 (Kd.int .i64)) (w0 := w) w.heap.size rfl (.tmp 36) (.tmp 39) 39 22 (.slice none 0 0) 24 rfl Try.underlying39 info22 rfl (by decide) (by omega) v522 t521 t524 [.slice Ao19 t524.length co19] (fun k_ => some k_ ≠ (.slice Ao12 t510.length co12 : Value).ownBlock ∧ some k_ ≠ (.slice Ao14 t513.length co14 : Value).ownBlock ∧ some k_ ≠ (v519 : Value).ownBlock) (fun k_ => ((fun k_ => some k_ ≠ (.slice Ao12 t510.length co12 : Value).ownBlock ∧ some k_ ≠ (.slice Ao14 t513.length co14 : Value).ownBlock ∧ some k_ ≠ (v519 : Value).ownBlock)) k_ ∧ some k_ ≠ (v522 : Value).ownBlock) rfl rfl ?aP (fun _ hk => hk) ?aF ?aO ?aB ?aS ?aL ?_; (case aP => exact (Kd.FK_slice_mk (Kd.R_reads' (Kd.R_mono (ok' := (fun k_ => ((fun k_ => some k_ ≠ (.slice Ao12 t510.length co12 : Value).ownBlock ∧ some k_ ≠ (.slice Ao14 t513.length co14 : Value).ownBlock ∧ some k_ ≠ (v519 : Value).ownBlock)) k_ ∧ some k_ ≠ (v522 : Value).ownBlock)) (Kd.R_apart' (Kd.R_apart' (Kd.R_apart' (HO526.out) (Kd.N_typed HO512.out) (by decide)) (Kd.N_typed HO515.out) (by decide)) (Kd.N_typed HO523.out) (by decide)) (fun k_ hk => ⟨⟨hk.1.1.2, ⟨hk.1.2, hk.1.1.1.2⟩⟩, hk.2⟩))).2.1 (Kd.R_F (Kd.R_mono (ok' := (fun k_ => ((fun k_ => some k_ ≠ (.slice Ao12 t510.length co12 : Value).ownBlock ∧ some k_ ≠ (.slice Ao14 t513.length co14 : Value).ownBlock ∧ some k_ ≠ (v519 : Value).ownBlock)) k_ ∧ some k_ ≠ (v522 : Value).ownBlock)) (Kd.R_apart' (Kd.R_apart' (Kd.R_apart' (HO526.out) (Kd.N_typed HO512.out) (by decide)) (Kd.N_typed HO515.out) (by decide)) (Kd.N_typed HO523.out) (by decide)) (fun k_ hk => ⟨⟨hk.1.1.2, ⟨hk.1.2, hk.1.1.1.2⟩⟩, hk.2⟩))))); (case aB => exact (by repeat (first | (with_reducible first | exact HB.out | apply below_alloc | apply pw_below_drewN | apply below_drew1) | exact HB.out))); (case aF => exact (fun k_ hk => ⟨Kd.fresh' (Kd.N_lt (by (with_reducible repeat (first | apply Kd.N_alloc | apply Kd.N_drewN | apply Kd.N_drew)); exact HO512.out)) k_ hk, Kd.fresh' (Kd.N_lt (by (with_reducible repeat (first | apply Kd.N_alloc | apply Kd.N_drewN | apply Kd.N_drew)); exact HO515.out)) k_ hk, Kd.fresh' (Kd.R_lt (by (with_reducible repeat (first | apply Kd.R_alloc | apply Kd.R_drewN | apply Kd.R_drew)); exact HO520.out)) k_ hk⟩)); (case aO => exact (by (with_reducible repeat (first | apply Kd.N_alloc | apply Kd.N_drewN | apply Kd.N_drew)); exact Kd.N_mono HO523.out (fun _ hk => ⟨hk.1.1, ⟨hk.1.2.1, hk.1.2.2⟩⟩))); (case aS => exact (below_size (by repeat (first | (with_reducible first | exact HB.out | apply below_alloc | apply pw_below_drewN | apply below_drew1) | exact HB.out)))); (case aL => have := LMc9.out; omega); intro v528 w18 ho hb hg hat; rw [← Ny527.out] at ho; have n0_ := Aside0.mk (Kd.N_afterv (ok := (fun k_ => some k_ ≠ (.slice Ao14 t513.length co14 : Value).ownBlock ∧ some k_ ≠ (v519 : Value).ownBlock ∧ some k_ ≠ (.slice Ao19 t524.length co19 : Value).ownBlock)) (by (with_reducible repeat (first | apply Kd.N_alloc | apply Kd.N_drewN | apply Kd.N_drew)); exact Kd.N_mono HO512.out (fun _ hk => ⟨⟨hk.1.1.1.2, ⟨hk.1.1.2, hk.2⟩⟩, hk.1.2⟩)) hg hat); have n1_ := Aside0.mk (Kd.N_afterv (ok := (fun k_ => some k_ ≠ (v519 : Value).ownBlock ∧ some k_ ≠ (.slice Ao19 t524.length co19 : Value).ownBlock)) (by (with_reducible repeat (first | apply Kd.N_alloc | apply Kd.N_drewN | apply Kd.N_drew)); exact Kd.N_mono HO515.out (fun _ hk => ⟨⟨hk.1.1.2, hk.2⟩, hk.1.2⟩)) hg hat); have n2_ := Aside0.mk (Kd.R_over' (by (with_reducible repeat (first | apply Kd.R_alloc | apply Kd.R_drewN | apply Kd.R_drew)); exact HO520.out) (Kd.N_typed (by (with_reducible repeat (first | apply Kd.N_alloc | apply Kd.N_drewN | apply Kd.N_drew)); exact HO523.out)) (by decide) hg); have n3_ := Aside0.mk (hb); have n4_ := Aside0.mk (ho); clear HO512; clear HO515; clear HO520; clear HB; clear HO523; clear HO526; have HO512 := n0_; have HO515 := n1_; have HO520 := n2_; have HB := n3_; have HO529 := n4_; clear n0_ n1_ n2_ n3_ n4_; clear ho hb hg hat))
  (try simp only [Act.put, List.setIfInBounds_toArray, List.set_cons_zero, List.set_cons_succ])
  go_cut [55] (fun v55 wc => ∃ (kq : Nat) (x55_9 : Bool), v55 = .bool x55_9 ∧ Aside0 (worldmintlaw28_ClearGroups.j0 kq t509 t513 t516 t517 y527 0 x55_9 = some r) ∧ Aside0 (kq ≤ k) ∧ Aside0 (Kd.N k45 45 wc w.heap.size (fun k_ => some k_ ≠ (v519 : Value).ownBlock ∧ some k_ ≠ (v528 : Value).ownBlock) (.slice Ao14 t513.length co14) t513) ∧ Aside0 (Kd.R (Kd.int .i64) 3 wc w.heap.size (fun _ => True) v519 t516) ∧ Aside0 (Kd.N (Kd.slice 3 (Kd.int .i64)) 22 wc w.heap.size (fun k_ => some k_ ≠ ((.slice Ao14 t513.length co14) : Value).ownBlock ∧ some k_ ≠ (v519 : Value).ownBlock) v528 y527) ∧ Aside0 (Below w.heap.size w wc))
  case first =>
   have H := HC10.out
   clear HC10
   by_cases c20 : t518 = 0
   ·rw [if_pos c20] at H
    have c20b0 : (t518 == 0) = true := beq_iff_eq.mpr c20
    have c20b1 : (t518 != 0) = false := bne_eq_false_iff_eq.mpr c20
    clear c20
    (first | rw [c20b0] | (simp only [i64_w, i32_w]; rw [c20b0]) | skip)
    replace H := Option.bind_eq_some_iff.mp H
    obtain ⟨t530, A210, H⟩ := H
    replace H : (if t530 = true then ((bids_Value.f k t513 t516).bind fun t531 => (worldmintlaw28_ClearGroups.j0 k t509 t513 t516 t517 y527 0 (t531 != t517))) else (worldmintlaw28_ClearGroups.j0 k t509 t513 t516 t517 y527 0 true)) = some r := H
    have A21 := Aside0.mk A210
    clear A210
    by_cases c22 : t530 = true
    ·subst c22
     have H1 : ((bids_Value.f k t513 t516).bind fun t531 => (worldmintlaw28_ClearGroups.j0 k t509 t513 t516 t517 y527 0 (t531 != t517))) = some r := by rw [if_pos rfl] at H; exact H
     clear H
     have H := H1
     clear H1
     replace H := Option.bind_eq_some_iff.mp H
     obtain ⟨t531, A230, H⟩ := H
     replace H : (worldmintlaw28_ClearGroups.j0 k t509 t513 t516 t517 y527 0 (t531 != t517)) = some r := H
     have A23 := Aside0.mk A230
     clear A230
     have H' := Aside0.mk H
     clear H
     obtain ⟨Ao24, co24, eo24⟩ := Kd.R_slice HO520.out
     subst eo24
     go_wp2_with (first | (go_at_call 29; (with_reducible refine (bids_Feasible.calls _ _ t513 _ _ t516 true _ ?side1 ?side2 ?side3 ?side4 A21.out).mono ?_); (case side1 => repeat (first | exact (Kd.N_reads' HO515.out).2.2 | (with_reducible refine Kd.C_alloc ?_ _) | (with_reducible refine Kd.C_drewN ?_ _) | (with_reducible refine Kd.C_drew ?_))); (case side2 => exact (Kd.N_reads' HO515.out).2.1); (case side3 => repeat (first | exact (Kd.R_reads' HO520.out).2.2 | (with_reducible refine Kd.C_alloc ?_ _) | (with_reducible refine Kd.C_drewN ?_ _) | (with_reducible refine Kd.C_drew ?_))); (case side4 => exact (Kd.R_reads' HO520.out).2.1); rintro e w25 ⟨rfl, hb⟩; have n0_ := Aside0.mk (Kd.N_below (by (with_reducible repeat (first | apply Kd.N_alloc | apply Kd.N_drewN | apply Kd.N_drew)); exact HO512.out) hb); have n1_ := Aside0.mk (Kd.N_below (by (with_reducible repeat (first | apply Kd.N_alloc | apply Kd.N_drewN | apply Kd.N_drew)); exact HO515.out) hb); have n2_ := Aside0.mk (Kd.R_below (by (with_reducible repeat (first | apply Kd.R_alloc | apply Kd.R_drewN | apply Kd.R_drew)); exact HO520.out) hb); have n3_ := Aside0.mk (Kd.N_below (by (with_reducible repeat (first | apply Kd.N_alloc | apply Kd.N_drewN | apply Kd.N_drew)); exact HO529.out) hb); have n4_ := Aside0.mk (below_step (by repeat (first | (with_reducible first | exact HB.out | apply below_alloc | apply pw_below_drewN | apply below_drew1) | exact HB.out)) hb); clear HO512; clear HO515; clear HO520; clear HO529; clear HB; have HO512 := n0_; have HO515 := n1_; have HO520 := n2_; have HO529 := n3_; have HB := n4_; clear n0_ n1_ n2_ n3_ n4_; (try clear hb); (try clear hb2); (try clear hk); (try clear hi)) | (go_at_call 30; (with_reducible refine (bids_Value.calls k _ _ t513 _ _ t516 t531 _ ?side1 ?side2 ?side3 ?side4 A23.out).mono ?_); (case side1 => repeat (first | exact (Kd.N_reads' HO515.out).2.2 | (with_reducible refine Kd.C_alloc ?_ _) | (with_reducible refine Kd.C_drewN ?_ _) | (with_reducible refine Kd.C_drew ?_))); (case side2 => exact (Kd.N_reads' HO515.out).2.1); (case side3 => repeat (first | exact (Kd.R_reads' HO520.out).2.2 | (with_reducible refine Kd.C_alloc ?_ _) | (with_reducible refine Kd.C_drewN ?_ _) | (with_reducible refine Kd.C_drew ?_))); (case side4 => exact (Kd.R_reads' HO520.out).2.1); rintro e w' ⟨rfl, ⟨nd, rfl⟩⟩))
     go_meet
     case rel => exact ⟨_, ((t531 != t517)), (by first | rfl | (simp; done) | (simp [*]; done)), H', ⟨by first | omega | exact Nat.le_refl _⟩, ⟨by (with_reducible repeat (first | apply Kd.N_alloc | apply Kd.N_drewN | apply Kd.N_drew)); exact Kd.N_mono HO515.out (fun _ hk => ⟨hk.1.1, hk.2⟩)⟩, ⟨by (with_reducible repeat (first | apply Kd.R_alloc | apply Kd.R_drewN | apply Kd.R_drew)); exact Kd.R_mono HO520.out (fun _ hk => trivial)⟩, ⟨by (with_reducible repeat (first | apply Kd.N_alloc | apply Kd.N_drewN | apply Kd.N_drew)); exact Kd.N_mono HO529.out (fun _ hk => ⟨hk.2.1, hk.2.2⟩)⟩, ⟨by repeat (first | (with_reducible first | exact HB.out | apply below_alloc | apply pw_below_drewN | apply below_drew1) | exact HB.out)⟩⟩
    ·replace c22 := Bool.eq_false_iff.mpr c22
     subst c22
     have H1 : (worldmintlaw28_ClearGroups.j0 k t509 t513 t516 t517 y527 0 true) = some r := by rw [if_neg (show ¬ (false = true) by decide)] at H; exact H
     clear H
     have H := H1
     clear H1
     have H' := Aside0.mk H
     clear H
     obtain ⟨Ao26, co26, eo26⟩ := Kd.R_slice HO520.out
     subst eo26
     go_wp2_with (first | (go_at_call 29; (with_reducible refine (bids_Feasible.calls _ _ t513 _ _ t516 false _ ?side1 ?side2 ?side3 ?side4 A21.out).mono ?_); (case side1 => repeat (first | exact (Kd.N_reads' HO515.out).2.2 | (with_reducible refine Kd.C_alloc ?_ _) | (with_reducible refine Kd.C_drewN ?_ _) | (with_reducible refine Kd.C_drew ?_))); (case side2 => exact (Kd.N_reads' HO515.out).2.1); (case side3 => repeat (first | exact (Kd.R_reads' HO520.out).2.2 | (with_reducible refine Kd.C_alloc ?_ _) | (with_reducible refine Kd.C_drewN ?_ _) | (with_reducible refine Kd.C_drew ?_))); (case side4 => exact (Kd.R_reads' HO520.out).2.1); rintro e w27 ⟨rfl, hb⟩; have n0_ := Aside0.mk (Kd.N_below (by (with_reducible repeat (first | apply Kd.N_alloc | apply Kd.N_drewN | apply Kd.N_drew)); exact HO512.out) hb); have n1_ := Aside0.mk (Kd.N_below (by (with_reducible repeat (first | apply Kd.N_alloc | apply Kd.N_drewN | apply Kd.N_drew)); exact HO515.out) hb); have n2_ := Aside0.mk (Kd.R_below (by (with_reducible repeat (first | apply Kd.R_alloc | apply Kd.R_drewN | apply Kd.R_drew)); exact HO520.out) hb); have n3_ := Aside0.mk (Kd.N_below (by (with_reducible repeat (first | apply Kd.N_alloc | apply Kd.N_drewN | apply Kd.N_drew)); exact HO529.out) hb); have n4_ := Aside0.mk (below_step (by repeat (first | (with_reducible first | exact HB.out | apply below_alloc | apply pw_below_drewN | apply below_drew1) | exact HB.out)) hb); clear HO512; clear HO515; clear HO520; clear HO529; clear HB; have HO512 := n0_; have HO515 := n1_; have HO520 := n2_; have HO529 := n3_; have HB := n4_; clear n0_ n1_ n2_ n3_ n4_; (try clear hb); (try clear hb2); (try clear hk); (try clear hi)))
     go_meet
     case rel => exact ⟨_, (true), (by first | rfl | (simp; done) | (simp [*]; done)), H', ⟨by first | omega | exact Nat.le_refl _⟩, ⟨by (with_reducible repeat (first | apply Kd.N_alloc | apply Kd.N_drewN | apply Kd.N_drew)); exact Kd.N_mono HO515.out (fun _ hk => ⟨hk.1.1, hk.2⟩)⟩, ⟨by (with_reducible repeat (first | apply Kd.R_alloc | apply Kd.R_drewN | apply Kd.R_drew)); exact Kd.R_mono HO520.out (fun _ hk => trivial)⟩, ⟨by (with_reducible repeat (first | apply Kd.N_alloc | apply Kd.N_drewN | apply Kd.N_drew)); exact Kd.N_mono HO529.out (fun _ hk => ⟨hk.2.1, hk.2.2⟩)⟩, ⟨by repeat (first | (with_reducible first | exact HB.out | apply below_alloc | apply pw_below_drewN | apply below_drew1) | exact HB.out)⟩⟩
   ·rw [if_neg c20] at H
    have c20b0 : (t518 == 0) = false := beq_eq_false_iff_ne.mpr c20
    have c20b1 : (t518 != 0) = true := bne_iff_ne.mpr c20
    (first | rw [c20b0] | (simp only [i64_w, i32_w]; rw [c20b0]) | skip)
    have H' := Aside0.mk H
    clear H
    go_wp2
    go_meet
    case rel => exact ⟨_, (true), (by first | rfl | (simp; done) | (simp [*]; done)), H', ⟨by first | omega | exact Nat.le_refl _⟩, ⟨by (with_reducible repeat (first | apply Kd.N_alloc | apply Kd.N_drewN | apply Kd.N_drew)); exact Kd.N_mono HO515.out (fun _ hk => ⟨hk.1.1, hk.2⟩)⟩, ⟨by (with_reducible repeat (first | apply Kd.R_alloc | apply Kd.R_drewN | apply Kd.R_drew)); exact Kd.R_mono HO520.out (fun _ hk => trivial)⟩, ⟨by (with_reducible repeat (first | apply Kd.N_alloc | apply Kd.N_drewN | apply Kd.N_drew)); exact Kd.N_mono HO529.out (fun _ hk => ⟨hk.2.1, hk.2.2⟩)⟩, ⟨by repeat (first | (with_reducible first | exact HB.out | apply below_alloc | apply pw_below_drewN | apply below_drew1) | exact HB.out)⟩⟩
  case rest =>
   clear HC10
   try clear c1
   try clear c2
   try clear p2
   try clear c3
   try clear c9
   try clear c11
   try clear c12
   try clear c15
   try clear c20
   try clear c20b0
   try clear c20b1
   try clear c22
   try clear c24
   obtain ⟨kq, x55_9, rfl, HA, HJ9, HO_6, HO_7, HO_10, HB⟩ := hcut
   cases kq with
   | zero => exact absurd HA.out (by simp [worldmintlaw28_ClearGroups.j0])
   | succ kj9 =>
    have H := HA.out
    clear HA
    simp only [worldmintlaw28_ClearGroups.j0] at H
    by_cases c28 : x55_9 = true
    ·subst c28
     have H1 : (some false) = some r := by rw [if_pos rfl] at H; exact H
     clear H
     have H := H1
     clear H1
     obtain rfl := Option.some.inj H
     go_wp2
     go_ret
     exact ⟨by first | rfl | (simp [errW_none, errW_some] <;> rfl) | (simp [*, errW_none, errW_some] <;> rfl), by repeat (first | (with_reducible first | exact HB.out | apply below_alloc | apply pw_below_drewN | apply below_drew1) | exact HB.out)⟩
    ·replace c28 := Bool.eq_false_iff.mpr c28
     subst c28
     have H1 : (worldmintlaw28_ClearGroups.l0 kj9 t509 t513 t516 t517 y527 0 0) = some r := by rw [if_neg (show ¬ (false = true) by decide)] at H; exact H
     clear H
     have H := H1
     clear H1
     have H' := Aside0.mk H
     clear H
     go_wp2
     go_loopg [11, 12] kj9 (fun kq v11 v12 w' => ∃ (x11_2 : Int) (x12_2 : Int), v11 = .int .i64 x11_2 ∧ v12 = .int .i64 x12_2 ∧ Aside0 (worldmintlaw28_ClearGroups.l0 kq t509 t513 t516 t517 y527 x11_2 x12_2 = some r) ∧ Aside0 (kq ≤ kj9) ∧ Aside0 (Kd.N k45 45 w' w.heap.size (fun k_ => some k_ ≠ (v519 : Value).ownBlock ∧ some k_ ≠ (v528 : Value).ownBlock) (.slice Ao14 t513.length co14) t513) ∧ Aside0 (Kd.R (Kd.int .i64) 3 w' w.heap.size (fun _ => True) v519 t516) ∧ Aside0 (Kd.N (Kd.slice 3 (Kd.int .i64)) 22 w' w.heap.size (fun k_ => some k_ ≠ ((.slice Ao14 t513.length co14) : Value).ownBlock ∧ some k_ ≠ (v519 : Value).ownBlock) v528 y527) ∧ Aside0 (Below w.heap.size w w'))
     case atStart => exact ⟨(0), (0), (by first | rfl | (simp; done) | (simp [*]; done)), (by first | rfl | (simp; done) | (simp [*]; done)), H', ⟨Nat.le_refl _⟩, ⟨by (with_reducible repeat (first | apply Kd.N_alloc | apply Kd.N_drewN | apply Kd.N_drew)); exact HO_6.out⟩, ⟨by (with_reducible repeat (first | apply Kd.R_alloc | apply Kd.R_drewN | apply Kd.R_drew)); exact HO_7.out⟩, ⟨by (with_reducible repeat (first | apply Kd.N_alloc | apply Kd.N_drewN | apply Kd.N_drew)); exact HO_10.out⟩, ⟨by repeat (first | (with_reducible first | exact HB.out | apply below_alloc | apply pw_below_drewN | apply below_drew1) | exact HB.out)⟩⟩
     case round =>
      clear H'
      try clear c1
      try clear c2
      try clear p2
      try clear c3
      try clear c9
      try clear c11
      try clear c12
      try clear c15
      try clear c20
      try clear c20b0
      try clear c20b1
      try clear c22
      try clear c24
      try clear c28
      try clear p2
      obtain ⟨x11_2, x12_2, rfl, rfl, HA, HK2, HO_6, HO_7, HO_10, HB⟩ := hrel
      cases gk with
      | zero => exact absurd HA.out (by simp [worldmintlaw28_ClearGroups.l0])
      | succ k2 =>
       have H := HA.out
       clear HA
       simp only [worldmintlaw28_ClearGroups.l0] at H
       by_cases c29 : x12_2 < (y527.length : Int)
       ·rw [if_pos c29] at H
        have c29b0 : decide (x12_2 < (y527.length : Int)) = true := decide_eq_true c29
        clear c29
        have H' := Aside0.mk H
        clear H
        obtain ⟨Ao30, co30, eo30⟩ := Kd.N_slice HO_10.out
        subst eo30
        go_wp2
        go_loopg [13, 14] k2 (fun kq v13 v14 w' => ∃ (x13_3 : List (S45)) (x14_3 : Int), v14 = .int .i64 x14_3 ∧ Aside0 (worldmintlaw28_ClearGroups.l1 kq t509 t513 t516 t517 y527 x11_2 x12_2 x13_3 x14_3 = some r) ∧ Aside0 (kq ≤ k2) ∧ Aside0 (Kd.N k45 45 w' w.heap.size (fun k_ => some k_ ≠ (v519 : Value).ownBlock ∧ some k_ ≠ ((.slice Ao30 y527.length co30) : Value).ownBlock ∧ some k_ ≠ (v13 : Value).ownBlock) (.slice Ao14 t513.length co14) t513) ∧ Aside0 (Kd.R (Kd.int .i64) 3 w' w.heap.size (fun _ => True) v519 t516) ∧ Aside0 (Kd.N (Kd.slice 3 (Kd.int .i64)) 22 w' w.heap.size (fun k_ => some k_ ≠ ((.slice Ao14 t513.length co14) : Value).ownBlock ∧ some k_ ≠ (v519 : Value).ownBlock ∧ some k_ ≠ (v13 : Value).ownBlock) (.slice Ao30 y527.length co30) y527) ∧ Aside0 (Kd.N k45 45 w' w.heap.size (fun k_ => some k_ ≠ ((.slice Ao14 t513.length co14) : Value).ownBlock ∧ some k_ ≠ (v519 : Value).ownBlock ∧ some k_ ≠ ((.slice Ao30 y527.length co30) : Value).ownBlock) v13 x13_3) ∧ Aside0 (Below w.heap.size w w'))
        case atStart => exact ⟨(([] : List (S45))), (0), (by first | rfl | (simp; done) | (simp [*]; done)), H', ⟨Nat.le_refl _⟩, ⟨by (with_reducible repeat (first | apply Kd.N_alloc | apply Kd.N_drewN | apply Kd.N_drew)); exact Kd.N_mono HO_6.out (fun _ hk => ⟨hk.1, ⟨hk.2, (by simp [Value.ownBlock])⟩⟩)⟩, ⟨by (with_reducible repeat (first | apply Kd.R_alloc | apply Kd.R_drewN | apply Kd.R_drew)); exact HO_7.out⟩, ⟨by (with_reducible repeat (first | apply Kd.N_alloc | apply Kd.N_drewN | apply Kd.N_drew)); exact Kd.N_mono HO_10.out (fun _ hk => ⟨hk.1, ⟨hk.2, (by simp [Value.ownBlock])⟩⟩)⟩, ⟨by first | exact Kd.S_nil _ _ _ _ _ | exact Kd.N_nil _ _ _ _ _ | exact Kd.V_nil _ _ _ _ _ | exact Kd.Q_nil _ _ _ _ _ | exact Kd.R_nil _ _ _ _ _⟩, ⟨by repeat (first | (with_reducible first | exact HB.out | apply below_alloc | apply pw_below_drewN | apply below_drew1) | exact HB.out)⟩⟩
        case round =>
         clear H'
         try clear c1
         try clear c2
         try clear p2
         try clear c3
         try clear c9
         try clear c11
         try clear c12
         try clear c15
         try clear c20
         try clear c20b0
         try clear c20b1
         try clear c22
         try clear c24
         try clear c28
         try clear c29
         try clear c29b0
         try clear p2
         obtain ⟨x13_3, x14_3, rfl, HA, HK3, HO_6, HO_7, HO_10, HO_13, HB⟩ := hrel
         cases gk with
         | zero => exact absurd HA.out (by simp [worldmintlaw28_ClearGroups.l1])
         | succ k3 =>
          have H := HA.out
          clear HA
          simp only [worldmintlaw28_ClearGroups.l1] at H
          by_cases c31 : 0 ≤ x12_2
          ·rw [if_pos c31] at H
           have c31b0 : decide (0 ≤ x12_2) = true := decide_eq_true c31
           clear c31
           by_cases c32 : x12_2 < (y527.length : Int)
           ·rw [if_pos c32] at H
            have c32b0 : decide (x12_2 < (y527.length : Int)) = true := decide_eq_true c32
            clear c32
            by_cases c33 : x14_3 < ((rd_L1 y527 x12_2).length : Int)
            ·rw [if_pos c33] at H
             have c33b0 : decide (x14_3 < ((rd_L1 y527 x12_2).length : Int)) = true := decide_eq_true c33
             clear c33
             by_cases c34 : 0 ≤ x14_3
             ·rw [if_pos c34] at H
              have c34b0 : decide (0 ≤ x14_3) = true := decide_eq_true c34
              clear c34
              by_cases c35 : (rd (rd_L1 y527 x12_2) x14_3) < 0
              ·rw [if_pos c35] at H
               have c35b0 : decide ((rd (rd_L1 y527 x12_2) x14_3) < 0) = true := decide_eq_true c35
               clear c35
               obtain rfl := Option.some.inj H
               have p533 : 0 ≤ (x12_2 : Int) := of_decide_eq_true (by first | (with_reducible assumption) | assumption)
               have q533 : x12_2 < (y527.length : Int) := of_decide_eq_true (by first | (with_reducible assumption) | assumption)
               obtain ⟨ad533, A533_0, c533_0, e533, hx533_0, hl533_0, hi533_0⟩ := at_L1 (Kd.N_reads' HO_10.out).2.2 x12_2 p533 q533
               cases e533
               obtain ⟨ce533, hce533, hMe533, hcc533⟩ := Kd.N_get HO_10.out [] x12_2 p533 (by first | exact q533 | exact of_decide_eq_true (by first | (with_reducible assumption) | assumption) | (have e_ := (Kd.N_reads' HO_10.out).1; omega))
               obtain ⟨ua533_0, uc533_0, rfl, ul533_0, ge533_0⟩ := Kd.FK_slice_open hMe533
               have hv533_0 := hcc533 0 _ rfl
               rw [Nat.add_zero, show ((Kd.slice 3 (Kd.int .i64))).sz = 1 from rfl, Nat.mul_one] at hv533_0
               replace hv533_0 := Option.some.inj (hv533_0.symm.trans hx533_0)
               injection hv533_0 with hva_ hvn_ hvc_
               rw [hva_] at ge533_0
               rw [hvc_] at ul533_0
               have HL533_0 := Aside0.mk (show Kd.V (Kd.int .i64) 3 _ w.heap.size _ _ (rd_L1 y527 x12_2) from Kd.V_mk ul533_0 ge533_0)
               clear hva_ hvn_ hvc_ ge533_0 ul533_0
               clear hcc533 hce533
               have HR533_0 := Aside0.mk hi533_0
               have HC533_0 := Aside0.mk hl533_0
               clear hi533_0 hl533_0
               replace p533 := eq_true p533
               replace q533 := eq_true q533
               have p534 : 0 ≤ (x12_2 : Int) := of_decide_eq_true (by first | (with_reducible assumption) | assumption)
               have q534 : x12_2 < (y527.length : Int) := of_decide_eq_true (by first | (with_reducible assumption) | assumption)
               obtain ⟨ad534, A534_0, c534_0, e534, hx534_0, hl534_0, hi534_0⟩ := at_L1 (Kd.N_reads' HO_10.out).2.2 x12_2 p534 q534
               obtain rfl : ad533 = ad534 := (by injection e534)
               obtain ⟨ce534, hce534, hMe534, hcc534⟩ := Kd.N_get HO_10.out [] x12_2 p534 (by first | exact q534 | exact of_decide_eq_true (by first | (with_reducible assumption) | assumption) | (have e_ := (Kd.N_reads' HO_10.out).1; omega))
               obtain ⟨ua534_0, uc534_0, rfl, ul534_0, ge534_0⟩ := Kd.FK_slice_open hMe534
               have hv534_0 := hcc534 0 _ rfl
               rw [Nat.add_zero, show ((Kd.slice 3 (Kd.int .i64))).sz = 1 from rfl, Nat.mul_one] at hv534_0
               replace hv534_0 := Option.some.inj (hv534_0.symm.trans hx534_0)
               injection hv534_0 with hva_ hvn_ hvc_
               rw [hva_] at ge534_0
               rw [hvc_] at ul534_0
               have HL534_0 := Aside0.mk (show Kd.V (Kd.int .i64) 3 _ w.heap.size _ _ (rd_L1 y527 x12_2) from Kd.V_mk ul534_0 ge534_0)
               clear hva_ hvn_ hvc_ ge534_0 ul534_0
               clear hcc534 hce534
               have HR534_0 := Aside0.mk hi534_0
               have HC534_0 := Aside0.mk hl534_0
               clear hi534_0 hl534_0
               replace p534 := eq_true p534
               replace q534 := eq_true q534
               have ea_ := Option.some.inj (hx533_0.symm.trans hx534_0)
               injection ea_ with ea_ en_ ec_
               subst ea_
               subst ec_
               clear en_
               have p535 : 0 ≤ (x14_3 : Int) := of_decide_eq_true (by first | (with_reducible assumption) | assumption)
               have q535 : x14_3 < ((rd_L1 y527 x12_2).length : Int) := of_decide_eq_true (by first | (with_reducible assumption) | assumption)
               obtain ⟨ad535, e535, hx535_0⟩ := Kd.at_int (by first | (with_reducible exact HR534_0.out) | (with_reducible exact Kd.C_drewN HR534_0.out _)) x14_3 p535 q535
               cases e535
               replace p535 := eq_true p535
               replace q535 := eq_true q535
               go_wp2
               go_ret
               exact ⟨by first | rfl | (simp [errW_none, errW_some] <;> rfl) | (simp [*, errW_none, errW_some] <;> rfl), by repeat (first | (with_reducible first | exact HB.out | apply below_alloc | apply pw_below_drewN | apply below_drew1) | exact HB.out)⟩
              ·rw [if_neg c35] at H
               have c35b0 : decide ((rd (rd_L1 y527 x12_2) x14_3) < 0) = false := decide_eq_false c35
               clear c35
               by_cases c36 : (rd (rd_L1 y527 x12_2) x14_3) ≥ (t513.length : Int)
               ·rw [if_pos c36] at H
                have c36b0 : decide ((t513.length : Int) ≤ (rd (rd_L1 y527 x12_2) x14_3)) = true := decide_eq_true c36
                clear c36
                obtain rfl := Option.some.inj H
                have p533 : 0 ≤ (x12_2 : Int) := of_decide_eq_true (by first | (with_reducible assumption) | assumption)
                have q533 : x12_2 < (y527.length : Int) := of_decide_eq_true (by first | (with_reducible assumption) | assumption)
                obtain ⟨ad533, A533_0, c533_0, e533, hx533_0, hl533_0, hi533_0⟩ := at_L1 (Kd.N_reads' HO_10.out).2.2 x12_2 p533 q533
                cases e533
                obtain ⟨ce533, hce533, hMe533, hcc533⟩ := Kd.N_get HO_10.out [] x12_2 p533 (by first | exact q533 | exact of_decide_eq_true (by first | (with_reducible assumption) | assumption) | (have e_ := (Kd.N_reads' HO_10.out).1; omega))
                obtain ⟨ua533_0, uc533_0, rfl, ul533_0, ge533_0⟩ := Kd.FK_slice_open hMe533
                have hv533_0 := hcc533 0 _ rfl
                rw [Nat.add_zero, show ((Kd.slice 3 (Kd.int .i64))).sz = 1 from rfl, Nat.mul_one] at hv533_0
                replace hv533_0 := Option.some.inj (hv533_0.symm.trans hx533_0)
                injection hv533_0 with hva_ hvn_ hvc_
                rw [hva_] at ge533_0
                rw [hvc_] at ul533_0
                have HL533_0 := Aside0.mk (show Kd.V (Kd.int .i64) 3 _ w.heap.size _ _ (rd_L1 y527 x12_2) from Kd.V_mk ul533_0 ge533_0)
                clear hva_ hvn_ hvc_ ge533_0 ul533_0
                clear hcc533 hce533
                have HR533_0 := Aside0.mk hi533_0
                have HC533_0 := Aside0.mk hl533_0
                clear hi533_0 hl533_0
                replace p533 := eq_true p533
                replace q533 := eq_true q533
                have p534 : 0 ≤ (x12_2 : Int) := of_decide_eq_true (by first | (with_reducible assumption) | assumption)
                have q534 : x12_2 < (y527.length : Int) := of_decide_eq_true (by first | (with_reducible assumption) | assumption)
                obtain ⟨ad534, A534_0, c534_0, e534, hx534_0, hl534_0, hi534_0⟩ := at_L1 (Kd.N_reads' HO_10.out).2.2 x12_2 p534 q534
                obtain rfl : ad533 = ad534 := (by injection e534)
                obtain ⟨ce534, hce534, hMe534, hcc534⟩ := Kd.N_get HO_10.out [] x12_2 p534 (by first | exact q534 | exact of_decide_eq_true (by first | (with_reducible assumption) | assumption) | (have e_ := (Kd.N_reads' HO_10.out).1; omega))
                obtain ⟨ua534_0, uc534_0, rfl, ul534_0, ge534_0⟩ := Kd.FK_slice_open hMe534
                have hv534_0 := hcc534 0 _ rfl
                rw [Nat.add_zero, show ((Kd.slice 3 (Kd.int .i64))).sz = 1 from rfl, Nat.mul_one] at hv534_0
                replace hv534_0 := Option.some.inj (hv534_0.symm.trans hx534_0)
                injection hv534_0 with hva_ hvn_ hvc_
                rw [hva_] at ge534_0
                rw [hvc_] at ul534_0
                have HL534_0 := Aside0.mk (show Kd.V (Kd.int .i64) 3 _ w.heap.size _ _ (rd_L1 y527 x12_2) from Kd.V_mk ul534_0 ge534_0)
                clear hva_ hvn_ hvc_ ge534_0 ul534_0
                clear hcc534 hce534
                have HR534_0 := Aside0.mk hi534_0
                have HC534_0 := Aside0.mk hl534_0
                clear hi534_0 hl534_0
                replace p534 := eq_true p534
                replace q534 := eq_true q534
                have ea_ := Option.some.inj (hx533_0.symm.trans hx534_0)
                injection ea_ with ea_ en_ ec_
                subst ea_
                subst ec_
                clear en_
                have p535 : 0 ≤ (x14_3 : Int) := of_decide_eq_true (by first | (with_reducible assumption) | assumption)
                have q535 : x14_3 < ((rd_L1 y527 x12_2).length : Int) := of_decide_eq_true (by first | (with_reducible assumption) | assumption)
                obtain ⟨ad535, e535, hx535_0⟩ := Kd.at_int (by first | (with_reducible exact HR534_0.out) | (with_reducible exact Kd.C_drewN HR534_0.out _)) x14_3 p535 q535
                cases e535
                replace p535 := eq_true p535
                replace q535 := eq_true q535
                have p536 : 0 ≤ (x12_2 : Int) := of_decide_eq_true (by first | (with_reducible assumption) | assumption)
                have q536 : x12_2 < (y527.length : Int) := of_decide_eq_true (by first | (with_reducible assumption) | assumption)
                obtain ⟨ad536, A536_0, c536_0, e536, hx536_0, hl536_0, hi536_0⟩ := at_L1 (Kd.N_reads' HO_10.out).2.2 x12_2 p536 q536
                obtain rfl : ad533 = ad536 := (by injection e536)
                obtain ⟨ce536, hce536, hMe536, hcc536⟩ := Kd.N_get HO_10.out [] x12_2 p536 (by first | exact q536 | exact of_decide_eq_true (by first | (with_reducible assumption) | assumption) | (have e_ := (Kd.N_reads' HO_10.out).1; omega))
                obtain ⟨ua536_0, uc536_0, rfl, ul536_0, ge536_0⟩ := Kd.FK_slice_open hMe536
                have hv536_0 := hcc536 0 _ rfl
                rw [Nat.add_zero, show ((Kd.slice 3 (Kd.int .i64))).sz = 1 from rfl, Nat.mul_one] at hv536_0
                replace hv536_0 := Option.some.inj (hv536_0.symm.trans hx536_0)
                injection hv536_0 with hva_ hvn_ hvc_
                rw [hva_] at ge536_0
                rw [hvc_] at ul536_0
                have HL536_0 := Aside0.mk (show Kd.V (Kd.int .i64) 3 _ w.heap.size _ _ (rd_L1 y527 x12_2) from Kd.V_mk ul536_0 ge536_0)
                clear hva_ hvn_ hvc_ ge536_0 ul536_0
                clear hcc536 hce536
                have HR536_0 := Aside0.mk hi536_0
                have HC536_0 := Aside0.mk hl536_0
                clear hi536_0 hl536_0
                replace p536 := eq_true p536
                replace q536 := eq_true q536
                have ea_ := Option.some.inj (hx533_0.symm.trans hx536_0)
                injection ea_ with ea_ en_ ec_
                subst ea_
                subst ec_
                clear en_
                have p537 : 0 ≤ (x14_3 : Int) := of_decide_eq_true (by first | (with_reducible assumption) | assumption)
                have q537 : x14_3 < ((rd_L1 y527 x12_2).length : Int) := of_decide_eq_true (by first | (with_reducible assumption) | assumption)
                obtain ⟨ad537, e537, hx537_0⟩ := Kd.at_int (by first | (with_reducible exact HR536_0.out) | (with_reducible exact Kd.C_drewN HR536_0.out _)) x14_3 p537 q537
                cases e537
                replace p537 := eq_true p537
                replace q537 := eq_true q537
                go_wp2
                go_ret
                exact ⟨by first | rfl | (simp [errW_none, errW_some] <;> rfl) | (simp [*, errW_none, errW_some] <;> rfl), by repeat (first | (with_reducible first | exact HB.out | apply below_alloc | apply pw_below_drewN | apply below_drew1) | exact HB.out)⟩
               ·rw [if_neg c36] at H
                have c36b0 : decide ((t513.length : Int) ≤ (rd (rd_L1 y527 x12_2) x14_3)) = false := decide_eq_false c36
                clear c36
                by_cases c37 : 0 ≤ (rd (rd_L1 y527 x12_2) x14_3)
                ·rw [if_pos c37] at H
                 have c37b0 : decide (0 ≤ (rd (rd_L1 y527 x12_2) x14_3)) = true := decide_eq_true c37
                 clear c37
                 by_cases c38 : (rd (rd_L1 y527 x12_2) x14_3) < (t513.length : Int)
                 ·rw [if_pos c38] at H
                  have c38b0 : decide ((rd (rd_L1 y527 x12_2) x14_3) < (t513.length : Int)) = true := decide_eq_true c38
                  clear c38
                  by_cases c39 : x13_3.length < 3518437208883
                  ·rw [if_pos c39] at H
                   have LMc39 := Aside0.mk c39
                   clear c39
                   obtain ⟨y541, hy541⟩ : ∃ y_ : List (S45), y_ = (x13_3 ++ [(⟨(rd_T45 t513 (rd (rd_L1 y527 x12_2) x14_3)).f0, (rd_T45 t513 (rd (rd_L1 y527 x12_2) x14_3)).f1, (rd_T45 t513 (rd (rd_L1 y527 x12_2) x14_3)).f2⟩ : S45)]) := ⟨_, rfl⟩
                   replace H : (worldmintlaw28_ClearGroups.l1 k3 t509 t513 t516 t517 y527 x11_2 x12_2 y541 (wrap64 (x14_3 + 1))) = some r := by first | (rw [hy541]; with_reducible exact H) | (have H2_ := (Option.bind_some _ _).symm.trans H; rw [hy541]; with_reducible exact H2_) | (have H2_ := (Option.bind_some _ _).symm.trans H; with_reducible exact H2_) | with_reducible exact H | (rw [hy541]; exact H) | exact H
                   have Ny541 := Aside0.mk hy541
                   clear hy541
                   have H' := Aside0.mk H
                   clear H
                   have p533 : 0 ≤ (x12_2 : Int) := of_decide_eq_true (by first | (with_reducible assumption) | assumption)
                   have q533 : x12_2 < (y527.length : Int) := of_decide_eq_true (by first | (with_reducible assumption) | assumption)
                   obtain ⟨ad533, A533_0, c533_0, e533, hx533_0, hl533_0, hi533_0⟩ := at_L1 (Kd.N_reads' HO_10.out).2.2 x12_2 p533 q533
                   cases e533
                   obtain ⟨ce533, hce533, hMe533, hcc533⟩ := Kd.N_get HO_10.out [] x12_2 p533 (by first | exact q533 | exact of_decide_eq_true (by first | (with_reducible assumption) | assumption) | (have e_ := (Kd.N_reads' HO_10.out).1; omega))
                   obtain ⟨ua533_0, uc533_0, rfl, ul533_0, ge533_0⟩ := Kd.FK_slice_open hMe533
                   have hv533_0 := hcc533 0 _ rfl
                   rw [Nat.add_zero, show ((Kd.slice 3 (Kd.int .i64))).sz = 1 from rfl, Nat.mul_one] at hv533_0
                   replace hv533_0 := Option.some.inj (hv533_0.symm.trans hx533_0)
                   injection hv533_0 with hva_ hvn_ hvc_
                   rw [hva_] at ge533_0
                   rw [hvc_] at ul533_0
                   have HL533_0 := Aside0.mk (show Kd.V (Kd.int .i64) 3 _ w.heap.size _ _ (rd_L1 y527 x12_2) from Kd.V_mk ul533_0 ge533_0)
                   clear hva_ hvn_ hvc_ ge533_0 ul533_0
                   clear hcc533 hce533
                   have HR533_0 := Aside0.mk hi533_0
                   have HC533_0 := Aside0.mk hl533_0
                   clear hi533_0 hl533_0
                   replace p533 := eq_true p533
                   replace q533 := eq_true q533
                   have p534 : 0 ≤ (x12_2 : Int) := of_decide_eq_true (by first | (with_reducible assumption) | assumption)
                   have q534 : x12_2 < (y527.length : Int) := of_decide_eq_true (by first | (with_reducible assumption) | assumption)
                   obtain ⟨ad534, A534_0, c534_0, e534, hx534_0, hl534_0, hi534_0⟩ := at_L1 (Kd.N_reads' HO_10.out).2.2 x12_2 p534 q534
                   obtain rfl : ad533 = ad534 := (by injection e534)
                   obtain ⟨ce534, hce534, hMe534, hcc534⟩ := Kd.N_get HO_10.out [] x12_2 p534 (by first | exact q534 | exact of_decide_eq_true (by first | (with_reducible assumption) | assumption) | (have e_ := (Kd.N_reads' HO_10.out).1; omega))
                   obtain ⟨ua534_0, uc534_0, rfl, ul534_0, ge534_0⟩ := Kd.FK_slice_open hMe534
                   have hv534_0 := hcc534 0 _ rfl
                   rw [Nat.add_zero, show ((Kd.slice 3 (Kd.int .i64))).sz = 1 from rfl, Nat.mul_one] at hv534_0
                   replace hv534_0 := Option.some.inj (hv534_0.symm.trans hx534_0)
                   injection hv534_0 with hva_ hvn_ hvc_
                   rw [hva_] at ge534_0
                   rw [hvc_] at ul534_0
                   have HL534_0 := Aside0.mk (show Kd.V (Kd.int .i64) 3 _ w.heap.size _ _ (rd_L1 y527 x12_2) from Kd.V_mk ul534_0 ge534_0)
                   clear hva_ hvn_ hvc_ ge534_0 ul534_0
                   clear hcc534 hce534
                   have HR534_0 := Aside0.mk hi534_0
                   have HC534_0 := Aside0.mk hl534_0
                   clear hi534_0 hl534_0
                   replace p534 := eq_true p534
                   replace q534 := eq_true q534
                   have ea_ := Option.some.inj (hx533_0.symm.trans hx534_0)
                   injection ea_ with ea_ en_ ec_
                   subst ea_
                   subst ec_
                   clear en_
                   have p535 : 0 ≤ (x14_3 : Int) := of_decide_eq_true (by first | (with_reducible assumption) | assumption)
                   have q535 : x14_3 < ((rd_L1 y527 x12_2).length : Int) := of_decide_eq_true (by first | (with_reducible assumption) | assumption)
                   obtain ⟨ad535, e535, hx535_0⟩ := Kd.at_int (by first | (with_reducible exact HR534_0.out) | (with_reducible exact Kd.C_drewN HR534_0.out _)) x14_3 p535 q535
                   cases e535
                   replace p535 := eq_true p535
                   replace q535 := eq_true q535
                   have p536 : 0 ≤ (x12_2 : Int) := of_decide_eq_true (by first | (with_reducible assumption) | assumption)
                   have q536 : x12_2 < (y527.length : Int) := of_decide_eq_true (by first | (with_reducible assumption) | assumption)
                   obtain ⟨ad536, A536_0, c536_0, e536, hx536_0, hl536_0, hi536_0⟩ := at_L1 (Kd.N_reads' HO_10.out).2.2 x12_2 p536 q536
                   obtain rfl : ad533 = ad536 := (by injection e536)
                   obtain ⟨ce536, hce536, hMe536, hcc536⟩ := Kd.N_get HO_10.out [] x12_2 p536 (by first | exact q536 | exact of_decide_eq_true (by first | (with_reducible assumption) | assumption) | (have e_ := (Kd.N_reads' HO_10.out).1; omega))
                   obtain ⟨ua536_0, uc536_0, rfl, ul536_0, ge536_0⟩ := Kd.FK_slice_open hMe536
                   have hv536_0 := hcc536 0 _ rfl
                   rw [Nat.add_zero, show ((Kd.slice 3 (Kd.int .i64))).sz = 1 from rfl, Nat.mul_one] at hv536_0
                   replace hv536_0 := Option.some.inj (hv536_0.symm.trans hx536_0)
                   injection hv536_0 with hva_ hvn_ hvc_
                   rw [hva_] at ge536_0
                   rw [hvc_] at ul536_0
                   have HL536_0 := Aside0.mk (show Kd.V (Kd.int .i64) 3 _ w.heap.size _ _ (rd_L1 y527 x12_2) from Kd.V_mk ul536_0 ge536_0)
                   clear hva_ hvn_ hvc_ ge536_0 ul536_0
                   clear hcc536 hce536
                   have HR536_0 := Aside0.mk hi536_0
                   have HC536_0 := Aside0.mk hl536_0
                   clear hi536_0 hl536_0
                   replace p536 := eq_true p536
                   replace q536 := eq_true q536
                   have ea_ := Option.some.inj (hx533_0.symm.trans hx536_0)
                   injection ea_ with ea_ en_ ec_
                   subst ea_
                   subst ec_
                   clear en_
                   have p537 : 0 ≤ (x14_3 : Int) := of_decide_eq_true (by first | (with_reducible assumption) | assumption)
                   have q537 : x14_3 < ((rd_L1 y527 x12_2).length : Int) := of_decide_eq_true (by first | (with_reducible assumption) | assumption)
                   obtain ⟨ad537, e537, hx537_0⟩ := Kd.at_int (by first | (with_reducible exact HR536_0.out) | (with_reducible exact Kd.C_drewN HR536_0.out _)) x14_3 p537 q537
                   cases e537
                   replace p537 := eq_true p537
                   replace q537 := eq_true q537
                   have p538 : 0 ≤ (x12_2 : Int) := of_decide_eq_true (by first | (with_reducible assumption) | assumption)
                   have q538 : x12_2 < (y527.length : Int) := of_decide_eq_true (by first | (with_reducible assumption) | assumption)
                   obtain ⟨ad538, A538_0, c538_0, e538, hx538_0, hl538_0, hi538_0⟩ := at_L1 (Kd.N_reads' HO_10.out).2.2 x12_2 p538 q538
                   obtain rfl : ad533 = ad538 := (by injection e538)
                   obtain ⟨ce538, hce538, hMe538, hcc538⟩ := Kd.N_get HO_10.out [] x12_2 p538 (by first | exact q538 | exact of_decide_eq_true (by first | (with_reducible assumption) | assumption) | (have e_ := (Kd.N_reads' HO_10.out).1; omega))
                   obtain ⟨ua538_0, uc538_0, rfl, ul538_0, ge538_0⟩ := Kd.FK_slice_open hMe538
                   have hv538_0 := hcc538 0 _ rfl
                   rw [Nat.add_zero, show ((Kd.slice 3 (Kd.int .i64))).sz = 1 from rfl, Nat.mul_one] at hv538_0
                   replace hv538_0 := Option.some.inj (hv538_0.symm.trans hx538_0)
                   injection hv538_0 with hva_ hvn_ hvc_
                   rw [hva_] at ge538_0
                   rw [hvc_] at ul538_0
                   have HL538_0 := Aside0.mk (show Kd.V (Kd.int .i64) 3 _ w.heap.size _ _ (rd_L1 y527 x12_2) from Kd.V_mk ul538_0 ge538_0)
                   clear hva_ hvn_ hvc_ ge538_0 ul538_0
                   clear hcc538 hce538
                   have HR538_0 := Aside0.mk hi538_0
                   have HC538_0 := Aside0.mk hl538_0
                   clear hi538_0 hl538_0
                   replace p538 := eq_true p538
                   replace q538 := eq_true q538
                   have ea_ := Option.some.inj (hx533_0.symm.trans hx538_0)
                   injection ea_ with ea_ en_ ec_
                   subst ea_
                   subst ec_
                   clear en_
                   have p539 : 0 ≤ (x14_3 : Int) := of_decide_eq_true (by first | (with_reducible assumption) | assumption)
                   have q539 : x14_3 < ((rd_L1 y527 x12_2).length : Int) := of_decide_eq_true (by first | (with_reducible assumption) | assumption)
                   obtain ⟨ad539, e539, hx539_0⟩ := Kd.at_int (by first | (with_reducible exact HR538_0.out) | (with_reducible exact Kd.C_drewN HR538_0.out _)) x14_3 p539 q539
                   cases e539
                   replace p539 := eq_true p539
                   replace q539 := eq_true q539
                   have p540 : 0 ≤ ((rd (rd_L1 y527 x12_2) x14_3) : Int) := of_decide_eq_true (by first | (with_reducible assumption) | assumption)
                   have q540 : (rd (rd_L1 y527 x12_2) x14_3) < (t513.length : Int) := of_decide_eq_true (by first | (with_reducible assumption) | assumption)
                   obtain ⟨ad540, A540_2, c540_2, e540, hx540_0, hx540_1, hx540_2, hl540_2, hi540_2⟩ := at_T45 (Kd.N_reads' HO_6.out).2.2 (rd (rd_L1 y527 x12_2) x14_3) p540 q540
                   cases e540
                   obtain ⟨ce540, hce540, hMe540, hcc540⟩ := Kd.N_get HO_6.out z45 (rd (rd_L1 y527 x12_2) x14_3) p540 (by first | exact q540 | exact of_decide_eq_true (by first | (with_reducible assumption) | assumption) | (have e_ := (Kd.N_reads' HO_6.out).1; omega))
                   obtain ⟨ua540_2, uc540_2, rfl, ul540_2, ge540_2⟩ := k45_openF hMe540
                   have hv540_2 := hcc540 2 _ rfl
                   rw [add_field _ _ 2 (by omega)] at hv540_2
                   replace hv540_2 := Option.some.inj (hv540_2.symm.trans hx540_2)
                   injection hv540_2 with hva_ hvn_ hvc_
                   rw [hva_] at ge540_2
                   rw [hvc_] at ul540_2
                   have HL540_2 := Aside0.mk (show Kd.V (Kd.int .i64) 3 _ w.heap.size _ _ ((rd_T45 t513 (rd (rd_L1 y527 x12_2) x14_3)).f2) from Kd.V_mk ul540_2 ge540_2)
                   clear hva_ hvn_ hvc_ ge540_2 ul540_2
                   clear hcc540 hce540
                   have HR540_2 := Aside0.mk hi540_2
                   have HC540_2 := Aside0.mk hl540_2
                   clear hi540_2 hl540_2
                   replace p540 := eq_true p540
                   replace q540 := eq_true q540
                   go_wp2_with (first | ((with_reducible refine gate_builtin (b := .append) (xs := #[.tmp 91, .tmp 102]) rfl ?_); (try (refine gate_guard (by rfl) ?_; dsimp only)); at_builtin; refine Kd.N_append k45 (w0 := w) w.heap.size rfl (.tmp 91) (.tmp 102) 31 45 (.agg #[(.int .i64 0), (.int .i64 0), (.slice none 0 0)]) 40 rfl Try.underlying31 info45 rfl (by decide) (by omega) u13 x13_3 (⟨(rd_T45 t513 (rd (rd_L1 y527 x12_2) x14_3)).f0, (rd_T45 t513 (rd (rd_L1 y527 x12_2) x14_3)).f1, (rd_T45 t513 (rd (rd_L1 y527 x12_2) x14_3)).f2⟩ : S45) [.int .i64 ((rd_T45 t513 (rd (rd_L1 y527 x12_2) x14_3)).f0), .int .i64 ((rd_T45 t513 (rd (rd_L1 y527 x12_2) x14_3)).f1), .slice A540_2 ((rd_T45 t513 (rd (rd_L1 y527 x12_2) x14_3)).f2).length c540_2] (fun k_ => some k_ ≠ (.slice (some ad540) t513.length co14 : Value).ownBlock ∧ some k_ ≠ (v519 : Value).ownBlock ∧ some k_ ≠ (.slice (some ad533) y527.length co30 : Value).ownBlock) (fun k_ => ((fun k_ => some k_ ≠ (.slice (some ad540) t513.length co14 : Value).ownBlock ∧ some k_ ≠ (v519 : Value).ownBlock ∧ some k_ ≠ (.slice (some ad533) y527.length co30 : Value).ownBlock)) k_ ∧ some k_ ≠ (u13 : Value).ownBlock) rfl rfl ?aP (fun _ hk => hk) ?aF ?aO ?aB ?aS ?aL ?_; (case aP => exact (k45_mkF _ _ (⟨(rd_T45 t513 (rd (rd_L1 y527 x12_2) x14_3)).f0, (rd_T45 t513 (rd (rd_L1 y527 x12_2) x14_3)).f1, (rd_T45 t513 (rd (rd_L1 y527 x12_2) x14_3)).f2⟩ : S45) (Kd.V_reads' (Kd.V_mono (ok' := (fun k_ => ((fun k_ => some k_ ≠ (.slice (some ad540) t513.length co14 : Value).ownBlock ∧ some k_ ≠ (v519 : Value).ownBlock ∧ some k_ ≠ (.slice (some ad533) y527.length co30 : Value).ownBlock)) k_ ∧ some k_ ≠ (u13 : Value).ownBlock)) (HL540_2.out) (fun k_ hk => ⟨⟨hk.2, ⟨hk.1.1, hk.1.2.1⟩⟩, hk.1.2.2⟩))).2.1 (Kd.V_F (Kd.V_mono (ok' := (fun k_ => ((fun k_ => some k_ ≠ (.slice (some ad540) t513.length co14 : Value).ownBlock ∧ some k_ ≠ (v519 : Value).ownBlock ∧ some k_ ≠ (.slice (some ad533) y527.length co30 : Value).ownBlock)) k_ ∧ some k_ ≠ (u13 : Value).ownBlock)) (HL540_2.out) (fun k_ hk => ⟨⟨hk.2, ⟨hk.1.1, hk.1.2.1⟩⟩, hk.1.2.2⟩))))); (case aB => exact (by repeat (first | (with_reducible first | exact HB.out | apply below_alloc | apply pw_below_drewN | apply below_drew1) | exact HB.out))); (case aF => exact (fun k_ hk => ⟨Kd.fresh' (Kd.N_lt (by (with_reducible repeat (first | apply Kd.N_alloc | apply Kd.N_drewN | apply Kd.N_drew)); exact HO_6.out)) k_ hk, Kd.fresh' (Kd.R_lt (by (with_reducible repeat (first | apply Kd.R_alloc | apply Kd.R_drewN | apply Kd.R_drew)); exact HO_7.out)) k_ hk, Kd.fresh' (Kd.N_lt (by (with_reducible repeat (first | apply Kd.N_alloc | apply Kd.N_drewN | apply Kd.N_drew)); exact HO_10.out)) k_ hk⟩)); (case aO => exact (by (with_reducible repeat (first | apply Kd.N_alloc | apply Kd.N_drewN | apply Kd.N_drew)); exact HO_13.out)); (case aS => exact (below_size (by repeat (first | (with_reducible first | exact HB.out | apply below_alloc | apply pw_below_drewN | apply below_drew1) | exact HB.out)))); (case aL => have := LMc39.out; omega); intro v542 w40 ho hb hg hat; rw [← Ny541.out] at ho; have n0_ := Aside0.mk (Kd.N_afterv (ok := (fun k_ => some k_ ≠ (v519 : Value).ownBlock ∧ some k_ ≠ (.slice (some ad533) y527.length co30 : Value).ownBlock)) (by (with_reducible repeat (first | apply Kd.N_alloc | apply Kd.N_drewN | apply Kd.N_drew)); exact Kd.N_mono HO_6.out (fun _ hk => ⟨⟨hk.1, hk.2.1⟩, hk.2.2⟩)) hg hat); have n1_ := Aside0.mk (Kd.R_over' (by (with_reducible repeat (first | apply Kd.R_alloc | apply Kd.R_drewN | apply Kd.R_drew)); exact HO_7.out) (Kd.N_typed (by (with_reducible repeat (first | apply Kd.N_alloc | apply Kd.N_drewN | apply Kd.N_drew)); exact HO_13.out)) (by decide) hg); have n2_ := Aside0.mk (Kd.N_afterv (ok := (fun k_ => some k_ ≠ (.slice (some ad540) t513.length co14 : Value).ownBlock ∧ some k_ ≠ (v519 : Value).ownBlock)) (by (with_reducible repeat (first | apply Kd.N_alloc | apply Kd.N_drewN | apply Kd.N_drew)); exact Kd.N_mono HO_10.out (fun _ hk => ⟨⟨hk.1, hk.2.1⟩, hk.2.2⟩)) hg hat); have n3_ := Aside0.mk (Kd.V_afterv (ok := (fun k_ => some k_ ≠ (.slice (some ad540) t513.length co14 : Value).ownBlock ∧ some k_ ≠ (v519 : Value).ownBlock ∧ some k_ ≠ (.slice (some ad533) y527.length co30 : Value).ownBlock)) (by (with_reducible repeat (first | apply Kd.V_alloc | apply Kd.V_drewN | apply Kd.V_drew)); exact Kd.V_mono HL533_0.out (fun _ hk => ⟨⟨hk.1.1, ⟨hk.1.2.1, hk.2⟩⟩, hk.1.2.2⟩)) hg hat); have n4_ := Aside0.mk (Kd.V_afterv (ok := (fun k_ => some k_ ≠ (.slice (some ad540) t513.length co14 : Value).ownBlock ∧ some k_ ≠ (v519 : Value).ownBlock ∧ some k_ ≠ (.slice (some ad533) y527.length co30 : Value).ownBlock)) (by (with_reducible repeat (first | apply Kd.V_alloc | apply Kd.V_drewN | apply Kd.V_drew)); exact Kd.V_mono HL534_0.out (fun _ hk => ⟨⟨hk.1.1, ⟨hk.1.2.1, hk.2⟩⟩, hk.1.2.2⟩)) hg hat); have n5_ := Aside0.mk (Kd.V_afterv (ok := (fun k_ => some k_ ≠ (.slice (some ad540) t513.length co14 : Value).ownBlock ∧ some k_ ≠ (v519 : Value).ownBlock ∧ some k_ ≠ (.slice (some ad533) y527.length co30 : Value).ownBlock)) (by (with_reducible repeat (first | apply Kd.V_alloc | apply Kd.V_drewN | apply Kd.V_drew)); exact Kd.V_mono HL536_0.out (fun _ hk => ⟨⟨hk.1.1, ⟨hk.1.2.1, hk.2⟩⟩, hk.1.2.2⟩)) hg hat); have n6_ := Aside0.mk (Kd.V_afterv (ok := (fun k_ => some k_ ≠ (.slice (some ad540) t513.length co14 : Value).ownBlock ∧ some k_ ≠ (v519 : Value).ownBlock ∧ some k_ ≠ (.slice (some ad533) y527.length co30 : Value).ownBlock)) (by (with_reducible repeat (first | apply Kd.V_alloc | apply Kd.V_drewN | apply Kd.V_drew)); exact Kd.V_mono HL538_0.out (fun _ hk => ⟨⟨hk.1.1, ⟨hk.1.2.1, hk.2⟩⟩, hk.1.2.2⟩)) hg hat); have n7_ := Aside0.mk (Kd.V_afterv (ok := (fun k_ => some k_ ≠ (.slice (some ad540) t513.length co14 : Value).ownBlock ∧ some k_ ≠ (v519 : Value).ownBlock ∧ some k_ ≠ (.slice (some ad533) y527.length co30 : Value).ownBlock)) (by (with_reducible repeat (first | apply Kd.V_alloc | apply Kd.V_drewN | apply Kd.V_drew)); exact Kd.V_mono HL540_2.out (fun _ hk => ⟨⟨hk.2, ⟨hk.1.1, hk.1.2.1⟩⟩, hk.1.2.2⟩)) hg hat); have n8_ := Aside0.mk (hb); have n9_ := Aside0.mk (ho); clear HO_6; clear HO_7; clear HO_10; clear HL533_0; clear HL534_0; clear HL536_0; clear HL538_0; clear HL540_2; clear HB; clear HO_13; have HO_6 := n0_; have HO_7 := n1_; have HO_10 := n2_; have HL533_0 := n3_; have HL534_0 := n4_; have HL536_0 := n5_; have HL538_0 := n6_; have HL540_2 := n7_; have HB := n8_; have HO543 := n9_; clear n0_ n1_ n2_ n3_ n4_ n5_ n6_ n7_ n8_ n9_; clear ho hb hg hat))
                   go_roundg k3
                   case measure => have := HJ9.out; have := HK2.out; have := HK3.out; omega
                   case rel => exact ⟨(y541), (wrap64 (x14_3 + 1)), (by first | rfl | (simp; done) | (simp [*]; done)), H', ⟨by have := HJ9.out; have := HK2.out; have := HK3.out; omega⟩, ⟨by (with_reducible repeat (first | apply Kd.N_alloc | apply Kd.N_drewN | apply Kd.N_drew)); exact Kd.N_mono HO_6.out (fun _ hk => ⟨hk.1.1, ⟨hk.1.2, hk.2⟩⟩)⟩, ⟨by (with_reducible repeat (first | apply Kd.R_alloc | apply Kd.R_drewN | apply Kd.R_drew)); exact HO_7.out⟩, ⟨by (with_reducible repeat (first | apply Kd.N_alloc | apply Kd.N_drewN | apply Kd.N_drew)); exact Kd.N_mono HO_10.out (fun _ hk => ⟨hk.1.1, ⟨hk.1.2, hk.2⟩⟩)⟩, ⟨by (with_reducible repeat (first | apply Kd.N_alloc | apply Kd.N_drewN | apply Kd.N_drew)); exact HO543.out⟩, ⟨by repeat (first | (with_reducible first | exact HB.out | apply below_alloc | apply pw_below_drewN | apply below_drew1) | exact HB.out)⟩⟩
                  ·rw [if_neg c39] at H
                   exact absurd H (by simp)
                 ·rw [if_neg c38] at H
                  exact absurd H (by simp)
                ·rw [if_neg c37] at H
                 exact absurd H (by simp)
             ·rw [if_neg c34] at H
              exact absurd H (by simp)
            ·rw [if_neg c33] at H
             have c33b0 : decide (x14_3 < ((rd_L1 y527 x12_2).length : Int)) = false := decide_eq_false c33
             clear c33
             replace H := Option.bind_eq_some_iff.mp H
             obtain ⟨⟨t544, t545, t546⟩, A410, H⟩ := H
             replace H : (worldmintlaw28_ClearGroups.l2 k3 t509 t513 t516 t517 y527 x11_2 x12_2 t544 t545 t546 ([] : List Int) 0) = some r := H
             have A41 := Aside0.mk A410
             clear A410
             have H' := Aside0.mk H
             clear H
             have p533 : 0 ≤ (x12_2 : Int) := of_decide_eq_true (by first | (with_reducible assumption) | assumption)
             have q533 : x12_2 < (y527.length : Int) := of_decide_eq_true (by first | (with_reducible assumption) | assumption)
             obtain ⟨ad533, A533_0, c533_0, e533, hx533_0, hl533_0, hi533_0⟩ := at_L1 (Kd.N_reads' HO_10.out).2.2 x12_2 p533 q533
             cases e533
             obtain ⟨ce533, hce533, hMe533, hcc533⟩ := Kd.N_get HO_10.out [] x12_2 p533 (by first | exact q533 | exact of_decide_eq_true (by first | (with_reducible assumption) | assumption) | (have e_ := (Kd.N_reads' HO_10.out).1; omega))
             obtain ⟨ua533_0, uc533_0, rfl, ul533_0, ge533_0⟩ := Kd.FK_slice_open hMe533
             have hv533_0 := hcc533 0 _ rfl
             rw [Nat.add_zero, show ((Kd.slice 3 (Kd.int .i64))).sz = 1 from rfl, Nat.mul_one] at hv533_0
             replace hv533_0 := Option.some.inj (hv533_0.symm.trans hx533_0)
             injection hv533_0 with hva_ hvn_ hvc_
             rw [hva_] at ge533_0
             rw [hvc_] at ul533_0
             have HL533_0 := Aside0.mk (show Kd.V (Kd.int .i64) 3 _ w.heap.size _ _ (rd_L1 y527 x12_2) from Kd.V_mk ul533_0 ge533_0)
             clear hva_ hvn_ hvc_ ge533_0 ul533_0
             clear hcc533 hce533
             have HR533_0 := Aside0.mk hi533_0
             have HC533_0 := Aside0.mk hl533_0
             clear hi533_0 hl533_0
             replace p533 := eq_true p533
             replace q533 := eq_true q533
             obtain ⟨Ao42, co42, eo42⟩ := Kd.N_slice HO_13.out
             subst eo42
             go_wp2_with (first | ((with_reducible refine gate_callee (f := 24) rfl ?_); refine goesL_ (some 107) rfl rfl Try.func24 (by kernel_rfl) rfl #[.int .i64 t509, .slice Ao42 x13_3.length co42] rfl (by (try simp only [List.map_toArray, List.map_cons, List.map_nil]); first | done | rfl | (simp only [List.length_drop, List.length_take]; rfl)) ?_; (with_reducible refine (clear_Best.calls t509 _ _ x13_3 t544 t545 t546 _ ?side1 ?side2 A41.out).mono ?_); (case side1 => repeat (first | exact (Kd.N_reads' HO_13.out).2.2 | (with_reducible refine Kd.C_alloc ?_ _) | (with_reducible refine Kd.C_drewN ?_ _) | (with_reducible refine Kd.C_drew ?_))); (case side2 => exact (Kd.N_reads' HO_13.out).2.1); rintro e w43 ⟨v547, rfl, ho0, hb⟩; refine ⟨_, rfl, ?_⟩; have n0_ := Aside0.mk (Kd.N_elder' (by (with_reducible repeat (first | apply Kd.N_alloc | apply Kd.N_drewN | apply Kd.N_drew)); exact HO_6.out) (Kd.R_base ho0) hb); have n1_ := Aside0.mk (Kd.R_elder' (by (with_reducible repeat (first | apply Kd.R_alloc | apply Kd.R_drewN | apply Kd.R_drew)); exact HO_7.out) (Kd.R_base ho0) hb); have n2_ := Aside0.mk (Kd.N_elder' (by (with_reducible repeat (first | apply Kd.N_alloc | apply Kd.N_drewN | apply Kd.N_drew)); exact HO_10.out) (Kd.R_base ho0) hb); have n3_ := Aside0.mk (Kd.N_elder' (by (with_reducible repeat (first | apply Kd.N_alloc | apply Kd.N_drewN | apply Kd.N_drew)); exact HO_13.out) (Kd.R_base ho0) hb); have n4_ := Aside0.mk (Kd.V_elder' (by (with_reducible repeat (first | apply Kd.V_alloc | apply Kd.V_drewN | apply Kd.V_drew)); exact HL533_0.out) (Kd.R_base ho0) hb); have n5_ := Aside0.mk (Kd.R_lower (Kd.R_new' ho0 (Kd.R_lt (by (with_reducible repeat (first | apply Kd.R_alloc | apply Kd.R_drewN | apply Kd.R_drew)); exact HO_7.out))) (below_size (by repeat (first | (with_reducible first | exact HB.out | apply below_alloc | apply pw_below_drewN | apply below_drew1) | exact HB.out)))); have n6_ := Aside0.mk (Kd.C_below (by first | (with_reducible exact HR533_0.out) | (with_reducible exact Kd.C_drewN HR533_0.out _)) hb); have n7_ := Aside0.mk (below_step (by repeat (first | (with_reducible first | exact HB.out | apply below_alloc | apply pw_below_drewN | apply below_drew1) | exact HB.out)) hb); clear HO_6; clear HO_7; clear HO_10; clear HO_13; clear HL533_0; clear HR533_0; clear HB; have HO_6 := n0_; have HO_7 := n1_; have HO_10 := n2_; have HO_13 := n3_; have HL533_0 := n4_; have HO548 := n5_; have HR533_0 := n6_; have HB := n7_; clear n0_ n1_ n2_ n3_ n4_ n5_ n6_ n7_; (try clear hb); (try clear hb2); (try clear hk); (try clear hi); (try clear ho0)))
             go_loopg [18, 19] k3 (fun kq v18 v19 w' => ∃ (x18_4 : List Int) (x19_4 : Int), v19 = .int .i64 x19_4 ∧ Aside0 (worldmintlaw28_ClearGroups.l2 kq t509 t513 t516 t517 y527 x11_2 x12_2 t544 t545 t546 x18_4 x19_4 = some r) ∧ Aside0 (kq ≤ k3) ∧ Aside0 (Kd.N k45 45 w' w.heap.size (fun k_ => some k_ ≠ (v519 : Value).ownBlock ∧ some k_ ≠ ((.slice (some ad533) y527.length co30) : Value).ownBlock ∧ some k_ ≠ (v547 : Value).ownBlock ∧ some k_ ≠ (v18 : Value).ownBlock) (.slice Ao14 t513.length co14) t513) ∧ Aside0 (Kd.R (Kd.int .i64) 3 w' w.heap.size (fun k_ => some k_ ≠ (v547 : Value).ownBlock ∧ some k_ ≠ (v18 : Value).ownBlock) v519 t516) ∧ Aside0 (Kd.N (Kd.slice 3 (Kd.int .i64)) 22 w' w.heap.size (fun k_ => some k_ ≠ ((.slice Ao14 t513.length co14) : Value).ownBlock ∧ some k_ ≠ (v519 : Value).ownBlock ∧ some k_ ≠ (v547 : Value).ownBlock ∧ some k_ ≠ (v18 : Value).ownBlock) (.slice (some ad533) y527.length co30) y527) ∧ Aside0 (Kd.R (Kd.int .i64) 3 w' w.heap.size (fun k_ => some k_ ≠ (v519 : Value).ownBlock ∧ some k_ ≠ (v18 : Value).ownBlock) v547 t544) ∧ Aside0 (Kd.R (Kd.int .i64) 3 w' w.heap.size (fun k_ => some k_ ≠ (v519 : Value).ownBlock ∧ some k_ ≠ (v547 : Value).ownBlock) v18 x18_4) ∧ Aside0 (Below w.heap.size w w'))
             case atStart => exact ⟨(([] : List Int)), (0), (by first | rfl | (simp; done) | (simp [*]; done)), H', ⟨Nat.le_refl _⟩, ⟨by (with_reducible repeat (first | apply Kd.N_alloc | apply Kd.N_drewN | apply Kd.N_drew)); exact Kd.N_mono HO_6.out (fun _ hk => ⟨hk.1.1, ⟨hk.1.2.1, ⟨hk.2, (by simp [Value.ownBlock])⟩⟩⟩)⟩, ⟨by (with_reducible repeat (first | apply Kd.R_alloc | apply Kd.R_drewN | apply Kd.R_drew)); exact Kd.R_mono HO_7.out (fun _ hk => ⟨hk.2, (by simp [Value.ownBlock])⟩)⟩, ⟨by (with_reducible repeat (first | apply Kd.N_alloc | apply Kd.N_drewN | apply Kd.N_drew)); exact Kd.N_mono HO_10.out (fun _ hk => ⟨hk.1.1, ⟨hk.1.2.1, ⟨hk.2, (by simp [Value.ownBlock])⟩⟩⟩)⟩, ⟨by (with_reducible repeat (first | apply Kd.R_alloc | apply Kd.R_drewN | apply Kd.R_drew)); exact Kd.R_mono HO548.out (fun _ hk => ⟨hk.2, (by simp [Value.ownBlock])⟩)⟩, ⟨by first | exact Kd.R_nil _ _ _ _ _ | exact Kd.N_nil _ _ _ _ _ | exact Kd.V_nil _ _ _ _ _ | exact Kd.Q_nil _ _ _ _ _ | exact Kd.S_nil _ _ _ _ _⟩, ⟨by repeat (first | (with_reducible first | exact HB.out | apply below_alloc | apply pw_below_drewN | apply below_drew1) | exact HB.out)⟩⟩
             case round =>
              clear H'
              try clear c1
              try clear c2
              try clear p2
              try clear c3
              try clear c5
              try clear p5
              try clear q5
              try clear hx5
              try clear p6
              try clear c9
              try clear c11
              try clear c12
              try clear c15
              try clear c20
              try clear c20b0
              try clear c20b1
              try clear c22
              try clear c24
              try clear c28
              try clear c29
              try clear c29b0
              try clear c31
              try clear c31b0
              try clear c32
              try clear c32b0
              try clear c33
              try clear c33b0
              try clear c34
              try clear c34b0
              try clear c35
              try clear c35b0
              try clear c36
              try clear c36b0
              try clear c37
              try clear c37b0
              try clear c38
              try clear c38b0
              try clear c39
              try clear hx533_0
              try clear hx534_0
              try clear hx535_0
              try clear hx536_0
              try clear hx537_0
              try clear hx538_0
              try clear hx539_0
              try clear hx540_0
              try clear hx540_1
              try clear hx540_2
              try clear p2
              try clear p533
              try clear p534
              try clear p535
              try clear p536
              try clear p537
              try clear p538
              try clear p539
              try clear p540
              try clear q533
              try clear q534
              try clear q535
              try clear q536
              try clear q537
              try clear q538
              try clear q539
              try clear q540
              obtain ⟨x18_4, x19_4, rfl, HA, HK4, HO_6, HO_7, HO_10, HO_15, HO_18, HB⟩ := hrel
              cases gk with
              | zero => exact absurd HA.out (by simp [worldmintlaw28_ClearGroups.l2])
              | succ k4 =>
               have H := HA.out
               clear HA
               simp only [worldmintlaw28_ClearGroups.l2] at H
               by_cases c44 : x19_4 < (t516.length : Int)
               ·rw [if_pos c44] at H
                have c44b0 : decide (x19_4 < (t516.length : Int)) = true := decide_eq_true c44
                clear c44
                by_cases c45 : 0 ≤ x12_2
                ·rw [if_pos c45] at H
                 have c45b0 : decide (0 ≤ x12_2) = true := decide_eq_true c45
                 clear c45
                 by_cases c46 : x12_2 < (y527.length : Int)
                 ·rw [if_pos c46] at H
                  have c46b0 : decide (x12_2 < (y527.length : Int)) = true := decide_eq_true c46
                  clear c46
                  by_cases c47 : 0 ≤ x19_4
                  ·rw [if_pos c47] at H
                   have c47b0 : decide (0 ≤ x19_4) = true := decide_eq_true c47
                   clear c47
                   replace H := Option.bind_eq_some_iff.mp H
                   obtain ⟨t551, A480, H⟩ := H
                   replace H : (if t551 = true then (if x18_4.length < 17592186044416 then (worldmintlaw28_ClearGroups.l2 k4 t509 t513 t516 t517 y527 x11_2 x12_2 t544 t545 t546 (x18_4 ++ [rd t516 x19_4]) (wrap64 (x19_4 + 1))) else (none)) else (worldmintlaw28_ClearGroups.l2 k4 t509 t513 t516 t517 y527 x11_2 x12_2 t544 t545 t546 x18_4 (wrap64 (x19_4 + 1)))) = some r := H
                   have A48 := Aside0.mk A480
                   clear A480
                   by_cases c49 : t551 = true
                   ·subst c49
                    have H1 : (if x18_4.length < 17592186044416 then (worldmintlaw28_ClearGroups.l2 k4 t509 t513 t516 t517 y527 x11_2 x12_2 t544 t545 t546 (x18_4 ++ [rd t516 x19_4]) (wrap64 (x19_4 + 1))) else (none)) = some r := by rw [if_pos rfl] at H; exact H
                    clear H
                    have H := H1
                    clear H1
                    by_cases c50 : x18_4.length < 17592186044416
                    ·rw [if_pos c50] at H
                     have LMc50 := Aside0.mk c50
                     clear c50
                     obtain ⟨y553, hy553⟩ : ∃ y_ : List Int, y_ = (x18_4 ++ [rd t516 x19_4]) := ⟨_, rfl⟩
                     replace H : (worldmintlaw28_ClearGroups.l2 k4 t509 t513 t516 t517 y527 x11_2 x12_2 t544 t545 t546 y553 (wrap64 (x19_4 + 1))) = some r := by first | (rw [hy553]; with_reducible exact H) | (have H2_ := (Option.bind_some _ _).symm.trans H; rw [hy553]; with_reducible exact H2_) | (have H2_ := (Option.bind_some _ _).symm.trans H; with_reducible exact H2_) | with_reducible exact H | (rw [hy553]; exact H) | exact H
                     have Ny553 := Aside0.mk hy553
                     clear hy553
                     have H' := Aside0.mk H
                     clear H
                     obtain ⟨Ao51, co51, eo51⟩ := Kd.R_slice HO_7.out
                     subst eo51
                     try go_wp2
                     have n0_ := Aside0.mk (Kd.N_drew HO_6.out)
                     have n1_ := Aside0.mk (Kd.R_drew HO_7.out)
                     have n2_ := Aside0.mk (Kd.N_drew HO_10.out)
                     have n3_ := Aside0.mk (Kd.R_drew HO_15.out)
                     have n4_ := Aside0.mk (Kd.R_drew HO_18.out)
                     have n5_ := Aside0.mk (below_drew1 HB.out)
                     clear HO_6
                     clear HO_7
                     clear HO_10
                     clear HO_15
                     clear HO_18
                     clear HB
                     have HO_6 := n0_
                     have HO_7 := n1_
                     have HO_10 := n2_
                     have HO_15 := n3_
                     have HO_18 := n4_
                     have HB := n5_
                     clear n0_ n1_ n2_ n3_ n4_ n5_
                     have p549 : 0 ≤ (x12_2 : Int) := of_decide_eq_true (by first | (with_reducible assumption) | assumption)
                     have q549 : x12_2 < (y527.length : Int) := of_decide_eq_true (by first | (with_reducible assumption) | assumption)
                     obtain ⟨ad549, A549_0, c549_0, e549, hx549_0, hl549_0, hi549_0⟩ := at_L1 (Kd.N_reads' HO_10.out).2.2 x12_2 p549 q549
                     obtain rfl : ad533 = ad549 := (by injection e549)
                     obtain ⟨ce549, hce549, hMe549, hcc549⟩ := Kd.N_get HO_10.out [] x12_2 p549 (by first | exact q549 | exact of_decide_eq_true (by first | (with_reducible assumption) | assumption) | (have e_ := (Kd.N_reads' HO_10.out).1; omega))
                     obtain ⟨ua549_0, uc549_0, rfl, ul549_0, ge549_0⟩ := Kd.FK_slice_open hMe549
                     have hv549_0 := hcc549 0 _ rfl
                     rw [Nat.add_zero, show ((Kd.slice 3 (Kd.int .i64))).sz = 1 from rfl, Nat.mul_one] at hv549_0
                     replace hv549_0 := Option.some.inj (hv549_0.symm.trans hx549_0)
                     injection hv549_0 with hva_ hvn_ hvc_
                     rw [hva_] at ge549_0
                     rw [hvc_] at ul549_0
                     have HL549_0 := Aside0.mk (show Kd.V (Kd.int .i64) 3 _ w.heap.size _ _ (rd_L1 y527 x12_2) from Kd.V_mk ul549_0 ge549_0)
                     clear hva_ hvn_ hvc_ ge549_0 ul549_0
                     clear hcc549 hce549
                     have HR549_0 := Aside0.mk hi549_0
                     have HC549_0 := Aside0.mk hl549_0
                     clear hi549_0 hl549_0
                     replace p549 := eq_true p549
                     replace q549 := eq_true q549
                     have p550 : 0 ≤ (x19_4 : Int) := of_decide_eq_true (by first | (with_reducible assumption) | assumption)
                     have q550 : x19_4 < (t516.length : Int) := of_decide_eq_true (by first | (with_reducible assumption) | assumption)
                     obtain ⟨ad550, e550, hx550_0⟩ := Kd.at_int (Kd.R_reads' HO_7.out).2.2 x19_4 p550 q550
                     cases e550
                     replace p550 := eq_true p550
                     replace q550 := eq_true q550
                     refine start_ (n := 9) (S := fun w' => w'.cell? (ad533.add (x12_2).toNat) = some (.slice A549_0 (rd_L1 y527 x12_2).length c549_0) ∧ w'.cell? (ad550.add (x19_4).toNat) = some (.int .i64 (rd t516 x19_4))) (ds := []) #[false, false, false, false, false, false, false, false, false] (by kernel_rfl) rfl rfl ⟨hx549_0, hx550_0⟩ (fun hHeld => ?_); refine with_tabW worldmintlaw28_ClearGroups.tab23 worldmintlaw28_ClearGroups.bits23 (fun HT_ HW_ => ?_)
                     generalize wr.drew = w52 at HO_6 HO_7 HO_10 HO_15 HO_18 HB HL549_0 HR549_0 hx549_0 hx550_0 hHeld ⊢
                     refine pure_ (i := 0) (N := some 117) (v := ?_) (a' := ?_) #[true, false, false, false, false, false, false, false, false] rfl rfl (any_of HT_.out (by kernel_rfl)) (fun _ _ _ h => h) (Or.inl ⟨by rfl, ?_⟩) ?_ ?_
                     rotate_left
                     ·intro w'
                      go_simp
                      with_reducible rfl
                     rotate_left
                     ·simp only [Act.put, List.setIfInBounds_toArray, List.set_cons_zero, List.set_cons_succ, i64_w, i32_w]
                      rfl
                     refine pure_ (i := 1) (N := some 118) (v := ?_) (a' := ?_) #[true, true, false, false, false, false, false, false, false] rfl rfl (any_of HT_.out (by kernel_rfl)) (fun _ _ _ h => h) (Or.inl ⟨by rfl, ?_⟩) ?_ ?_
                     rotate_left
                     ·intro w'
                      go_simp
                      with_reducible rfl
                     rotate_left
                     ·simp only [Act.put, List.setIfInBounds_toArray, List.set_cons_zero, List.set_cons_succ, i64_w, i32_w]
                      rfl
                     refine pure_ (i := 2) (N := some 119) (v := ?_) (a' := ?_) #[true, true, true, false, false, false, false, false, false] rfl rfl (any_of HT_.out (by kernel_rfl)) (fun _ _ _ h => h) (Or.inl ⟨by rfl, ?_⟩) ?_ ?_
                     rotate_left
                     ·intro w'
                      go_simp
                      with_reducible rfl
                     rotate_left
                     ·simp only [Act.put, List.setIfInBounds_toArray, List.set_cons_zero, List.set_cons_succ, i64_w, i32_w]
                      rfl
                     refine pure_ (i := 4) (N := some 121) (v := ?_) (a' := ?_) #[true, true, true, false, true, false, false, false, false] rfl rfl (any_of HT_.out (by kernel_rfl)) (fun _ _ _ h => h) (Or.inl ⟨by rfl, ?_⟩) ?_ ?_
                     rotate_left
                     ·intro w'
                      go_simp
                      with_reducible rfl
                     rotate_left
                     ·simp only [Act.put, List.setIfInBounds_toArray, List.set_cons_zero, List.set_cons_succ, i64_w, i32_w]
                      rfl
                     refine pure_ (i := 5) (N := some 122) (v := ?_) (a' := ?_) #[true, true, true, false, true, true, false, false, false] rfl rfl (any_of HT_.out (by kernel_rfl)) (fun _ _ _ h => h) (Or.inl ⟨by rfl, ?_⟩) ?_ ?_
                     rotate_left
                     ·intro w'
                      go_simp
                      with_reducible rfl
                     rotate_left
                     ·simp only [Act.put, List.setIfInBounds_toArray, List.set_cons_zero, List.set_cons_succ, i64_w, i32_w]
                      rfl
                     refine pure_ (i := 6) (N := some 123) (v := ?_) (a' := ?_) #[true, true, true, false, true, true, true, false, false] rfl rfl (any_of HT_.out (by kernel_rfl)) (fun _ _ _ h => h) (Or.inl ⟨by rfl, ?_⟩) ?_ ?_
                     rotate_left
                     ·intro w'
                      go_simp
                      with_reducible rfl
                     rotate_left
                     ·simp only [Act.put, List.setIfInBounds_toArray, List.set_cons_zero, List.set_cons_succ, i64_w, i32_w]
                      rfl
                     refine take_ (i := 3) (N := some 120) (v := ?_) (a' := ?_) #[true, true, true, true, true, true, true, false, false] rfl rfl (take_ofW HT_.out HW_.out (by kernel_rfl)) (fun _ _ _ h => h) (Or.inl ⟨by rfl, ?_⟩) hHeld ?_ ?_
                     rotate_left
                     ·rintro w' ⟨s0, s1⟩
                      go_simp
                      with_reducible rfl
                     rotate_left
                     ·simp only [Act.put, List.setIfInBounds_toArray, List.set_cons_zero, List.set_cons_succ, i64_w, i32_w]
                      rfl
                     refine take_ (i := 7) (N := some 124) (v := ?_) (a' := ?_) #[true, true, true, true, true, true, true, true, false] rfl rfl (take_ofW HT_.out HW_.out (by kernel_rfl)) (fun _ _ _ h => h) (Or.inl ⟨by rfl, ?_⟩) hHeld ?_ ?_
                     rotate_left
                     ·rintro w' ⟨s0, s1⟩
                      go_simp
                      with_reducible rfl
                     rotate_left
                     ·simp only [Act.put, List.setIfInBounds_toArray, List.set_cons_zero, List.set_cons_succ, i64_w, i32_w]
                      rfl
                     refine one_ (i := 8) (N := some 125) #[true, true, true, true, true, true, true, true, true] rfl rfl (one_of HT_.out (by kernel_rfl)) (by decide) (fun K hK => ?_)
                     refine goes_ Try.func33 (by kernel_rfl) rfl #[.slice A549_0 (rd_L1 y527 x12_2).length c549_0, .int .i64 (rd t516 x19_4)] (by rfl) rfl rfl (by (try simp only [List.map_toArray, List.map_cons, List.map_nil]); first | done | rfl | (simp only [List.length_drop, List.length_take]; rfl)) ?_
                     with_reducible refine (worldmintref01_Has.calls k4 _ _ (rd_L1 y527 x12_2) (rd t516 x19_4) true _ ?side1 ?side2 A48.out).mono ?_
                     (case side1 => repeat (first | exact (by first | (with_reducible exact HR549_0.out) | (with_reducible exact Kd.C_drewN HR549_0.out _)) | (with_reducible refine Kd.C_alloc ?_ _) | (with_reducible refine Kd.C_drewN ?_ _) | (with_reducible refine Kd.C_drew ?_)))
                     (case side2 => exact HC549_0.out)
                     rintro e w' ⟨rfl, ⟨nd, rfl⟩⟩
                     refine ⟨_, rfl, ?_⟩
                     refine hK.out _ _ ⟨hHeld.1, hHeld.2⟩ (fun hHeld => ?_)
                     clear hK K
                     refine norm_ (a' := ?_) ?_ ?_
                     rotate_left
                     ·show Act.put _ (some 125) _ = _
                      simp only [Act.put, List.setIfInBounds_toArray, List.set_cons_zero, List.set_cons_succ, i64_w, i32_w]
                      rfl
                     refine done_ (done_of HT_.out (by kernel_rfl)) ?_
                     have p552 : 0 ≤ (x19_4 : Int) := of_decide_eq_true (by first | (with_reducible assumption) | assumption)
                     have q552 : x19_4 < (t516.length : Int) := of_decide_eq_true (by first | (with_reducible assumption) | assumption)
                     obtain ⟨ad552, e552, hx552_0⟩ := Kd.at_int (Kd.R_reads' HO_7.out).2.2 x19_4 p552 q552
                     obtain rfl : ad550 = ad552 := (by injection e552)
                     replace p552 := eq_true p552
                     replace q552 := eq_true q552
                     try go_wp2_with (first | ((with_reducible refine gate_builtin (b := .append) (xs := #[.tmp 126, .tmp 131]) rfl ?_); (try (refine gate_guard (by rfl) ?_; dsimp only)); at_builtin; refine Kd.R_append (Kd.int .i64) (w0 := w) w.heap.size rfl (.tmp 126) (.tmp 131) 22 3 (.int .i64 0) 8 rfl Try.underlying22 info3 rfl (by decide) (by omega) u18 x18_4 (rd t516 x19_4) [.int .i64 (rd t516 x19_4)] (fun k_ => some k_ ≠ (.slice (some ad550) t516.length co51 : Value).ownBlock ∧ some k_ ≠ (v547 : Value).ownBlock) (fun _ => False) rfl rfl ?aP (fun _ hk => hk.elim) ?aF ?aO ?aB ?aS ?aL ?_; (case aP => exact rfl); (case aB => exact (by repeat (first | (with_reducible first | exact HB.out | apply below_alloc | apply pw_below_drewN | apply below_drew1) | exact HB.out))); (case aF => exact (fun k_ hk => ⟨Kd.fresh' (Kd.R_lt (by (with_reducible repeat (first | apply Kd.R_alloc | apply Kd.R_drewN | apply Kd.R_drew)); exact HO_7.out)) k_ hk, Kd.fresh' (Kd.R_lt (by (with_reducible repeat (first | apply Kd.R_alloc | apply Kd.R_drewN | apply Kd.R_drew)); exact HO_15.out)) k_ hk⟩)); (case aO => exact (by (with_reducible repeat (first | apply Kd.R_alloc | apply Kd.R_drewN | apply Kd.R_drew)); exact HO_18.out)); (case aS => exact (below_size (by repeat (first | (with_reducible first | exact HB.out | apply below_alloc | apply pw_below_drewN | apply below_drew1) | exact HB.out)))); (case aL => have := LMc50.out; omega); intro v554 w53 ho hb hg hat; rw [← Ny553.out] at ho; have n0_ := Aside0.mk (Kd.N_afterv (ok := (fun k_ => some k_ ≠ (.slice (some ad550) t516.length co51 : Value).ownBlock ∧ some k_ ≠ (.slice (some ad533) y527.length co30 : Value).ownBlock ∧ some k_ ≠ (v547 : Value).ownBlock)) (by (with_reducible repeat (first | apply Kd.N_alloc | apply Kd.N_drewN | apply Kd.N_drew)); exact Kd.N_mono HO_6.out (fun _ hk => ⟨⟨hk.1, ⟨hk.2.1, hk.2.2.1⟩⟩, hk.2.2.2⟩)) hg hat); have n1_ := Aside0.mk (Kd.R_after (ok := (fun k_ => some k_ ≠ (v547 : Value).ownBlock)) (by (with_reducible repeat (first | apply Kd.R_alloc | apply Kd.R_drewN | apply Kd.R_drew)); exact HO_7.out) hg hat); have n2_ := Aside0.mk (Kd.N_afterv (ok := (fun k_ => some k_ ≠ (.slice Ao14 t513.length co14 : Value).ownBlock ∧ some k_ ≠ (.slice (some ad550) t516.length co51 : Value).ownBlock ∧ some k_ ≠ (v547 : Value).ownBlock)) (by (with_reducible repeat (first | apply Kd.N_alloc | apply Kd.N_drewN | apply Kd.N_drew)); exact Kd.N_mono HO_10.out (fun _ hk => ⟨⟨hk.1, ⟨hk.2.1, hk.2.2.1⟩⟩, hk.2.2.2⟩)) hg hat); have n3_ := Aside0.mk (Kd.R_after (ok := (fun k_ => some k_ ≠ (.slice (some ad550) t516.length co51 : Value).ownBlock)) (by (with_reducible repeat (first | apply Kd.R_alloc | apply Kd.R_drewN | apply Kd.R_drew)); exact HO_15.out) hg hat); have n4_ := Aside0.mk (Kd.V_afterv (ok := (fun k_ => some k_ ≠ (.slice Ao14 t513.length co14 : Value).ownBlock ∧ some k_ ≠ (.slice (some ad550) t516.length co51 : Value).ownBlock ∧ some k_ ≠ (.slice (some ad533) y527.length co30 : Value).ownBlock ∧ some k_ ≠ (v547 : Value).ownBlock)) (by (with_reducible repeat (first | apply Kd.V_alloc | apply Kd.V_drewN | apply Kd.V_drew)); exact Kd.V_mono HL549_0.out (fun _ hk => ⟨⟨hk.1.1, ⟨hk.1.2.1, ⟨hk.2, hk.1.2.2.1⟩⟩⟩, hk.1.2.2.2⟩)) hg hat); have n5_ := Aside0.mk (hb); have n6_ := Aside0.mk (ho); clear HO_6; clear HO_7; clear HO_10; clear HO_15; clear HL549_0; clear HB; clear HO_18; have HO_6 := n0_; have HO_7 := n1_; have HO_10 := n2_; have HO_15 := n3_; have HL549_0 := n4_; have HB := n5_; have HO555 := n6_; clear n0_ n1_ n2_ n3_ n4_ n5_ n6_; clear ho hb hg hat))
                     go_roundg k4
                     case measure => have := HJ9.out; have := HK2.out; have := HK3.out; have := HK4.out; omega
                     case rel => exact ⟨(y553), (wrap64 (x19_4 + 1)), (by first | rfl | (simp; done) | (simp [*]; done)), H', ⟨by have := HJ9.out; have := HK2.out; have := HK3.out; have := HK4.out; omega⟩, ⟨by (with_reducible repeat (first | apply Kd.N_alloc | apply Kd.N_drewN | apply Kd.N_drew)); exact Kd.N_mono HO_6.out (fun _ hk => ⟨hk.1.1, ⟨hk.1.2.1, ⟨hk.1.2.2, hk.2⟩⟩⟩)⟩, ⟨by (with_reducible repeat (first | apply Kd.R_alloc | apply Kd.R_drewN | apply Kd.R_drew)); exact HO_7.out⟩, ⟨by (with_reducible repeat (first | apply Kd.N_alloc | apply Kd.N_drewN | apply Kd.N_drew)); exact Kd.N_mono HO_10.out (fun _ hk => ⟨hk.1.1, ⟨hk.1.2.1, ⟨hk.1.2.2, hk.2⟩⟩⟩)⟩, ⟨by (with_reducible repeat (first | apply Kd.R_alloc | apply Kd.R_drewN | apply Kd.R_drew)); exact HO_15.out⟩, ⟨by (with_reducible repeat (first | apply Kd.R_alloc | apply Kd.R_drewN | apply Kd.R_drew)); exact HO555.out⟩, ⟨by repeat (first | (with_reducible first | exact HB.out | apply below_alloc | apply pw_below_drewN | apply below_drew1) | exact HB.out)⟩⟩
                    ·rw [if_neg c50] at H
                     exact absurd H (by simp)
                   ·replace c49 := Bool.eq_false_iff.mpr c49
                    subst c49
                    have H1 : (worldmintlaw28_ClearGroups.l2 k4 t509 t513 t516 t517 y527 x11_2 x12_2 t544 t545 t546 x18_4 (wrap64 (x19_4 + 1))) = some r := by rw [if_neg (show ¬ (false = true) by decide)] at H; exact H
                    clear H
                    have H := H1
                    clear H1
                    have H' := Aside0.mk H
                    clear H
                    obtain ⟨Ao54, co54, eo54⟩ := Kd.R_slice HO_7.out
                    subst eo54
                    try go_wp2
                    have n0_ := Aside0.mk (Kd.N_drew HO_6.out)
                    have n1_ := Aside0.mk (Kd.R_drew HO_7.out)
                    have n2_ := Aside0.mk (Kd.N_drew HO_10.out)
                    have n3_ := Aside0.mk (Kd.R_drew HO_15.out)
                    have n4_ := Aside0.mk (Kd.R_drew HO_18.out)
                    have n5_ := Aside0.mk (below_drew1 HB.out)
                    clear HO_6
                    clear HO_7
                    clear HO_10
                    clear HO_15
                    clear HO_18
                    clear HB
                    have HO_6 := n0_
                    have HO_7 := n1_
                    have HO_10 := n2_
                    have HO_15 := n3_
                    have HO_18 := n4_
                    have HB := n5_
                    clear n0_ n1_ n2_ n3_ n4_ n5_
                    have p549 : 0 ≤ (x12_2 : Int) := of_decide_eq_true (by first | (with_reducible assumption) | assumption)
                    have q549 : x12_2 < (y527.length : Int) := of_decide_eq_true (by first | (with_reducible assumption) | assumption)
                    obtain ⟨ad549, A549_0, c549_0, e549, hx549_0, hl549_0, hi549_0⟩ := at_L1 (Kd.N_reads' HO_10.out).2.2 x12_2 p549 q549
                    obtain rfl : ad533 = ad549 := (by injection e549)
                    obtain ⟨ce549, hce549, hMe549, hcc549⟩ := Kd.N_get HO_10.out [] x12_2 p549 (by first | exact q549 | exact of_decide_eq_true (by first | (with_reducible assumption) | assumption) | (have e_ := (Kd.N_reads' HO_10.out).1; omega))
                    obtain ⟨ua549_0, uc549_0, rfl, ul549_0, ge549_0⟩ := Kd.FK_slice_open hMe549
                    have hv549_0 := hcc549 0 _ rfl
                    rw [Nat.add_zero, show ((Kd.slice 3 (Kd.int .i64))).sz = 1 from rfl, Nat.mul_one] at hv549_0
                    replace hv549_0 := Option.some.inj (hv549_0.symm.trans hx549_0)
                    injection hv549_0 with hva_ hvn_ hvc_
                    rw [hva_] at ge549_0
                    rw [hvc_] at ul549_0
                    have HL549_0 := Aside0.mk (show Kd.V (Kd.int .i64) 3 _ w.heap.size _ _ (rd_L1 y527 x12_2) from Kd.V_mk ul549_0 ge549_0)
                    clear hva_ hvn_ hvc_ ge549_0 ul549_0
                    clear hcc549 hce549
                    have HR549_0 := Aside0.mk hi549_0
                    have HC549_0 := Aside0.mk hl549_0
                    clear hi549_0 hl549_0
                    replace p549 := eq_true p549
                    replace q549 := eq_true q549
                    have p550 : 0 ≤ (x19_4 : Int) := of_decide_eq_true (by first | (with_reducible assumption) | assumption)
                    have q550 : x19_4 < (t516.length : Int) := of_decide_eq_true (by first | (with_reducible assumption) | assumption)
                    obtain ⟨ad550, e550, hx550_0⟩ := Kd.at_int (Kd.R_reads' HO_7.out).2.2 x19_4 p550 q550
                    cases e550
                    replace p550 := eq_true p550
                    replace q550 := eq_true q550
                    refine start_ (n := 9) (S := fun w' => w'.cell? (ad533.add (x12_2).toNat) = some (.slice A549_0 (rd_L1 y527 x12_2).length c549_0) ∧ w'.cell? (ad550.add (x19_4).toNat) = some (.int .i64 (rd t516 x19_4))) (ds := []) #[false, false, false, false, false, false, false, false, false] (by kernel_rfl) rfl rfl ⟨hx549_0, hx550_0⟩ (fun hHeld => ?_); refine with_tabW worldmintlaw28_ClearGroups.tab23 worldmintlaw28_ClearGroups.bits23 (fun HT_ HW_ => ?_)
                    generalize wr.drew = w55 at HO_6 HO_7 HO_10 HO_15 HO_18 HB HL549_0 HR549_0 hx549_0 hx550_0 hHeld ⊢
                    refine pure_ (i := 0) (N := some 117) (v := ?_) (a' := ?_) #[true, false, false, false, false, false, false, false, false] rfl rfl (any_of HT_.out (by kernel_rfl)) (fun _ _ _ h => h) (Or.inl ⟨by rfl, ?_⟩) ?_ ?_
                    rotate_left
                    ·intro w'
                     go_simp
                     with_reducible rfl
                    rotate_left
                    ·simp only [Act.put, List.setIfInBounds_toArray, List.set_cons_zero, List.set_cons_succ, i64_w, i32_w]
                     rfl
                    refine pure_ (i := 1) (N := some 118) (v := ?_) (a' := ?_) #[true, true, false, false, false, false, false, false, false] rfl rfl (any_of HT_.out (by kernel_rfl)) (fun _ _ _ h => h) (Or.inl ⟨by rfl, ?_⟩) ?_ ?_
                    rotate_left
                    ·intro w'
                     go_simp
                     with_reducible rfl
                    rotate_left
                    ·simp only [Act.put, List.setIfInBounds_toArray, List.set_cons_zero, List.set_cons_succ, i64_w, i32_w]
                     rfl
                    refine pure_ (i := 2) (N := some 119) (v := ?_) (a' := ?_) #[true, true, true, false, false, false, false, false, false] rfl rfl (any_of HT_.out (by kernel_rfl)) (fun _ _ _ h => h) (Or.inl ⟨by rfl, ?_⟩) ?_ ?_
                    rotate_left
                    ·intro w'
                     go_simp
                     with_reducible rfl
                    rotate_left
                    ·simp only [Act.put, List.setIfInBounds_toArray, List.set_cons_zero, List.set_cons_succ, i64_w, i32_w]
                     rfl
                    refine pure_ (i := 4) (N := some 121) (v := ?_) (a' := ?_) #[true, true, true, false, true, false, false, false, false] rfl rfl (any_of HT_.out (by kernel_rfl)) (fun _ _ _ h => h) (Or.inl ⟨by rfl, ?_⟩) ?_ ?_
                    rotate_left
                    ·intro w'
                     go_simp
                     with_reducible rfl
                    rotate_left
                    ·simp only [Act.put, List.setIfInBounds_toArray, List.set_cons_zero, List.set_cons_succ, i64_w, i32_w]
                     rfl
                    refine pure_ (i := 5) (N := some 122) (v := ?_) (a' := ?_) #[true, true, true, false, true, true, false, false, false] rfl rfl (any_of HT_.out (by kernel_rfl)) (fun _ _ _ h => h) (Or.inl ⟨by rfl, ?_⟩) ?_ ?_
                    rotate_left
                    ·intro w'
                     go_simp
                     with_reducible rfl
                    rotate_left
                    ·simp only [Act.put, List.setIfInBounds_toArray, List.set_cons_zero, List.set_cons_succ, i64_w, i32_w]
                     rfl
                    refine pure_ (i := 6) (N := some 123) (v := ?_) (a' := ?_) #[true, true, true, false, true, true, true, false, false] rfl rfl (any_of HT_.out (by kernel_rfl)) (fun _ _ _ h => h) (Or.inl ⟨by rfl, ?_⟩) ?_ ?_
                    rotate_left
                    ·intro w'
                     go_simp
                     with_reducible rfl
                    rotate_left
                    ·simp only [Act.put, List.setIfInBounds_toArray, List.set_cons_zero, List.set_cons_succ, i64_w, i32_w]
                     rfl
                    refine take_ (i := 3) (N := some 120) (v := ?_) (a' := ?_) #[true, true, true, true, true, true, true, false, false] rfl rfl (take_ofW HT_.out HW_.out (by kernel_rfl)) (fun _ _ _ h => h) (Or.inl ⟨by rfl, ?_⟩) hHeld ?_ ?_
                    rotate_left
                    ·rintro w' ⟨s0, s1⟩
                     go_simp
                     with_reducible rfl
                    rotate_left
                    ·simp only [Act.put, List.setIfInBounds_toArray, List.set_cons_zero, List.set_cons_succ, i64_w, i32_w]
                     rfl
                    refine take_ (i := 7) (N := some 124) (v := ?_) (a' := ?_) #[true, true, true, true, true, true, true, true, false] rfl rfl (take_ofW HT_.out HW_.out (by kernel_rfl)) (fun _ _ _ h => h) (Or.inl ⟨by rfl, ?_⟩) hHeld ?_ ?_
                    rotate_left
                    ·rintro w' ⟨s0, s1⟩
                     go_simp
                     with_reducible rfl
                    rotate_left
                    ·simp only [Act.put, List.setIfInBounds_toArray, List.set_cons_zero, List.set_cons_succ, i64_w, i32_w]
                     rfl
                    refine one_ (i := 8) (N := some 125) #[true, true, true, true, true, true, true, true, true] rfl rfl (one_of HT_.out (by kernel_rfl)) (by decide) (fun K hK => ?_)
                    refine goes_ Try.func33 (by kernel_rfl) rfl #[.slice A549_0 (rd_L1 y527 x12_2).length c549_0, .int .i64 (rd t516 x19_4)] (by rfl) rfl rfl (by (try simp only [List.map_toArray, List.map_cons, List.map_nil]); first | done | rfl | (simp only [List.length_drop, List.length_take]; rfl)) ?_
                    with_reducible refine (worldmintref01_Has.calls k4 _ _ (rd_L1 y527 x12_2) (rd t516 x19_4) false _ ?side1 ?side2 A48.out).mono ?_
                    (case side1 => repeat (first | exact (by first | (with_reducible exact HR549_0.out) | (with_reducible exact Kd.C_drewN HR549_0.out _)) | (with_reducible refine Kd.C_alloc ?_ _) | (with_reducible refine Kd.C_drewN ?_ _) | (with_reducible refine Kd.C_drew ?_)))
                    (case side2 => exact HC549_0.out)
                    rintro e w' ⟨rfl, ⟨nd, rfl⟩⟩
                    refine ⟨_, rfl, ?_⟩
                    refine hK.out _ _ ⟨hHeld.1, hHeld.2⟩ (fun hHeld => ?_)
                    clear hK K
                    refine norm_ (a' := ?_) ?_ ?_
                    rotate_left
                    ·show Act.put _ (some 125) _ = _
                     simp only [Act.put, List.setIfInBounds_toArray, List.set_cons_zero, List.set_cons_succ, i64_w, i32_w]
                     rfl
                    refine done_ (done_of HT_.out (by kernel_rfl)) ?_
                    try go_wp2
                    go_roundg k4
                    case measure => have := HJ9.out; have := HK2.out; have := HK3.out; have := HK4.out; omega
                    case rel => exact ⟨(x18_4), (wrap64 (x19_4 + 1)), (by first | rfl | (simp; done) | (simp [*]; done)), H', ⟨by have := HJ9.out; have := HK2.out; have := HK3.out; have := HK4.out; omega⟩, ⟨by (with_reducible repeat (first | apply Kd.N_alloc | apply Kd.N_drewN | apply Kd.N_drew)); exact HO_6.out⟩, ⟨by (with_reducible repeat (first | apply Kd.R_alloc | apply Kd.R_drewN | apply Kd.R_drew)); exact HO_7.out⟩, ⟨by (with_reducible repeat (first | apply Kd.N_alloc | apply Kd.N_drewN | apply Kd.N_drew)); exact HO_10.out⟩, ⟨by (with_reducible repeat (first | apply Kd.R_alloc | apply Kd.R_drewN | apply Kd.R_drew)); exact HO_15.out⟩, ⟨by (with_reducible repeat (first | apply Kd.R_alloc | apply Kd.R_drewN | apply Kd.R_drew)); exact HO_18.out⟩, ⟨by repeat (first | (with_reducible first | exact HB.out | apply below_alloc | apply pw_below_drewN | apply below_drew1) | exact HB.out)⟩⟩
                  ·rw [if_neg c47] at H
                   exact absurd H (by simp)
                 ·rw [if_neg c46] at H
                  exact absurd H (by simp)
                ·rw [if_neg c45] at H
                 exact absurd H (by simp)
               ·rw [if_neg c44] at H
                have c44b0 : decide (x19_4 < (t516.length : Int)) = false := decide_eq_false c44
                clear c44
                have H' := Aside0.mk H
                clear H
                obtain ⟨Ao56, co56, eo56⟩ := Kd.R_slice HO_7.out
                subst eo56
                go_wp2
                go_loopg [20, 21] k4 (fun kq v20 v21 w' => ∃ (x20_5 : List Int) (x21_5 : Int), v21 = .int .i64 x21_5 ∧ Aside0 (worldmintlaw28_ClearGroups.l3 kq t509 t513 t516 t517 y527 x11_2 x12_2 t544 t545 t546 x18_4 x20_5 x21_5 = some r) ∧ Aside0 (kq ≤ k4) ∧ Aside0 (Kd.N k45 45 w' w.heap.size (fun k_ => some k_ ≠ ((.slice Ao56 t516.length co56) : Value).ownBlock ∧ some k_ ≠ ((.slice (some ad533) y527.length co30) : Value).ownBlock ∧ some k_ ≠ (v547 : Value).ownBlock ∧ some k_ ≠ (u18 : Value).ownBlock ∧ some k_ ≠ (v20 : Value).ownBlock) (.slice Ao14 t513.length co14) t513) ∧ Aside0 (Kd.R (Kd.int .i64) 3 w' w.heap.size (fun k_ => some k_ ≠ (v547 : Value).ownBlock ∧ some k_ ≠ (u18 : Value).ownBlock ∧ some k_ ≠ (v20 : Value).ownBlock) (.slice Ao56 t516.length co56) t516) ∧ Aside0 (Kd.N (Kd.slice 3 (Kd.int .i64)) 22 w' w.heap.size (fun k_ => some k_ ≠ ((.slice Ao14 t513.length co14) : Value).ownBlock ∧ some k_ ≠ ((.slice Ao56 t516.length co56) : Value).ownBlock ∧ some k_ ≠ (v547 : Value).ownBlock ∧ some k_ ≠ (u18 : Value).ownBlock ∧ some k_ ≠ (v20 : Value).ownBlock) (.slice (some ad533) y527.length co30) y527) ∧ Aside0 (Kd.R (Kd.int .i64) 3 w' w.heap.size (fun k_ => some k_ ≠ ((.slice Ao56 t516.length co56) : Value).ownBlock ∧ some k_ ≠ (u18 : Value).ownBlock ∧ some k_ ≠ (v20 : Value).ownBlock) v547 t544) ∧ Aside0 (Kd.R (Kd.int .i64) 3 w' w.heap.size (fun k_ => some k_ ≠ ((.slice Ao56 t516.length co56) : Value).ownBlock ∧ some k_ ≠ (v547 : Value).ownBlock ∧ some k_ ≠ (v20 : Value).ownBlock) u18 x18_4) ∧ Aside0 (Kd.R (Kd.int .i64) 3 w' w.heap.size (fun k_ => some k_ ≠ ((.slice Ao56 t516.length co56) : Value).ownBlock ∧ some k_ ≠ (v547 : Value).ownBlock ∧ some k_ ≠ (u18 : Value).ownBlock) v20 x20_5) ∧ Aside0 (Below w.heap.size w w'))
                case atStart => exact ⟨(([] : List Int)), (0), (by first | rfl | (simp; done) | (simp [*]; done)), H', ⟨Nat.le_refl _⟩, ⟨by (with_reducible repeat (first | apply Kd.N_alloc | apply Kd.N_drewN | apply Kd.N_drew)); exact Kd.N_mono HO_6.out (fun _ hk => ⟨hk.1, ⟨hk.2.1, ⟨hk.2.2.1, ⟨hk.2.2.2, (by simp [Value.ownBlock])⟩⟩⟩⟩)⟩, ⟨by (with_reducible repeat (first | apply Kd.R_alloc | apply Kd.R_drewN | apply Kd.R_drew)); exact Kd.R_mono HO_7.out (fun _ hk => ⟨hk.1, ⟨hk.2, (by simp [Value.ownBlock])⟩⟩)⟩, ⟨by (with_reducible repeat (first | apply Kd.N_alloc | apply Kd.N_drewN | apply Kd.N_drew)); exact Kd.N_mono HO_10.out (fun _ hk => ⟨hk.1, ⟨hk.2.1, ⟨hk.2.2.1, ⟨hk.2.2.2, (by simp [Value.ownBlock])⟩⟩⟩⟩)⟩, ⟨by (with_reducible repeat (first | apply Kd.R_alloc | apply Kd.R_drewN | apply Kd.R_drew)); exact Kd.R_mono HO_15.out (fun _ hk => ⟨hk.1, ⟨hk.2, (by simp [Value.ownBlock])⟩⟩)⟩, ⟨by (with_reducible repeat (first | apply Kd.R_alloc | apply Kd.R_drewN | apply Kd.R_drew)); exact Kd.R_mono HO_18.out (fun _ hk => ⟨hk.1, ⟨hk.2, (by simp [Value.ownBlock])⟩⟩)⟩, ⟨by first | exact Kd.R_nil _ _ _ _ _ | exact Kd.N_nil _ _ _ _ _ | exact Kd.V_nil _ _ _ _ _ | exact Kd.Q_nil _ _ _ _ _ | exact Kd.S_nil _ _ _ _ _⟩, ⟨by repeat (first | (with_reducible first | exact HB.out | apply below_alloc | apply pw_below_drewN | apply below_drew1) | exact HB.out)⟩⟩
                case round =>
                 clear H'
                 try clear c1
                 try clear c2
                 try clear p2
                 try clear c3
                 try clear c4
                 try clear c5
                 try clear p5
                 try clear q5
                 try clear hx5
                 try clear p6
                 try clear c9
                 try clear c11
                 try clear c12
                 try clear c15
                 try clear c20
                 try clear c20b0
                 try clear c20b1
                 try clear c22
                 try clear c24
                 try clear c28
                 try clear c29
                 try clear c29b0
                 try clear c31
                 try clear c31b0
                 try clear c32
                 try clear c32b0
                 try clear c33
                 try clear c33b0
                 try clear c34
                 try clear c34b0
                 try clear c35
                 try clear c35b0
                 try clear c36
                 try clear c36b0
                 try clear c37
                 try clear c37b0
                 try clear c38
                 try clear c38b0
                 try clear c39
                 try clear c44
                 try clear c44b0
                 try clear c45
                 try clear c45b0
                 try clear c46
                 try clear c46b0
                 try clear c47
                 try clear c47b0
                 try clear c49
                 try clear c50
                 try clear c53
                 try clear p53
                 try clear q53
                 try clear hx53
                 try clear c54
                 try clear p54
                 try clear q54
                 try clear hx54
                 try clear p55
                 try clear q55
                 try clear hx55
                 try clear hx533_0
                 try clear hx534_0
                 try clear hx535_0
                 try clear hx536_0
                 try clear hx537_0
                 try clear hx538_0
                 try clear hx539_0
                 try clear hx540_0
                 try clear hx540_1
                 try clear hx540_2
                 try clear hx549_0
                 try clear hx550_0
                 try clear hx552_0
                 try clear p2
                 try clear p5
                 try clear p533
                 try clear p534
                 try clear p535
                 try clear p536
                 try clear p537
                 try clear p538
                 try clear p539
                 try clear p540
                 try clear p549
                 try clear p550
                 try clear p552
                 try clear p6
                 try clear q5
                 try clear q533
                 try clear q534
                 try clear q535
                 try clear q536
                 try clear q537
                 try clear q538
                 try clear q539
                 try clear q540
                 try clear q549
                 try clear q550
                 try clear q552
                 obtain ⟨x20_5, x21_5, rfl, HA, HK5, HO_6, HO_7, HO_10, HO_15, HO_18, HO_20, HB⟩ := hrel
                 cases gk with
                 | zero => exact absurd HA.out (by simp [worldmintlaw28_ClearGroups.l3])
                 | succ k5 =>
                  have H := HA.out
                  clear HA
                  simp only [worldmintlaw28_ClearGroups.l3] at H
                  by_cases c57 : x21_5 < (t544.length : Int)
                  ·rw [if_pos c57] at H
                   have c57b0 : decide (x21_5 < (t544.length : Int)) = true := decide_eq_true c57
                   clear c57
                   by_cases c58 : 0 ≤ x21_5
                   ·rw [if_pos c58] at H
                    have c58b0 : decide (0 ≤ x21_5) = true := decide_eq_true c58
                    clear c58
                    by_cases c59 : (rd t544 x21_5) < 0
                    ·rw [if_pos c59] at H
                     have c59b0 : decide ((rd t544 x21_5) < 0) = true := decide_eq_true c59
                     clear c59
                     obtain rfl := Option.some.inj H
                     obtain ⟨Ao60, co60, eo60⟩ := Kd.R_slice HO_15.out
                     subst eo60
                     try go_wp2
                     have n0_ := Aside0.mk (Kd.N_drew HO_6.out)
                     have n1_ := Aside0.mk (Kd.R_drew HO_7.out)
                     have n2_ := Aside0.mk (Kd.N_drew HO_10.out)
                     have n3_ := Aside0.mk (Kd.R_drew HO_15.out)
                     have n4_ := Aside0.mk (Kd.R_drew HO_18.out)
                     have n5_ := Aside0.mk (Kd.R_drew HO_20.out)
                     have n6_ := Aside0.mk (below_drew1 HB.out)
                     clear HO_6
                     clear HO_7
                     clear HO_10
                     clear HO_15
                     clear HO_18
                     clear HO_20
                     clear HB
                     have HO_6 := n0_
                     have HO_7 := n1_
                     have HO_10 := n2_
                     have HO_15 := n3_
                     have HO_18 := n4_
                     have HO_20 := n5_
                     have HB := n6_
                     clear n0_ n1_ n2_ n3_ n4_ n5_ n6_
                     have p556 : 0 ≤ (x21_5 : Int) := of_decide_eq_true (by first | (with_reducible assumption) | assumption)
                     have q556 : x21_5 < (t544.length : Int) := of_decide_eq_true (by first | (with_reducible assumption) | assumption)
                     obtain ⟨ad556, e556, hx556_0⟩ := Kd.at_int (Kd.R_reads' HO_15.out).2.2 x21_5 p556 q556
                     cases e556
                     replace p556 := eq_true p556
                     replace q556 := eq_true q556
                     refine start_ (n := 17) (S := fun w' => w'.cell? (ad556.add (x21_5).toNat) = some (.int .i64 (rd t544 x21_5))) (ds := []) #[false, false, false, false, false, false, false, false, false, false, false, false, false, false, false, false, false] (by kernel_rfl) rfl rfl (hx556_0) (fun hHeld => ?_); refine with_tabW worldmintlaw28_ClearGroups.tab29 worldmintlaw28_ClearGroups.bits29 (fun HT_ HW_ => ?_)
                     generalize wr.drew = w61 at HO_6 HO_7 HO_10 HO_15 HO_18 HO_20 HB hx556_0 hHeld ⊢
                     refine pure_ (i := 0) (N := some 139) (v := ?_) (a' := ?_) #[true, false, false, false, false, false, false, false, false, false, false, false, false, false, false, false, false] rfl rfl (any_of HT_.out (by kernel_rfl)) (fun _ _ _ h => h) (Or.inl ⟨by rfl, ?_⟩) ?_ ?_
                     rotate_left
                     ·intro w'
                      go_simp
                      with_reducible rfl
                     rotate_left
                     ·simp only [Act.put, List.setIfInBounds_toArray, List.set_cons_zero, List.set_cons_succ, i64_w, i32_w]
                      rfl
                     refine pure_ (i := 1) (N := some 140) (v := ?_) (a' := ?_) #[true, true, false, false, false, false, false, false, false, false, false, false, false, false, false, false, false] rfl rfl (any_of HT_.out (by kernel_rfl)) (fun _ _ _ h => h) (Or.inl ⟨by rfl, ?_⟩) ?_ ?_
                     rotate_left
                     ·intro w'
                      go_simp
                      with_reducible rfl
                     rotate_left
                     ·simp only [Act.put, List.setIfInBounds_toArray, List.set_cons_zero, List.set_cons_succ, i64_w, i32_w]
                      rfl
                     refine pure_ (i := 2) (N := some 141) (v := ?_) (a' := ?_) #[true, true, true, false, false, false, false, false, false, false, false, false, false, false, false, false, false] rfl rfl (any_of HT_.out (by kernel_rfl)) (fun _ _ _ h => h) (Or.inl ⟨by rfl, ?_⟩) ?_ ?_
                     rotate_left
                     ·intro w'
                      go_simp
                      with_reducible rfl
                     rotate_left
                     ·simp only [Act.put, List.setIfInBounds_toArray, List.set_cons_zero, List.set_cons_succ, i64_w, i32_w]
                      rfl
                     refine take_ (i := 3) (N := some 142) (v := ?_) (a' := ?_) #[true, true, true, true, false, false, false, false, false, false, false, false, false, false, false, false, false] rfl rfl (take_ofW HT_.out HW_.out (by kernel_rfl)) (fun _ _ _ h => h) (Or.inl ⟨by rfl, ?_⟩) hHeld ?_ ?_
                     rotate_left
                     ·intro w' s0
                      go_simp
                      with_reducible rfl
                     rotate_left
                     ·simp only [Act.put, List.setIfInBounds_toArray, List.set_cons_zero, List.set_cons_succ, i64_w, i32_w]
                      rfl
                     refine pure_ (i := 4) (N := some 143) (v := ?_) (a' := ?_) #[true, true, true, true, true, false, false, false, false, false, false, false, false, false, false, false, false] rfl rfl (any_of HT_.out (by kernel_rfl)) (fun _ _ _ h => h) (Or.inl ⟨by rfl, ?_⟩) ?_ ?_
                     rotate_left
                     ·intro w'
                      go_simp
                      with_reducible rfl
                     rotate_left
                     ·simp only [Act.put, List.setIfInBounds_toArray, List.set_cons_zero, List.set_cons_succ, i64_w, i32_w]
                      rfl
                     refine pure_ (i := 5) (N := some 144) (v := ?_) (a' := ?_) #[true, true, true, true, true, true, false, false, false, false, false, false, false, false, false, false, false] rfl rfl (any_of HT_.out (by kernel_rfl)) (fun _ _ _ h => h) (Or.inl ⟨by rfl, ?_⟩) ?_ ?_
                     rotate_left
                     ·intro w'
                      go_simp
                      with_reducible rfl
                     rotate_left
                     ·simp only [Act.put, List.setIfInBounds_toArray, List.set_cons_zero, List.set_cons_succ, i64_w, i32_w]
                      rfl
                     refine pure_ (i := 6) (N := some 145) (v := undef) (a' := ?_) #[true, true, true, true, true, true, true, false, false, false, false, false, false, false, false, false, false] rfl rfl (any_of HT_.out (by kernel_rfl)) (fun _ _ _ h => h) (Or.inr ⟨by rfl, rfl⟩) ?_ ?_
                     rotate_left
                     ·simp only [Act.put, List.setIfInBounds_toArray, List.set_cons_zero, List.set_cons_succ, i64_w, i32_w]
                      rfl
                     refine pure_ (i := 7) (N := some 146) (v := undef) (a' := ?_) #[true, true, true, true, true, true, true, true, false, false, false, false, false, false, false, false, false] rfl rfl (any_of HT_.out (by kernel_rfl)) (fun _ _ _ h => h) (Or.inr ⟨by rfl, rfl⟩) ?_ ?_
                     rotate_left
                     ·simp only [Act.put, List.setIfInBounds_toArray, List.set_cons_zero, List.set_cons_succ, i64_w, i32_w]
                      rfl
                     refine pure_ (i := 8) (N := some 147) (v := undef) (a' := ?_) #[true, true, true, true, true, true, true, true, true, false, false, false, false, false, false, false, false] rfl rfl (any_of HT_.out (by kernel_rfl)) (fun _ _ _ h => h) (Or.inr ⟨by rfl, rfl⟩) ?_ ?_
                     rotate_left
                     ·simp only [Act.put, List.setIfInBounds_toArray, List.set_cons_zero, List.set_cons_succ, i64_w, i32_w]
                      rfl
                     refine pure_ (i := 9) (N := some 148) (v := undef) (a' := ?_) #[true, true, true, true, true, true, true, true, true, true, false, false, false, false, false, false, false] rfl rfl (any_of HT_.out (by kernel_rfl)) (fun _ _ _ h => h) (Or.inr ⟨by rfl, rfl⟩) ?_ ?_
                     rotate_left
                     ·simp only [Act.put, List.setIfInBounds_toArray, List.set_cons_zero, List.set_cons_succ, i64_w, i32_w]
                      rfl
                     refine pure_ (i := 10) (N := some 149) (v := undef) (a' := ?_) #[true, true, true, true, true, true, true, true, true, true, true, false, false, false, false, false, false] rfl rfl (any_of HT_.out (by kernel_rfl)) (fun _ _ _ h => h) (Or.inr ⟨by rfl, rfl⟩) ?_ ?_
                     rotate_left
                     ·simp only [Act.put, List.setIfInBounds_toArray, List.set_cons_zero, List.set_cons_succ, i64_w, i32_w]
                      rfl
                     refine pure_ (i := 11) (N := some 150) (v := undef) (a' := ?_) #[true, true, true, true, true, true, true, true, true, true, true, true, false, false, false, false, false] rfl rfl (any_of HT_.out (by kernel_rfl)) (fun _ _ _ h => h) (Or.inr ⟨by rfl, rfl⟩) ?_ ?_
                     rotate_left
                     ·simp only [Act.put, List.setIfInBounds_toArray, List.set_cons_zero, List.set_cons_succ, i64_w, i32_w]
                      rfl
                     refine pure_ (i := 12) (N := some 151) (v := undef) (a' := ?_) #[true, true, true, true, true, true, true, true, true, true, true, true, true, false, false, false, false] rfl rfl (any_of HT_.out (by kernel_rfl)) (fun _ _ _ h => h) (Or.inr ⟨by rfl, rfl⟩) ?_ ?_
                     rotate_left
                     ·simp only [Act.put, List.setIfInBounds_toArray, List.set_cons_zero, List.set_cons_succ, i64_w, i32_w]
                      rfl
                     refine pure_ (i := 13) (N := some 152) (v := undef) (a' := ?_) #[true, true, true, true, true, true, true, true, true, true, true, true, true, true, false, false, false] rfl rfl (any_of HT_.out (by kernel_rfl)) (fun _ _ _ h => h) (Or.inr ⟨by rfl, rfl⟩) ?_ ?_
                     rotate_left
                     ·simp only [Act.put, List.setIfInBounds_toArray, List.set_cons_zero, List.set_cons_succ, i64_w, i32_w]
                      rfl
                     refine pure_ (i := 14) (N := some 153) (v := undef) (a' := ?_) #[true, true, true, true, true, true, true, true, true, true, true, true, true, true, true, false, false] rfl rfl (any_of HT_.out (by kernel_rfl)) (fun _ _ _ h => h) (Or.inr ⟨by rfl, rfl⟩) ?_ ?_
                     rotate_left
                     ·simp only [Act.put, List.setIfInBounds_toArray, List.set_cons_zero, List.set_cons_succ, i64_w, i32_w]
                      rfl
                     refine pure_ (i := 15) (N := some 154) (v := undef) (a' := ?_) #[true, true, true, true, true, true, true, true, true, true, true, true, true, true, true, true, false] rfl rfl (any_of HT_.out (by kernel_rfl)) (fun _ _ _ h => h) (Or.inr ⟨by rfl, rfl⟩) ?_ ?_
                     rotate_left
                     ·simp only [Act.put, List.setIfInBounds_toArray, List.set_cons_zero, List.set_cons_succ, i64_w, i32_w]
                      rfl
                     refine pure_ (i := 16) (N := some 155) (v := ?_) (a' := ?_) #[true, true, true, true, true, true, true, true, true, true, true, true, true, true, true, true, true] rfl rfl (any_of HT_.out (by kernel_rfl)) (fun _ _ _ h => h) (Or.inl ⟨by rfl, ?_⟩) ?_ ?_
                     rotate_left
                     ·intro w'
                      go_simp
                      with_reducible rfl
                     rotate_left
                     ·simp only [Act.put, List.setIfInBounds_toArray, List.set_cons_zero, List.set_cons_succ, i64_w, i32_w]
                      rfl
                     refine done_ (done_of HT_.out (by kernel_rfl)) ?_
                     try go_wp2
                     go_ret
                     exact ⟨by first | rfl | (simp [errW_none, errW_some] <;> rfl) | (simp [*, errW_none, errW_some] <;> rfl), by repeat (first | (with_reducible first | exact HB.out | apply below_alloc | apply pw_below_drewN | apply below_drew1) | exact HB.out)⟩
                    ·rw [if_neg c59] at H
                     have c59b0 : decide ((rd t544 x21_5) < 0) = false := decide_eq_false c59
                     clear c59
                     by_cases c62 : 0 ≤ x12_2
                     ·rw [if_pos c62] at H
                      have c62b0 : decide (0 ≤ x12_2) = true := decide_eq_true c62
                      clear c62
                      by_cases c63 : x12_2 < (y527.length : Int)
                      ·rw [if_pos c63] at H
                       have c63b0 : decide (x12_2 < (y527.length : Int)) = true := decide_eq_true c63
                       clear c63
                       by_cases c64 : (rd t544 x21_5) ≥ ((rd_L1 y527 x12_2).length : Int)
                       ·rw [if_pos c64] at H
                        have c64b0 : decide (((rd_L1 y527 x12_2).length : Int) ≤ (rd t544 x21_5)) = true := decide_eq_true c64
                        clear c64
                        obtain rfl := Option.some.inj H
                        obtain ⟨Ao65, co65, eo65⟩ := Kd.R_slice HO_15.out
                        subst eo65
                        try go_wp2
                        have n0_ := Aside0.mk (Kd.N_drew HO_6.out)
                        have n1_ := Aside0.mk (Kd.R_drew HO_7.out)
                        have n2_ := Aside0.mk (Kd.N_drew HO_10.out)
                        have n3_ := Aside0.mk (Kd.R_drew HO_15.out)
                        have n4_ := Aside0.mk (Kd.R_drew HO_18.out)
                        have n5_ := Aside0.mk (Kd.R_drew HO_20.out)
                        have n6_ := Aside0.mk (below_drew1 HB.out)
                        clear HO_6
                        clear HO_7
                        clear HO_10
                        clear HO_15
                        clear HO_18
                        clear HO_20
                        clear HB
                        have HO_6 := n0_
                        have HO_7 := n1_
                        have HO_10 := n2_
                        have HO_15 := n3_
                        have HO_18 := n4_
                        have HO_20 := n5_
                        have HB := n6_
                        clear n0_ n1_ n2_ n3_ n4_ n5_ n6_
                        have p556 : 0 ≤ (x21_5 : Int) := of_decide_eq_true (by first | (with_reducible assumption) | assumption)
                        have q556 : x21_5 < (t544.length : Int) := of_decide_eq_true (by first | (with_reducible assumption) | assumption)
                        obtain ⟨ad556, e556, hx556_0⟩ := Kd.at_int (Kd.R_reads' HO_15.out).2.2 x21_5 p556 q556
                        cases e556
                        replace p556 := eq_true p556
                        replace q556 := eq_true q556
                        have p557 : 0 ≤ (x21_5 : Int) := of_decide_eq_true (by first | (with_reducible assumption) | assumption)
                        have q557 : x21_5 < (t544.length : Int) := of_decide_eq_true (by first | (with_reducible assumption) | assumption)
                        obtain ⟨ad557, e557, hx557_0⟩ := Kd.at_int (Kd.R_reads' HO_15.out).2.2 x21_5 p557 q557
                        obtain rfl : ad556 = ad557 := (by injection e557)
                        replace p557 := eq_true p557
                        replace q557 := eq_true q557
                        have p558 : 0 ≤ (x12_2 : Int) := of_decide_eq_true (by first | (with_reducible assumption) | assumption)
                        have q558 : x12_2 < (y527.length : Int) := of_decide_eq_true (by first | (with_reducible assumption) | assumption)
                        obtain ⟨ad558, A558_0, c558_0, e558, hx558_0, hl558_0, hi558_0⟩ := at_L1 (Kd.N_reads' HO_10.out).2.2 x12_2 p558 q558
                        obtain rfl : ad533 = ad558 := (by injection e558)
                        obtain ⟨ce558, hce558, hMe558, hcc558⟩ := Kd.N_get HO_10.out [] x12_2 p558 (by first | exact q558 | exact of_decide_eq_true (by first | (with_reducible assumption) | assumption) | (have e_ := (Kd.N_reads' HO_10.out).1; omega))
                        obtain ⟨ua558_0, uc558_0, rfl, ul558_0, ge558_0⟩ := Kd.FK_slice_open hMe558
                        have hv558_0 := hcc558 0 _ rfl
                        rw [Nat.add_zero, show ((Kd.slice 3 (Kd.int .i64))).sz = 1 from rfl, Nat.mul_one] at hv558_0
                        replace hv558_0 := Option.some.inj (hv558_0.symm.trans hx558_0)
                        injection hv558_0 with hva_ hvn_ hvc_
                        rw [hva_] at ge558_0
                        rw [hvc_] at ul558_0
                        have HL558_0 := Aside0.mk (show Kd.V (Kd.int .i64) 3 _ w.heap.size _ _ (rd_L1 y527 x12_2) from Kd.V_mk ul558_0 ge558_0)
                        clear hva_ hvn_ hvc_ ge558_0 ul558_0
                        clear hcc558 hce558
                        have HR558_0 := Aside0.mk hi558_0
                        have HC558_0 := Aside0.mk hl558_0
                        clear hi558_0 hl558_0
                        replace p558 := eq_true p558
                        replace q558 := eq_true q558
                        refine start_ (n := 17) (S := fun w' => w'.cell? (ad556.add (x21_5).toNat) = some (.int .i64 (rd t544 x21_5)) ∧ w'.cell? (ad556.add (x21_5).toNat) = some (.int .i64 (rd t544 x21_5)) ∧ w'.cell? (ad533.add (x12_2).toNat) = some (.slice A558_0 (rd_L1 y527 x12_2).length c558_0)) (ds := []) #[false, false, false, false, false, false, false, false, false, false, false, false, false, false, false, false, false] (by kernel_rfl) rfl rfl ⟨hx556_0, hx557_0, hx558_0⟩ (fun hHeld => ?_); refine with_tabW worldmintlaw28_ClearGroups.tab29 worldmintlaw28_ClearGroups.bits29 (fun HT_ HW_ => ?_)
                        generalize wr.drew = w66 at HO_6 HO_7 HO_10 HO_15 HO_18 HO_20 HB HL558_0 HR558_0 hx556_0 hx557_0 hx558_0 hHeld ⊢
                        refine pure_ (i := 0) (N := some 139) (v := ?_) (a' := ?_) #[true, false, false, false, false, false, false, false, false, false, false, false, false, false, false, false, false] rfl rfl (any_of HT_.out (by kernel_rfl)) (fun _ _ _ h => h) (Or.inl ⟨by rfl, ?_⟩) ?_ ?_
                        rotate_left
                        ·intro w'
                         go_simp
                         with_reducible rfl
                        rotate_left
                        ·simp only [Act.put, List.setIfInBounds_toArray, List.set_cons_zero, List.set_cons_succ, i64_w, i32_w]
                         rfl
                        refine pure_ (i := 1) (N := some 140) (v := ?_) (a' := ?_) #[true, true, false, false, false, false, false, false, false, false, false, false, false, false, false, false, false] rfl rfl (any_of HT_.out (by kernel_rfl)) (fun _ _ _ h => h) (Or.inl ⟨by rfl, ?_⟩) ?_ ?_
                        rotate_left
                        ·intro w'
                         go_simp
                         with_reducible rfl
                        rotate_left
                        ·simp only [Act.put, List.setIfInBounds_toArray, List.set_cons_zero, List.set_cons_succ, i64_w, i32_w]
                         rfl
                        refine pure_ (i := 2) (N := some 141) (v := ?_) (a' := ?_) #[true, true, true, false, false, false, false, false, false, false, false, false, false, false, false, false, false] rfl rfl (any_of HT_.out (by kernel_rfl)) (fun _ _ _ h => h) (Or.inl ⟨by rfl, ?_⟩) ?_ ?_
                        rotate_left
                        ·intro w'
                         go_simp
                         with_reducible rfl
                        rotate_left
                        ·simp only [Act.put, List.setIfInBounds_toArray, List.set_cons_zero, List.set_cons_succ, i64_w, i32_w]
                         rfl
                        refine take_ (i := 3) (N := some 142) (v := ?_) (a' := ?_) #[true, true, true, true, false, false, false, false, false, false, false, false, false, false, false, false, false] rfl rfl (take_ofW HT_.out HW_.out (by kernel_rfl)) (fun _ _ _ h => h) (Or.inl ⟨by rfl, ?_⟩) hHeld ?_ ?_
                        rotate_left
                        ·rintro w' ⟨s0, s1, s2⟩
                         go_simp
                         with_reducible rfl
                        rotate_left
                        ·simp only [Act.put, List.setIfInBounds_toArray, List.set_cons_zero, List.set_cons_succ, i64_w, i32_w]
                         rfl
                        refine pure_ (i := 4) (N := some 143) (v := ?_) (a' := ?_) #[true, true, true, true, true, false, false, false, false, false, false, false, false, false, false, false, false] rfl rfl (any_of HT_.out (by kernel_rfl)) (fun _ _ _ h => h) (Or.inl ⟨by rfl, ?_⟩) ?_ ?_
                        rotate_left
                        ·intro w'
                         go_simp
                         with_reducible rfl
                        rotate_left
                        ·simp only [Act.put, List.setIfInBounds_toArray, List.set_cons_zero, List.set_cons_succ, i64_w, i32_w]
                         rfl
                        refine pure_ (i := 5) (N := some 144) (v := ?_) (a' := ?_) #[true, true, true, true, true, true, false, false, false, false, false, false, false, false, false, false, false] rfl rfl (any_of HT_.out (by kernel_rfl)) (fun _ _ _ h => h) (Or.inl ⟨by rfl, ?_⟩) ?_ ?_
                        rotate_left
                        ·intro w'
                         go_simp
                         with_reducible rfl
                        rotate_left
                        ·simp only [Act.put, List.setIfInBounds_toArray, List.set_cons_zero, List.set_cons_succ, i64_w, i32_w]
                         rfl
                        refine pure_ (i := 6) (N := some 145) (v := ?_) (a' := ?_) #[true, true, true, true, true, true, true, false, false, false, false, false, false, false, false, false, false] rfl rfl (any_of HT_.out (by kernel_rfl)) (fun _ _ _ h => h) (Or.inl ⟨by rfl, ?_⟩) ?_ ?_
                        rotate_left
                        ·intro w'
                         go_simp
                         with_reducible rfl
                        rotate_left
                        ·simp only [Act.put, List.setIfInBounds_toArray, List.set_cons_zero, List.set_cons_succ, i64_w, i32_w]
                         rfl
                        refine pure_ (i := 7) (N := some 146) (v := ?_) (a' := ?_) #[true, true, true, true, true, true, true, true, false, false, false, false, false, false, false, false, false] rfl rfl (any_of HT_.out (by kernel_rfl)) (fun _ _ _ h => h) (Or.inl ⟨by rfl, ?_⟩) ?_ ?_
                        rotate_left
                        ·intro w'
                         go_simp
                         with_reducible rfl
                        rotate_left
                        ·simp only [Act.put, List.setIfInBounds_toArray, List.set_cons_zero, List.set_cons_succ, i64_w, i32_w]
                         rfl
                        refine pure_ (i := 8) (N := some 147) (v := ?_) (a' := ?_) #[true, true, true, true, true, true, true, true, true, false, false, false, false, false, false, false, false] rfl rfl (any_of HT_.out (by kernel_rfl)) (fun _ _ _ h => h) (Or.inl ⟨by rfl, ?_⟩) ?_ ?_
                        rotate_left
                        ·intro w'
                         go_simp
                         with_reducible rfl
                        rotate_left
                        ·simp only [Act.put, List.setIfInBounds_toArray, List.set_cons_zero, List.set_cons_succ, i64_w, i32_w]
                         rfl
                        refine pure_ (i := 10) (N := some 149) (v := ?_) (a' := ?_) #[true, true, true, true, true, true, true, true, true, false, true, false, false, false, false, false, false] rfl rfl (any_of HT_.out (by kernel_rfl)) (fun _ _ _ h => h) (Or.inl ⟨by rfl, ?_⟩) ?_ ?_
                        rotate_left
                        ·intro w'
                         go_simp
                         with_reducible rfl
                        rotate_left
                        ·simp only [Act.put, List.setIfInBounds_toArray, List.set_cons_zero, List.set_cons_succ, i64_w, i32_w]
                         rfl
                        refine pure_ (i := 11) (N := some 150) (v := ?_) (a' := ?_) #[true, true, true, true, true, true, true, true, true, false, true, true, false, false, false, false, false] rfl rfl (any_of HT_.out (by kernel_rfl)) (fun _ _ _ h => h) (Or.inl ⟨by rfl, ?_⟩) ?_ ?_
                        rotate_left
                        ·intro w'
                         go_simp
                         with_reducible rfl
                        rotate_left
                        ·simp only [Act.put, List.setIfInBounds_toArray, List.set_cons_zero, List.set_cons_succ, i64_w, i32_w]
                         rfl
                        refine pure_ (i := 12) (N := some 151) (v := ?_) (a' := ?_) #[true, true, true, true, true, true, true, true, true, false, true, true, true, false, false, false, false] rfl rfl (any_of HT_.out (by kernel_rfl)) (fun _ _ _ h => h) (Or.inl ⟨by rfl, ?_⟩) ?_ ?_
                        rotate_left
                        ·intro w'
                         go_simp
                         with_reducible rfl
                        rotate_left
                        ·simp only [Act.put, List.setIfInBounds_toArray, List.set_cons_zero, List.set_cons_succ, i64_w, i32_w]
                         rfl
                        refine take_ (i := 9) (N := some 148) (v := ?_) (a' := ?_) #[true, true, true, true, true, true, true, true, true, true, true, true, true, false, false, false, false] rfl rfl (take_ofW HT_.out HW_.out (by kernel_rfl)) (fun _ _ _ h => h) (Or.inl ⟨by rfl, ?_⟩) hHeld ?_ ?_
                        rotate_left
                        ·rintro w' ⟨s0, s1, s2⟩
                         go_simp
                         with_reducible rfl
                        rotate_left
                        ·simp only [Act.put, List.setIfInBounds_toArray, List.set_cons_zero, List.set_cons_succ, i64_w, i32_w]
                         rfl
                        refine take_ (i := 13) (N := some 152) (v := ?_) (a' := ?_) #[true, true, true, true, true, true, true, true, true, true, true, true, true, true, false, false, false] rfl rfl (take_ofW HT_.out HW_.out (by kernel_rfl)) (fun _ _ _ h => h) (Or.inl ⟨by rfl, ?_⟩) hHeld ?_ ?_
                        rotate_left
                        ·rintro w' ⟨s0, s1, s2⟩
                         go_simp
                         with_reducible rfl
                        rotate_left
                        ·simp only [Act.put, List.setIfInBounds_toArray, List.set_cons_zero, List.set_cons_succ, i64_w, i32_w]
                         rfl
                        refine pure_ (i := 14) (N := some 153) (v := ?_) (a' := ?_) #[true, true, true, true, true, true, true, true, true, true, true, true, true, true, true, false, false] rfl rfl (any_of HT_.out (by kernel_rfl)) (fun _ _ _ h => h) (Or.inl ⟨by rfl, ?_⟩) ?_ ?_
                        rotate_left
                        ·intro w'
                         go_simp
                         with_reducible rfl
                        rotate_left
                        ·simp only [Act.put, List.setIfInBounds_toArray, List.set_cons_zero, List.set_cons_succ, i64_w, i32_w]
                         rfl
                        refine pure_ (i := 15) (N := some 154) (v := ?_) (a' := ?_) #[true, true, true, true, true, true, true, true, true, true, true, true, true, true, true, true, false] rfl rfl (any_of HT_.out (by kernel_rfl)) (fun _ _ _ h => h) (Or.inl ⟨by rfl, ?_⟩) ?_ ?_
                        rotate_left
                        ·intro w'
                         go_simp
                         with_reducible rfl
                        rotate_left
                        ·simp only [Act.put, List.setIfInBounds_toArray, List.set_cons_zero, List.set_cons_succ, i64_w, i32_w]
                         rfl
                        refine pure_ (i := 16) (N := some 155) (v := ?_) (a' := ?_) #[true, true, true, true, true, true, true, true, true, true, true, true, true, true, true, true, true] rfl rfl (any_of HT_.out (by kernel_rfl)) (fun _ _ _ h => h) (Or.inl ⟨by rfl, ?_⟩) ?_ ?_
                        rotate_left
                        ·intro w'
                         go_simp
                         with_reducible rfl
                        rotate_left
                        ·simp only [Act.put, List.setIfInBounds_toArray, List.set_cons_zero, List.set_cons_succ, i64_w, i32_w]
                         rfl
                        refine done_ (done_of HT_.out (by kernel_rfl)) ?_
                        try go_wp2
                        go_ret
                        exact ⟨by first | rfl | (simp [errW_none, errW_some] <;> rfl) | (simp [*, errW_none, errW_some] <;> rfl), by repeat (first | (with_reducible first | exact HB.out | apply below_alloc | apply pw_below_drewN | apply below_drew1) | exact HB.out)⟩
                       ·rw [if_neg c64] at H
                        have c64b0 : decide (((rd_L1 y527 x12_2).length : Int) ≤ (rd t544 x21_5)) = false := decide_eq_false c64
                        clear c64
                        by_cases c67 : 0 ≤ (rd t544 x21_5)
                        ·rw [if_pos c67] at H
                         have c67b0 : decide (0 ≤ (rd t544 x21_5)) = true := decide_eq_true c67
                         clear c67
                         by_cases c68 : (rd t544 x21_5) < ((rd_L1 y527 x12_2).length : Int)
                         ·rw [if_pos c68] at H
                          have c68b0 : decide ((rd t544 x21_5) < ((rd_L1 y527 x12_2).length : Int)) = true := decide_eq_true c68
                          clear c68
                          by_cases c69 : x20_5.length < 17592186044416
                          ·rw [if_pos c69] at H
                           have LMc69 := Aside0.mk c69
                           clear c69
                           obtain ⟨y562, hy562⟩ : ∃ y_ : List Int, y_ = (x20_5 ++ [rd (rd_L1 y527 x12_2) (rd t544 x21_5)]) := ⟨_, rfl⟩
                           replace H : (worldmintlaw28_ClearGroups.l3 k5 t509 t513 t516 t517 y527 x11_2 x12_2 t544 t545 t546 x18_4 y562 (wrap64 (x21_5 + 1))) = some r := by first | (rw [hy562]; with_reducible exact H) | (have H2_ := (Option.bind_some _ _).symm.trans H; rw [hy562]; with_reducible exact H2_) | (have H2_ := (Option.bind_some _ _).symm.trans H; with_reducible exact H2_) | with_reducible exact H | (rw [hy562]; exact H) | exact H
                           have Ny562 := Aside0.mk hy562
                           clear hy562
                           have H' := Aside0.mk H
                           clear H
                           obtain ⟨Ao70, co70, eo70⟩ := Kd.R_slice HO_15.out
                           subst eo70
                           try go_wp2
                           have n0_ := Aside0.mk (Kd.N_drew HO_6.out)
                           have n1_ := Aside0.mk (Kd.R_drew HO_7.out)
                           have n2_ := Aside0.mk (Kd.N_drew HO_10.out)
                           have n3_ := Aside0.mk (Kd.R_drew HO_15.out)
                           have n4_ := Aside0.mk (Kd.R_drew HO_18.out)
                           have n5_ := Aside0.mk (Kd.R_drew HO_20.out)
                           have n6_ := Aside0.mk (below_drew1 HB.out)
                           clear HO_6
                           clear HO_7
                           clear HO_10
                           clear HO_15
                           clear HO_18
                           clear HO_20
                           clear HB
                           have HO_6 := n0_
                           have HO_7 := n1_
                           have HO_10 := n2_
                           have HO_15 := n3_
                           have HO_18 := n4_
                           have HO_20 := n5_
                           have HB := n6_
                           clear n0_ n1_ n2_ n3_ n4_ n5_ n6_
                           have p556 : 0 ≤ (x21_5 : Int) := of_decide_eq_true (by first | (with_reducible assumption) | assumption)
                           have q556 : x21_5 < (t544.length : Int) := of_decide_eq_true (by first | (with_reducible assumption) | assumption)
                           obtain ⟨ad556, e556, hx556_0⟩ := Kd.at_int (Kd.R_reads' HO_15.out).2.2 x21_5 p556 q556
                           cases e556
                           replace p556 := eq_true p556
                           replace q556 := eq_true q556
                           have p557 : 0 ≤ (x21_5 : Int) := of_decide_eq_true (by first | (with_reducible assumption) | assumption)
                           have q557 : x21_5 < (t544.length : Int) := of_decide_eq_true (by first | (with_reducible assumption) | assumption)
                           obtain ⟨ad557, e557, hx557_0⟩ := Kd.at_int (Kd.R_reads' HO_15.out).2.2 x21_5 p557 q557
                           obtain rfl : ad556 = ad557 := (by injection e557)
                           replace p557 := eq_true p557
                           replace q557 := eq_true q557
                           have p558 : 0 ≤ (x12_2 : Int) := of_decide_eq_true (by first | (with_reducible assumption) | assumption)
                           have q558 : x12_2 < (y527.length : Int) := of_decide_eq_true (by first | (with_reducible assumption) | assumption)
                           obtain ⟨ad558, A558_0, c558_0, e558, hx558_0, hl558_0, hi558_0⟩ := at_L1 (Kd.N_reads' HO_10.out).2.2 x12_2 p558 q558
                           obtain rfl : ad533 = ad558 := (by injection e558)
                           obtain ⟨ce558, hce558, hMe558, hcc558⟩ := Kd.N_get HO_10.out [] x12_2 p558 (by first | exact q558 | exact of_decide_eq_true (by first | (with_reducible assumption) | assumption) | (have e_ := (Kd.N_reads' HO_10.out).1; omega))
                           obtain ⟨ua558_0, uc558_0, rfl, ul558_0, ge558_0⟩ := Kd.FK_slice_open hMe558
                           have hv558_0 := hcc558 0 _ rfl
                           rw [Nat.add_zero, show ((Kd.slice 3 (Kd.int .i64))).sz = 1 from rfl, Nat.mul_one] at hv558_0
                           replace hv558_0 := Option.some.inj (hv558_0.symm.trans hx558_0)
                           injection hv558_0 with hva_ hvn_ hvc_
                           rw [hva_] at ge558_0
                           rw [hvc_] at ul558_0
                           have HL558_0 := Aside0.mk (show Kd.V (Kd.int .i64) 3 _ w.heap.size _ _ (rd_L1 y527 x12_2) from Kd.V_mk ul558_0 ge558_0)
                           clear hva_ hvn_ hvc_ ge558_0 ul558_0
                           clear hcc558 hce558
                           have HR558_0 := Aside0.mk hi558_0
                           have HC558_0 := Aside0.mk hl558_0
                           clear hi558_0 hl558_0
                           replace p558 := eq_true p558
                           replace q558 := eq_true q558
                           refine start_ (n := 17) (S := fun w' => w'.cell? (ad556.add (x21_5).toNat) = some (.int .i64 (rd t544 x21_5)) ∧ w'.cell? (ad556.add (x21_5).toNat) = some (.int .i64 (rd t544 x21_5)) ∧ w'.cell? (ad533.add (x12_2).toNat) = some (.slice A558_0 (rd_L1 y527 x12_2).length c558_0)) (ds := []) #[false, false, false, false, false, false, false, false, false, false, false, false, false, false, false, false, false] (by kernel_rfl) rfl rfl ⟨hx556_0, hx557_0, hx558_0⟩ (fun hHeld => ?_); refine with_tabW worldmintlaw28_ClearGroups.tab29 worldmintlaw28_ClearGroups.bits29 (fun HT_ HW_ => ?_)
                           generalize wr.drew = w71 at HO_6 HO_7 HO_10 HO_15 HO_18 HO_20 HB HL558_0 HR558_0 hx556_0 hx557_0 hx558_0 hHeld ⊢
                           refine pure_ (i := 0) (N := some 139) (v := ?_) (a' := ?_) #[true, false, false, false, false, false, false, false, false, false, false, false, false, false, false, false, false] rfl rfl (any_of HT_.out (by kernel_rfl)) (fun _ _ _ h => h) (Or.inl ⟨by rfl, ?_⟩) ?_ ?_
                           rotate_left
                           ·intro w'
                            go_simp
                            with_reducible rfl
                           rotate_left
                           ·simp only [Act.put, List.setIfInBounds_toArray, List.set_cons_zero, List.set_cons_succ, i64_w, i32_w]
                            rfl
                           refine pure_ (i := 1) (N := some 140) (v := ?_) (a' := ?_) #[true, true, false, false, false, false, false, false, false, false, false, false, false, false, false, false, false] rfl rfl (any_of HT_.out (by kernel_rfl)) (fun _ _ _ h => h) (Or.inl ⟨by rfl, ?_⟩) ?_ ?_
                           rotate_left
                           ·intro w'
                            go_simp
                            with_reducible rfl
                           rotate_left
                           ·simp only [Act.put, List.setIfInBounds_toArray, List.set_cons_zero, List.set_cons_succ, i64_w, i32_w]
                            rfl
                           refine pure_ (i := 2) (N := some 141) (v := ?_) (a' := ?_) #[true, true, true, false, false, false, false, false, false, false, false, false, false, false, false, false, false] rfl rfl (any_of HT_.out (by kernel_rfl)) (fun _ _ _ h => h) (Or.inl ⟨by rfl, ?_⟩) ?_ ?_
                           rotate_left
                           ·intro w'
                            go_simp
                            with_reducible rfl
                           rotate_left
                           ·simp only [Act.put, List.setIfInBounds_toArray, List.set_cons_zero, List.set_cons_succ, i64_w, i32_w]
                            rfl
                           refine take_ (i := 3) (N := some 142) (v := ?_) (a' := ?_) #[true, true, true, true, false, false, false, false, false, false, false, false, false, false, false, false, false] rfl rfl (take_ofW HT_.out HW_.out (by kernel_rfl)) (fun _ _ _ h => h) (Or.inl ⟨by rfl, ?_⟩) hHeld ?_ ?_
                           rotate_left
                           ·rintro w' ⟨s0, s1, s2⟩
                            go_simp
                            with_reducible rfl
                           rotate_left
                           ·simp only [Act.put, List.setIfInBounds_toArray, List.set_cons_zero, List.set_cons_succ, i64_w, i32_w]
                            rfl
                           refine pure_ (i := 4) (N := some 143) (v := ?_) (a' := ?_) #[true, true, true, true, true, false, false, false, false, false, false, false, false, false, false, false, false] rfl rfl (any_of HT_.out (by kernel_rfl)) (fun _ _ _ h => h) (Or.inl ⟨by rfl, ?_⟩) ?_ ?_
                           rotate_left
                           ·intro w'
                            go_simp
                            with_reducible rfl
                           rotate_left
                           ·simp only [Act.put, List.setIfInBounds_toArray, List.set_cons_zero, List.set_cons_succ, i64_w, i32_w]
                            rfl
                           refine pure_ (i := 5) (N := some 144) (v := ?_) (a' := ?_) #[true, true, true, true, true, true, false, false, false, false, false, false, false, false, false, false, false] rfl rfl (any_of HT_.out (by kernel_rfl)) (fun _ _ _ h => h) (Or.inl ⟨by rfl, ?_⟩) ?_ ?_
                           rotate_left
                           ·intro w'
                            go_simp
                            with_reducible rfl
                           rotate_left
                           ·simp only [Act.put, List.setIfInBounds_toArray, List.set_cons_zero, List.set_cons_succ, i64_w, i32_w]
                            rfl
                           refine pure_ (i := 6) (N := some 145) (v := ?_) (a' := ?_) #[true, true, true, true, true, true, true, false, false, false, false, false, false, false, false, false, false] rfl rfl (any_of HT_.out (by kernel_rfl)) (fun _ _ _ h => h) (Or.inl ⟨by rfl, ?_⟩) ?_ ?_
                           rotate_left
                           ·intro w'
                            go_simp
                            with_reducible rfl
                           rotate_left
                           ·simp only [Act.put, List.setIfInBounds_toArray, List.set_cons_zero, List.set_cons_succ, i64_w, i32_w]
                            rfl
                           refine pure_ (i := 7) (N := some 146) (v := ?_) (a' := ?_) #[true, true, true, true, true, true, true, true, false, false, false, false, false, false, false, false, false] rfl rfl (any_of HT_.out (by kernel_rfl)) (fun _ _ _ h => h) (Or.inl ⟨by rfl, ?_⟩) ?_ ?_
                           rotate_left
                           ·intro w'
                            go_simp
                            with_reducible rfl
                           rotate_left
                           ·simp only [Act.put, List.setIfInBounds_toArray, List.set_cons_zero, List.set_cons_succ, i64_w, i32_w]
                            rfl
                           refine pure_ (i := 8) (N := some 147) (v := ?_) (a' := ?_) #[true, true, true, true, true, true, true, true, true, false, false, false, false, false, false, false, false] rfl rfl (any_of HT_.out (by kernel_rfl)) (fun _ _ _ h => h) (Or.inl ⟨by rfl, ?_⟩) ?_ ?_
                           rotate_left
                           ·intro w'
                            go_simp
                            with_reducible rfl
                           rotate_left
                           ·simp only [Act.put, List.setIfInBounds_toArray, List.set_cons_zero, List.set_cons_succ, i64_w, i32_w]
                            rfl
                           refine pure_ (i := 10) (N := some 149) (v := ?_) (a' := ?_) #[true, true, true, true, true, true, true, true, true, false, true, false, false, false, false, false, false] rfl rfl (any_of HT_.out (by kernel_rfl)) (fun _ _ _ h => h) (Or.inl ⟨by rfl, ?_⟩) ?_ ?_
                           rotate_left
                           ·intro w'
                            go_simp
                            with_reducible rfl
                           rotate_left
                           ·simp only [Act.put, List.setIfInBounds_toArray, List.set_cons_zero, List.set_cons_succ, i64_w, i32_w]
                            rfl
                           refine pure_ (i := 11) (N := some 150) (v := ?_) (a' := ?_) #[true, true, true, true, true, true, true, true, true, false, true, true, false, false, false, false, false] rfl rfl (any_of HT_.out (by kernel_rfl)) (fun _ _ _ h => h) (Or.inl ⟨by rfl, ?_⟩) ?_ ?_
                           rotate_left
                           ·intro w'
                            go_simp
                            with_reducible rfl
                           rotate_left
                           ·simp only [Act.put, List.setIfInBounds_toArray, List.set_cons_zero, List.set_cons_succ, i64_w, i32_w]
                            rfl
                           refine pure_ (i := 12) (N := some 151) (v := ?_) (a' := ?_) #[true, true, true, true, true, true, true, true, true, false, true, true, true, false, false, false, false] rfl rfl (any_of HT_.out (by kernel_rfl)) (fun _ _ _ h => h) (Or.inl ⟨by rfl, ?_⟩) ?_ ?_
                           rotate_left
                           ·intro w'
                            go_simp
                            with_reducible rfl
                           rotate_left
                           ·simp only [Act.put, List.setIfInBounds_toArray, List.set_cons_zero, List.set_cons_succ, i64_w, i32_w]
                            rfl
                           refine take_ (i := 9) (N := some 148) (v := ?_) (a' := ?_) #[true, true, true, true, true, true, true, true, true, true, true, true, true, false, false, false, false] rfl rfl (take_ofW HT_.out HW_.out (by kernel_rfl)) (fun _ _ _ h => h) (Or.inl ⟨by rfl, ?_⟩) hHeld ?_ ?_
                           rotate_left
                           ·rintro w' ⟨s0, s1, s2⟩
                            go_simp
                            with_reducible rfl
                           rotate_left
                           ·simp only [Act.put, List.setIfInBounds_toArray, List.set_cons_zero, List.set_cons_succ, i64_w, i32_w]
                            rfl
                           refine take_ (i := 13) (N := some 152) (v := ?_) (a' := ?_) #[true, true, true, true, true, true, true, true, true, true, true, true, true, true, false, false, false] rfl rfl (take_ofW HT_.out HW_.out (by kernel_rfl)) (fun _ _ _ h => h) (Or.inl ⟨by rfl, ?_⟩) hHeld ?_ ?_
                           rotate_left
                           ·rintro w' ⟨s0, s1, s2⟩
                            go_simp
                            with_reducible rfl
                           rotate_left
                           ·simp only [Act.put, List.setIfInBounds_toArray, List.set_cons_zero, List.set_cons_succ, i64_w, i32_w]
                            rfl
                           refine pure_ (i := 14) (N := some 153) (v := ?_) (a' := ?_) #[true, true, true, true, true, true, true, true, true, true, true, true, true, true, true, false, false] rfl rfl (any_of HT_.out (by kernel_rfl)) (fun _ _ _ h => h) (Or.inl ⟨by rfl, ?_⟩) ?_ ?_
                           rotate_left
                           ·intro w'
                            go_simp
                            with_reducible rfl
                           rotate_left
                           ·simp only [Act.put, List.setIfInBounds_toArray, List.set_cons_zero, List.set_cons_succ, i64_w, i32_w]
                            rfl
                           refine pure_ (i := 15) (N := some 154) (v := ?_) (a' := ?_) #[true, true, true, true, true, true, true, true, true, true, true, true, true, true, true, true, false] rfl rfl (any_of HT_.out (by kernel_rfl)) (fun _ _ _ h => h) (Or.inl ⟨by rfl, ?_⟩) ?_ ?_
                           rotate_left
                           ·intro w'
                            go_simp
                            with_reducible rfl
                           rotate_left
                           ·simp only [Act.put, List.setIfInBounds_toArray, List.set_cons_zero, List.set_cons_succ, i64_w, i32_w]
                            rfl
                           refine pure_ (i := 16) (N := some 155) (v := ?_) (a' := ?_) #[true, true, true, true, true, true, true, true, true, true, true, true, true, true, true, true, true] rfl rfl (any_of HT_.out (by kernel_rfl)) (fun _ _ _ h => h) (Or.inl ⟨by rfl, ?_⟩) ?_ ?_
                           rotate_left
                           ·intro w'
                            go_simp
                            with_reducible rfl
                           rotate_left
                           ·simp only [Act.put, List.setIfInBounds_toArray, List.set_cons_zero, List.set_cons_succ, i64_w, i32_w]
                            rfl
                           refine done_ (done_of HT_.out (by kernel_rfl)) ?_
                           try go_wp2
                           have n0_ := Aside0.mk (Kd.N_drew HO_6.out)
                           have n1_ := Aside0.mk (Kd.R_drew HO_7.out)
                           have n2_ := Aside0.mk (Kd.N_drew HO_10.out)
                           have n3_ := Aside0.mk (Kd.R_drew HO_15.out)
                           have n4_ := Aside0.mk (Kd.R_drew HO_18.out)
                           have n5_ := Aside0.mk (Kd.R_drew HO_20.out)
                           have n6_ := Aside0.mk (Kd.V_drew HL558_0.out)
                           have n7_ := Aside0.mk (Kd.C_drew HR558_0.out)
                           have n8_ := Aside0.mk (below_drew1 HB.out)
                           clear HO_6
                           clear HO_7
                           clear HO_10
                           clear HO_15
                           clear HO_18
                           clear HO_20
                           clear HL558_0
                           clear HR558_0
                           clear HB
                           have HO_6 := n0_
                           have HO_7 := n1_
                           have HO_10 := n2_
                           have HO_15 := n3_
                           have HO_18 := n4_
                           have HO_20 := n5_
                           have HL558_0 := n6_
                           have HR558_0 := n7_
                           have HB := n8_
                           clear n0_ n1_ n2_ n3_ n4_ n5_ n6_ n7_ n8_
                           have p559 : 0 ≤ (x12_2 : Int) := of_decide_eq_true (by first | (with_reducible assumption) | assumption)
                           have q559 : x12_2 < (y527.length : Int) := of_decide_eq_true (by first | (with_reducible assumption) | assumption)
                           obtain ⟨ad559, A559_0, c559_0, e559, hx559_0, hl559_0, hi559_0⟩ := at_L1 (Kd.N_reads' HO_10.out).2.2 x12_2 p559 q559
                           obtain rfl : ad533 = ad559 := (by injection e559)
                           obtain ⟨ce559, hce559, hMe559, hcc559⟩ := Kd.N_get HO_10.out [] x12_2 p559 (by first | exact q559 | exact of_decide_eq_true (by first | (with_reducible assumption) | assumption) | (have e_ := (Kd.N_reads' HO_10.out).1; omega))
                           obtain ⟨ua559_0, uc559_0, rfl, ul559_0, ge559_0⟩ := Kd.FK_slice_open hMe559
                           have hv559_0 := hcc559 0 _ rfl
                           rw [Nat.add_zero, show ((Kd.slice 3 (Kd.int .i64))).sz = 1 from rfl, Nat.mul_one] at hv559_0
                           replace hv559_0 := Option.some.inj (hv559_0.symm.trans hx559_0)
                           injection hv559_0 with hva_ hvn_ hvc_
                           rw [hva_] at ge559_0
                           rw [hvc_] at ul559_0
                           have HL559_0 := Aside0.mk (show Kd.V (Kd.int .i64) 3 _ w.heap.size _ _ (rd_L1 y527 x12_2) from Kd.V_mk ul559_0 ge559_0)
                           clear hva_ hvn_ hvc_ ge559_0 ul559_0
                           clear hcc559 hce559
                           have HR559_0 := Aside0.mk hi559_0
                           have HC559_0 := Aside0.mk hl559_0
                           clear hi559_0 hl559_0
                           replace p559 := eq_true p559
                           replace q559 := eq_true q559
                           have p560 : 0 ≤ (x21_5 : Int) := of_decide_eq_true (by first | (with_reducible assumption) | assumption)
                           have q560 : x21_5 < (t544.length : Int) := of_decide_eq_true (by first | (with_reducible assumption) | assumption)
                           obtain ⟨ad560, e560, hx560_0⟩ := Kd.at_int (Kd.R_reads' HO_15.out).2.2 x21_5 p560 q560
                           obtain rfl : ad556 = ad560 := (by injection e560)
                           replace p560 := eq_true p560
                           replace q560 := eq_true q560
                           have p561 : 0 ≤ ((rd t544 x21_5) : Int) := of_decide_eq_true (by first | (with_reducible assumption) | assumption)
                           have q561 : (rd t544 x21_5) < ((rd_L1 y527 x12_2).length : Int) := of_decide_eq_true (by first | (with_reducible assumption) | assumption)
                           obtain ⟨ad561, e561, hx561_0⟩ := Kd.at_int (by first | (with_reducible exact HR559_0.out) | (with_reducible exact Kd.C_drewN HR559_0.out _)) (rd t544 x21_5) p561 q561
                           cases e561
                           replace p561 := eq_true p561
                           replace q561 := eq_true q561
                           refine start_ (n := 14) (S := fun w' => w'.cell? (ad533.add (x12_2).toNat) = some (.slice (some ad561) (rd_L1 y527 x12_2).length c559_0) ∧ w'.cell? (ad556.add (x21_5).toNat) = some (.int .i64 (rd t544 x21_5)) ∧ w'.cell? (ad561.add ((rd t544 x21_5)).toNat) = some (.int .i64 (rd (rd_L1 y527 x12_2) (rd t544 x21_5)))) (ds := [11, 12]) #[false, false, false, false, false, false, false, false, false, false, false, false, false, false] (by kernel_rfl) rfl rfl ⟨hx559_0, hx560_0, hx561_0⟩ (fun hHeld => ?_); refine with_tabW worldmintlaw28_ClearGroups.tab31 worldmintlaw28_ClearGroups.bits31 (fun HT_ HW_ => ?_)
                           generalize w71.drew = w72 at HO_6 HO_7 HO_10 HO_15 HO_18 HO_20 HL558_0 HR558_0 HB HL559_0 HR559_0 hx559_0 hx560_0 hx561_0 hHeld ⊢
                           refine pure_ (i := 0) (N := some 156) (v := ?_) (a' := ?_) #[true, false, false, false, false, false, false, false, false, false, false, false, false, false] rfl rfl (any_of HT_.out (by kernel_rfl)) (fun _ _ _ h => h) (Or.inl ⟨by rfl, ?_⟩) ?_ ?_
                           rotate_left
                           ·intro w'
                            go_simp
                            with_reducible rfl
                           rotate_left
                           ·simp only [Act.put, List.setIfInBounds_toArray, List.set_cons_zero, List.set_cons_succ, i64_w, i32_w]
                            rfl
                           refine pure_ (i := 1) (N := some 157) (v := ?_) (a' := ?_) #[true, true, false, false, false, false, false, false, false, false, false, false, false, false] rfl rfl (any_of HT_.out (by kernel_rfl)) (fun _ _ _ h => h) (Or.inl ⟨by rfl, ?_⟩) ?_ ?_
                           rotate_left
                           ·intro w'
                            go_simp
                            with_reducible rfl
                           rotate_left
                           ·simp only [Act.put, List.setIfInBounds_toArray, List.set_cons_zero, List.set_cons_succ, i64_w, i32_w]
                            rfl
                           refine pure_ (i := 2) (N := some 158) (v := ?_) (a' := ?_) #[true, true, true, false, false, false, false, false, false, false, false, false, false, false] rfl rfl (any_of HT_.out (by kernel_rfl)) (fun _ _ _ h => h) (Or.inl ⟨by rfl, ?_⟩) ?_ ?_
                           rotate_left
                           ·intro w'
                            go_simp
                            with_reducible rfl
                           rotate_left
                           ·simp only [Act.put, List.setIfInBounds_toArray, List.set_cons_zero, List.set_cons_succ, i64_w, i32_w]
                            rfl
                           refine pure_ (i := 3) (N := some 159) (v := ?_) (a' := ?_) #[true, true, true, true, false, false, false, false, false, false, false, false, false, false] rfl rfl (any_of HT_.out (by kernel_rfl)) (fun _ _ _ h => h) (Or.inl ⟨by rfl, ?_⟩) ?_ ?_
                           rotate_left
                           ·intro w'
                            go_simp
                            with_reducible rfl
                           rotate_left
                           ·simp only [Act.put, List.setIfInBounds_toArray, List.set_cons_zero, List.set_cons_succ, i64_w, i32_w]
                            rfl
                           refine pure_ (i := 5) (N := some 161) (v := ?_) (a' := ?_) #[true, true, true, true, false, true, false, false, false, false, false, false, false, false] rfl rfl (any_of HT_.out (by kernel_rfl)) (fun _ _ _ h => h) (Or.inl ⟨by rfl, ?_⟩) ?_ ?_
                           rotate_left
                           ·intro w'
                            go_simp
                            with_reducible rfl
                           rotate_left
                           ·simp only [Act.put, List.setIfInBounds_toArray, List.set_cons_zero, List.set_cons_succ, i64_w, i32_w]
                            rfl
                           refine pure_ (i := 6) (N := some 162) (v := ?_) (a' := ?_) #[true, true, true, true, false, true, true, false, false, false, false, false, false, false] rfl rfl (any_of HT_.out (by kernel_rfl)) (fun _ _ _ h => h) (Or.inl ⟨by rfl, ?_⟩) ?_ ?_
                           rotate_left
                           ·intro w'
                            go_simp
                            with_reducible rfl
                           rotate_left
                           ·simp only [Act.put, List.setIfInBounds_toArray, List.set_cons_zero, List.set_cons_succ, i64_w, i32_w]
                            rfl
                           refine pure_ (i := 7) (N := some 163) (v := ?_) (a' := ?_) #[true, true, true, true, false, true, true, true, false, false, false, false, false, false] rfl rfl (any_of HT_.out (by kernel_rfl)) (fun _ _ _ h => h) (Or.inl ⟨by rfl, ?_⟩) ?_ ?_
                           rotate_left
                           ·intro w'
                            go_simp
                            with_reducible rfl
                           rotate_left
                           ·simp only [Act.put, List.setIfInBounds_toArray, List.set_cons_zero, List.set_cons_succ, i64_w, i32_w]
                            rfl
                           refine take_ (i := 4) (N := some 160) (v := ?_) (a' := ?_) #[true, true, true, true, true, true, true, true, false, false, false, false, false, false] rfl rfl (take_ofW HT_.out HW_.out (by kernel_rfl)) (fun _ _ _ h => h) (Or.inl ⟨by rfl, ?_⟩) hHeld ?_ ?_
                           rotate_left
                           ·rintro w' ⟨s0, s1, s2⟩
                            go_simp
                            with_reducible rfl
                           rotate_left
                           ·simp only [Act.put, List.setIfInBounds_toArray, List.set_cons_zero, List.set_cons_succ, i64_w, i32_w]
                            rfl
                           refine take_ (i := 8) (N := some 164) (v := ?_) (a' := ?_) #[true, true, true, true, true, true, true, true, true, false, false, false, false, false] rfl rfl (take_ofW HT_.out HW_.out (by kernel_rfl)) (fun _ _ _ h => h) (Or.inl ⟨by rfl, ?_⟩) hHeld ?_ ?_
                           rotate_left
                           ·rintro w' ⟨s0, s1, s2⟩
                            go_simp
                            with_reducible rfl
                           rotate_left
                           ·simp only [Act.put, List.setIfInBounds_toArray, List.set_cons_zero, List.set_cons_succ, i64_w, i32_w]
                            rfl
                           refine pure_ (i := 9) (N := some 165) (v := ?_) (a' := ?_) #[true, true, true, true, true, true, true, true, true, true, false, false, false, false] rfl rfl (any_of HT_.out (by kernel_rfl)) (fun _ _ _ h => h) (Or.inl ⟨by rfl, ?_⟩) ?_ ?_
                           rotate_left
                           ·intro w'
                            go_simp
                            with_reducible rfl
                           rotate_left
                           ·simp only [Act.put, List.setIfInBounds_toArray, List.set_cons_zero, List.set_cons_succ, i64_w, i32_w]
                            rfl
                           refine take_ (i := 10) (N := some 166) (v := ?_) (a' := ?_) #[true, true, true, true, true, true, true, true, true, true, true, false, false, false] rfl rfl (take_ofW HT_.out HW_.out (by kernel_rfl)) (fun _ _ _ h => h) (Or.inl ⟨by rfl, ?_⟩) hHeld ?_ ?_
                           rotate_left
                           ·rintro w' ⟨s0, s1, s2⟩
                            go_simp
                            with_reducible rfl
                           rotate_left
                           ·simp only [Act.put, List.setIfInBounds_toArray, List.set_cons_zero, List.set_cons_succ, i64_w, i32_w]
                            rfl
                           refine last_ (i := 11) (N := some 167) #[true, true, true, true, true, true, true, true, true, true, true, true, false, false] rfl rfl (one_of HT_.out (by kernel_rfl)) (by decide) (fun K hK => ?_)
                           refine value_ (w1 := ?_) (v := ?_) (by rfl) rfl ?_ ?_
                           rotate_left 2
                           ·go_simp
                            constructor
                            ·rfl
                            ·rfl
                           refine hK.out _ _ ?_
                           clear hK K
                           refine norm_ (a' := ?_) ?_ ?_
                           rotate_left
                           ·show Act.put _ (some 167) _ = _
                            simp only [Act.put, List.setIfInBounds_toArray, List.set_cons_zero, List.set_cons_succ, i64_w, i32_w]
                            rfl
                           refine last_ (i := 12) (N := some 168) #[true, true, true, true, true, true, true, true, true, true, true, true, true, false] rfl rfl (one_of HT_.out (by kernel_rfl)) (by decide) (fun K hK => ?_)
                           refine Kd.R_append_step (Kd.int .i64) (w0 := w) w.heap.size (by rfl) (.tmp 156) (.tmp 167) 22 3 (.int .i64 0) 8 rfl Try.underlying22 info3 rfl (by decide) (by omega) u20 x20_5 (rd (rd_L1 y527 x12_2) (rd t544 x21_5)) [.int .i64 (rd (rd_L1 y527 x12_2) (rd t544 x21_5))] (fun k_ => some k_ ≠ (.slice Ao56 t516.length co56 : Value).ownBlock ∧ some k_ ≠ (.slice (some ad556) t544.length co70 : Value).ownBlock ∧ some k_ ≠ (u18 : Value).ownBlock) (fun _ => False) rfl rfl ?aP (fun _ hk => hk.elim) ?aF ?aO ?aB ?aS ?aL ?_
                           (case aP => exact rfl)
                           (case aB => exact (by repeat (first | (with_reducible first | exact HB.out | apply below_alloc | apply pw_below_drewN | apply below_drew1) | exact HB.out)))
                           (case aF => exact (fun k_ hk => ⟨Kd.fresh' (Kd.R_lt (by (with_reducible repeat (first | apply Kd.R_alloc | apply Kd.R_drewN | apply Kd.R_drew)); exact HO_7.out)) k_ hk, Kd.fresh' (Kd.R_lt (by (with_reducible repeat (first | apply Kd.R_alloc | apply Kd.R_drewN | apply Kd.R_drew)); exact HO_15.out)) k_ hk, Kd.fresh' (Kd.R_lt (by (with_reducible repeat (first | apply Kd.R_alloc | apply Kd.R_drewN | apply Kd.R_drew)); exact HO_18.out)) k_ hk⟩))
                           (case aO => exact (by (with_reducible repeat (first | apply Kd.R_alloc | apply Kd.R_drewN | apply Kd.R_drew)); exact HO_20.out))
                           (case aS => exact (below_size (by repeat (first | (with_reducible first | exact HB.out | apply below_alloc | apply pw_below_drewN | apply below_drew1) | exact HB.out))))
                           (case aL => have := LMc69.out; omega)
                           intro v563 w73 ho hb hg hat
                           rw [← Ny562.out] at ho
                           have n0_ := Aside0.mk (Kd.N_afterv (ok := (fun k_ => some k_ ≠ (.slice Ao56 t516.length co56 : Value).ownBlock ∧ some k_ ≠ (.slice (some ad533) y527.length co30 : Value).ownBlock ∧ some k_ ≠ (.slice (some ad556) t544.length co70 : Value).ownBlock ∧ some k_ ≠ (u18 : Value).ownBlock)) (by (with_reducible repeat (first | apply Kd.N_alloc | apply Kd.N_drewN | apply Kd.N_drew)); exact Kd.N_mono HO_6.out (fun _ hk => ⟨⟨hk.1, ⟨hk.2.1, ⟨hk.2.2.1, hk.2.2.2.1⟩⟩⟩, hk.2.2.2.2⟩)) hg hat)
                           have n1_ := Aside0.mk (Kd.R_after (ok := (fun k_ => some k_ ≠ (.slice (some ad556) t544.length co70 : Value).ownBlock ∧ some k_ ≠ (u18 : Value).ownBlock)) (by (with_reducible repeat (first | apply Kd.R_alloc | apply Kd.R_drewN | apply Kd.R_drew)); exact Kd.R_mono HO_7.out (fun _ hk => ⟨⟨hk.1, hk.2.1⟩, hk.2.2⟩)) hg hat)
                           have n2_ := Aside0.mk (Kd.N_afterv (ok := (fun k_ => some k_ ≠ (.slice Ao14 t513.length co14 : Value).ownBlock ∧ some k_ ≠ (.slice Ao56 t516.length co56 : Value).ownBlock ∧ some k_ ≠ (.slice (some ad556) t544.length co70 : Value).ownBlock ∧ some k_ ≠ (u18 : Value).ownBlock)) (by (with_reducible repeat (first | apply Kd.N_alloc | apply Kd.N_drewN | apply Kd.N_drew)); exact Kd.N_mono HO_10.out (fun _ hk => ⟨⟨hk.1, ⟨hk.2.1, ⟨hk.2.2.1, hk.2.2.2.1⟩⟩⟩, hk.2.2.2.2⟩)) hg hat)
                           have n3_ := Aside0.mk (Kd.R_after (ok := (fun k_ => some k_ ≠ (.slice Ao56 t516.length co56 : Value).ownBlock ∧ some k_ ≠ (u18 : Value).ownBlock)) (by (with_reducible repeat (first | apply Kd.R_alloc | apply Kd.R_drewN | apply Kd.R_drew)); exact Kd.R_mono HO_15.out (fun _ hk => ⟨⟨hk.1, hk.2.1⟩, hk.2.2⟩)) hg hat)
                           have n4_ := Aside0.mk (Kd.R_after (ok := (fun k_ => some k_ ≠ (.slice Ao56 t516.length co56 : Value).ownBlock ∧ some k_ ≠ (.slice (some ad556) t544.length co70 : Value).ownBlock)) (by (with_reducible repeat (first | apply Kd.R_alloc | apply Kd.R_drewN | apply Kd.R_drew)); exact Kd.R_mono HO_18.out (fun _ hk => ⟨⟨hk.1, hk.2.1⟩, hk.2.2⟩)) hg hat)
                           have n5_ := Aside0.mk (Kd.V_afterv (ok := (fun k_ => some k_ ≠ (.slice Ao14 t513.length co14 : Value).ownBlock ∧ some k_ ≠ (.slice Ao56 t516.length co56 : Value).ownBlock ∧ some k_ ≠ (.slice (some ad533) y527.length co30 : Value).ownBlock ∧ some k_ ≠ (.slice (some ad556) t544.length co70 : Value).ownBlock ∧ some k_ ≠ (u18 : Value).ownBlock)) (by (with_reducible repeat (first | apply Kd.V_alloc | apply Kd.V_drewN | apply Kd.V_drew)); exact Kd.V_mono HL558_0.out (fun _ hk => ⟨⟨hk.1.1, ⟨hk.1.2.1, ⟨hk.2, ⟨hk.1.2.2.1, hk.1.2.2.2.1⟩⟩⟩⟩, hk.1.2.2.2.2⟩)) hg hat)
                           have n6_ := Aside0.mk (Kd.V_afterv (ok := (fun k_ => some k_ ≠ (.slice Ao14 t513.length co14 : Value).ownBlock ∧ some k_ ≠ (.slice Ao56 t516.length co56 : Value).ownBlock ∧ some k_ ≠ (.slice (some ad533) y527.length co30 : Value).ownBlock ∧ some k_ ≠ (.slice (some ad556) t544.length co70 : Value).ownBlock ∧ some k_ ≠ (u18 : Value).ownBlock)) (by (with_reducible repeat (first | apply Kd.V_alloc | apply Kd.V_drewN | apply Kd.V_drew)); exact Kd.V_mono HL559_0.out (fun _ hk => ⟨⟨hk.1.1, ⟨hk.1.2.1, ⟨hk.2, ⟨hk.1.2.2.1, hk.1.2.2.2.1⟩⟩⟩⟩, hk.1.2.2.2.2⟩)) hg hat)
                           have n7_ := Aside0.mk (hb)
                           have n8_ := Aside0.mk (ho)
                           clear HO_6
                           clear HO_7
                           clear HO_10
                           clear HO_15
                           clear HO_18
                           clear HL558_0
                           clear HL559_0
                           clear HB
                           clear HO_20
                           have HO_6 := n0_
                           have HO_7 := n1_
                           have HO_10 := n2_
                           have HO_15 := n3_
                           have HO_18 := n4_
                           have HL558_0 := n5_
                           have HL559_0 := n6_
                           have HB := n7_
                           have HO564 := n8_
                           clear n0_ n1_ n2_ n3_ n4_ n5_ n6_ n7_ n8_
                           clear ho hb hg hat
                           refine hK.out _ _ ?_
                           clear hK K
                           refine norm_ (a' := ?_) ?_ ?_
                           rotate_left
                           ·show Act.put _ (some 168) _ = _
                            simp only [Act.put, List.setIfInBounds_toArray, List.set_cons_zero, List.set_cons_succ, i64_w, i32_w]
                            rfl
                           refine pure_ (i := 13) (N := some 20) (v := ?_) (a' := ?_) #[true, true, true, true, true, true, true, true, true, true, true, true, true, true] rfl rfl (any_of HT_.out (by kernel_rfl)) (fun _ _ _ h => h) (Or.inl ⟨by rfl, ?_⟩) ?_ ?_
                           rotate_left
                           ·intro w'
                            go_simp
                            with_reducible rfl
                           rotate_left
                           ·simp only [Act.put, List.setIfInBounds_toArray, List.set_cons_zero, List.set_cons_succ, i64_w, i32_w]
                            rfl
                           refine done_ (done_of HT_.out (by kernel_rfl)) ?_
                           try go_wp2
                           go_roundg k5
                           case measure => have := HJ9.out; have := HK2.out; have := HK3.out; have := HK4.out; have := HK5.out; omega
                           case rel => exact ⟨(y562), (wrap64 (x21_5 + 1)), (by first | rfl | (simp; done) | (simp [*]; done)), H', ⟨by have := HJ9.out; have := HK2.out; have := HK3.out; have := HK4.out; have := HK5.out; omega⟩, ⟨by (with_reducible repeat (first | apply Kd.N_alloc | apply Kd.N_drewN | apply Kd.N_drew)); exact Kd.N_mono HO_6.out (fun _ hk => ⟨hk.1.1, ⟨hk.1.2.1, ⟨hk.1.2.2.1, ⟨hk.1.2.2.2, hk.2⟩⟩⟩⟩)⟩, ⟨by (with_reducible repeat (first | apply Kd.R_alloc | apply Kd.R_drewN | apply Kd.R_drew)); exact Kd.R_mono HO_7.out (fun _ hk => ⟨hk.1.1, ⟨hk.1.2, hk.2⟩⟩)⟩, ⟨by (with_reducible repeat (first | apply Kd.N_alloc | apply Kd.N_drewN | apply Kd.N_drew)); exact Kd.N_mono HO_10.out (fun _ hk => ⟨hk.1.1, ⟨hk.1.2.1, ⟨hk.1.2.2.1, ⟨hk.1.2.2.2, hk.2⟩⟩⟩⟩)⟩, ⟨by (with_reducible repeat (first | apply Kd.R_alloc | apply Kd.R_drewN | apply Kd.R_drew)); exact Kd.R_mono HO_15.out (fun _ hk => ⟨hk.1.1, ⟨hk.1.2, hk.2⟩⟩)⟩, ⟨by (with_reducible repeat (first | apply Kd.R_alloc | apply Kd.R_drewN | apply Kd.R_drew)); exact Kd.R_mono HO_18.out (fun _ hk => ⟨hk.1.1, ⟨hk.1.2, hk.2⟩⟩)⟩, ⟨by (with_reducible repeat (first | apply Kd.R_alloc | apply Kd.R_drewN | apply Kd.R_drew)); exact HO564.out⟩, ⟨by repeat (first | (with_reducible first | exact HB.out | apply below_alloc | apply pw_below_drewN | apply below_drew1) | exact HB.out)⟩⟩
                          ·rw [if_neg c69] at H
                           exact absurd H (by simp)
                         ·rw [if_neg c68] at H
                          exact absurd H (by simp)
                        ·rw [if_neg c67] at H
                         exact absurd H (by simp)
                      ·rw [if_neg c63] at H
                       exact absurd H (by simp)
                     ·rw [if_neg c62] at H
                      exact absurd H (by simp)
                   ·rw [if_neg c58] at H
                    exact absurd H (by simp)
                  ·rw [if_neg c57] at H
                   have c57b0 : decide (x21_5 < (t544.length : Int)) = false := decide_eq_false c57
                   clear c57
                   have HC74 := Aside0.mk H
                   clear H
                   obtain ⟨Ao75, co75, eo75⟩ := Kd.R_slice HO_15.out
                   subst eo75
                   go_upto_region 32 with (fail)
                   go_cut [176] (fun v176 wc => ∃ (kq : Nat) (x176_73 : Bool), v176 = .bool x176_73 ∧ Aside0 (worldmintlaw28_ClearGroups.j5 kq t509 t513 t516 t517 y527 x11_2 x12_2 t545 x176_73 = some r) ∧ Aside0 (kq ≤ k5) ∧ Aside0 (Kd.N k45 45 wc w.heap.size (fun k_ => some k_ ≠ ((.slice Ao56 t516.length co56) : Value).ownBlock ∧ some k_ ≠ ((.slice (some ad533) y527.length co30) : Value).ownBlock) (.slice Ao14 t513.length co14) t513) ∧ Aside0 (Kd.R (Kd.int .i64) 3 wc w.heap.size (fun _ => True) (.slice Ao56 t516.length co56) t516) ∧ Aside0 (Kd.N (Kd.slice 3 (Kd.int .i64)) 22 wc w.heap.size (fun k_ => some k_ ≠ ((.slice Ao14 t513.length co14) : Value).ownBlock ∧ some k_ ≠ ((.slice Ao56 t516.length co56) : Value).ownBlock) (.slice (some ad533) y527.length co30) y527) ∧ Aside0 (Below w.heap.size w wc))
                   case first =>
                    have H := HC74.out
                    clear HC74
                    by_cases c76 : t546 = 0
                    ·rw [if_pos c76] at H
                     have c76b0 : (t546 == 0) = true := beq_iff_eq.mpr c76
                     have c76b1 : (t546 != 0) = false := bne_eq_false_iff_eq.mpr c76
                     clear c76
                     (first | rw [c76b0] | (simp only [i64_w, i32_w]; rw [c76b0]) | skip)
                     replace H := Option.bind_eq_some_iff.mp H
                     obtain ⟨t565, A770, H⟩ := H
                     replace H : (worldmintlaw28_ClearGroups.j5 k5 t509 t513 t516 t517 y527 x11_2 x12_2 t545 (!t565)) = some r := H
                     have A77 := Aside0.mk A770
                     clear A770
                     have H' := Aside0.mk H
                     clear H
                     obtain ⟨Ao78, co78, eo78⟩ := Kd.R_slice HO_20.out
                     subst eo78
                     obtain ⟨Ao79, co79, eo79⟩ := Kd.R_slice HO_18.out
                     subst eo79
                     go_wp2_with (first | (go_at_call 17; (with_reducible refine (worldmintref01_SameInts.calls k5 _ _ x20_5 _ _ x18_4 t565 _ ?side1 ?side2 ?side3 ?side4 A77.out).mono ?_); (case side1 => repeat (first | exact (Kd.R_reads' HO_20.out).2.2 | (with_reducible refine Kd.C_alloc ?_ _) | (with_reducible refine Kd.C_drewN ?_ _) | (with_reducible refine Kd.C_drew ?_))); (case side2 => exact (Kd.R_reads' HO_20.out).2.1); (case side3 => repeat (first | exact (Kd.R_reads' HO_18.out).2.2 | (with_reducible refine Kd.C_alloc ?_ _) | (with_reducible refine Kd.C_drewN ?_ _) | (with_reducible refine Kd.C_drew ?_))); (case side4 => exact (Kd.R_reads' HO_18.out).2.1); rintro e w' ⟨rfl, ⟨nd, rfl⟩⟩))
                     go_meet
                     case rel => exact ⟨_, (!t565), (by first | rfl | (simp; done) | (simp [*]; done)), H', ⟨by have := HJ9.out; have := HK2.out; have := HK3.out; have := HK4.out; have := HK5.out; first | omega | exact Nat.le_refl _⟩, ⟨by (with_reducible repeat (first | apply Kd.N_alloc | apply Kd.N_drewN | apply Kd.N_drew)); exact Kd.N_mono HO_6.out (fun _ hk => ⟨hk.1, hk.2.1⟩)⟩, ⟨by (with_reducible repeat (first | apply Kd.R_alloc | apply Kd.R_drewN | apply Kd.R_drew)); exact Kd.R_mono HO_7.out (fun _ hk => trivial)⟩, ⟨by (with_reducible repeat (first | apply Kd.N_alloc | apply Kd.N_drewN | apply Kd.N_drew)); exact Kd.N_mono HO_10.out (fun _ hk => ⟨hk.1, hk.2.1⟩)⟩, ⟨by repeat (first | (with_reducible first | exact HB.out | apply below_alloc | apply pw_below_drewN | apply below_drew1) | exact HB.out)⟩⟩
                    ·rw [if_neg c76] at H
                     have c76b0 : (t546 == 0) = false := beq_eq_false_iff_ne.mpr c76
                     have c76b1 : (t546 != 0) = true := bne_iff_ne.mpr c76
                     (first | rw [c76b0] | (simp only [i64_w, i32_w]; rw [c76b0]) | skip)
                     have H' := Aside0.mk H
                     clear H
                     go_wp2
                     go_meet
                     case rel => exact ⟨_, (true), (by first | rfl | (simp; done) | (simp [*]; done)), H', ⟨by have := HJ9.out; have := HK2.out; have := HK3.out; have := HK4.out; have := HK5.out; first | omega | exact Nat.le_refl _⟩, ⟨by (with_reducible repeat (first | apply Kd.N_alloc | apply Kd.N_drewN | apply Kd.N_drew)); exact Kd.N_mono HO_6.out (fun _ hk => ⟨hk.1, hk.2.1⟩)⟩, ⟨by (with_reducible repeat (first | apply Kd.R_alloc | apply Kd.R_drewN | apply Kd.R_drew)); exact Kd.R_mono HO_7.out (fun _ hk => trivial)⟩, ⟨by (with_reducible repeat (first | apply Kd.N_alloc | apply Kd.N_drewN | apply Kd.N_drew)); exact Kd.N_mono HO_10.out (fun _ hk => ⟨hk.1, hk.2.1⟩)⟩, ⟨by repeat (first | (with_reducible first | exact HB.out | apply below_alloc | apply pw_below_drewN | apply below_drew1) | exact HB.out)⟩⟩
                   case rest =>
                    clear HC74
                    try clear p2
                    try clear c5
                    try clear p5
                    try clear q5
                    try clear hx5
                    try clear c6
                    try clear p6
                    try clear c7
                    try clear c55
                    try clear p55
                    try clear q55
                    try clear hx55
                    try clear p56
                    try clear q56
                    try clear hx56
                    try clear c57
                    try clear c57b0
                    try clear c58
                    try clear c62
                    try clear c63
                    try clear c64
                    try clear c64b0
                    try clear p64
                    try clear c67
                    try clear c67b0
                    try clear c68
                    try clear c68b0
                    try clear c69
                    try clear c76
                    try clear c76b0
                    try clear c76b1
                    try clear hx556_0
                    try clear hx557_0
                    try clear hx558_0
                    try clear hx559_0
                    try clear hx560_0
                    try clear hx561_0
                    try clear p556
                    try clear p557
                    try clear p558
                    try clear p559
                    try clear p560
                    try clear p561
                    try clear q556
                    try clear q557
                    try clear q558
                    try clear q559
                    try clear q560
                    try clear q561
                    obtain ⟨kq, x176_73, rfl, HA, HJ73, HO_6, HO_7, HO_10, HB⟩ := hcut
                    cases kq with
                    | zero => exact absurd HA.out (by simp [worldmintlaw28_ClearGroups.j5])
                    | succ kj73 =>
                     have H := HA.out
                     clear HA
                     simp only [worldmintlaw28_ClearGroups.j5] at H
                     by_cases c80 : x176_73 = true
                     ·subst c80
                      have H1 : (some false) = some r := by rw [if_pos rfl] at H; exact H
                      clear H
                      have H := H1
                      clear H1
                      obtain rfl := Option.some.inj H
                      go_wp2
                      go_ret
                      exact ⟨by first | rfl | (simp [errW_none, errW_some] <;> rfl) | (simp [*, errW_none, errW_some] <;> rfl), by repeat (first | (with_reducible first | exact HB.out | apply below_alloc | apply pw_below_drewN | apply below_drew1) | exact HB.out)⟩
                     ·replace c80 := Bool.eq_false_iff.mpr c80
                      subst c80
                      have H1 : (if (wrap64 (x12_2 + 1)) < (y527.length : Int) then (worldmintlaw28_ClearGroups.l0 kj73 t509 t513 t516 t517 y527 (wrap64 (x11_2 + t545)) (wrap64 (x12_2 + 1))) else (if t545 = t517 then (worldmintlaw28_ClearGroups.l0 kj73 t509 t513 t516 t517 y527 x11_2 (wrap64 (x12_2 + 1))) else (some false))) = some r := by rw [if_neg (show ¬ (false = true) by decide)] at H; exact H
                      clear H
                      have H := H1
                      clear H1
                      by_cases c81 : (wrap64 (x12_2 + 1)) < (y527.length : Int)
                      ·rw [if_pos c81] at H
                       have c81b0 : decide ((wrap64 (x12_2 + 1)) < (y527.length : Int)) = true := decide_eq_true c81
                       clear c81
                       have H' := Aside0.mk H
                       clear H
                       go_wp2
                       go_roundg kj73
                       case measure => have := HJ9.out; have := HK2.out; have := HK3.out; have := HK4.out; have := HK5.out; have := HJ73.out; omega
                       case rel => exact ⟨(wrap64 (x11_2 + t545)), (wrap64 (x12_2 + 1)), (by first | rfl | (simp; done) | (simp [*]; done)), (by first | rfl | (simp; done) | (simp [*]; done)), H', ⟨by have := HJ9.out; have := HK2.out; have := HK3.out; have := HK4.out; have := HK5.out; have := HJ73.out; omega⟩, ⟨by (with_reducible repeat (first | apply Kd.N_alloc | apply Kd.N_drewN | apply Kd.N_drew)); exact HO_6.out⟩, ⟨by (with_reducible repeat (first | apply Kd.R_alloc | apply Kd.R_drewN | apply Kd.R_drew)); exact HO_7.out⟩, ⟨by (with_reducible repeat (first | apply Kd.N_alloc | apply Kd.N_drewN | apply Kd.N_drew)); exact HO_10.out⟩, ⟨by repeat (first | (with_reducible first | exact HB.out | apply below_alloc | apply pw_below_drewN | apply below_drew1) | exact HB.out)⟩⟩
                      ·rw [if_neg c81] at H
                       have c81b0 : decide ((wrap64 (x12_2 + 1)) < (y527.length : Int)) = false := decide_eq_false c81
                       clear c81
                       by_cases c82 : t545 = t517
                       ·rw [if_pos c82] at H
                        have c82b0 : (t545 == t517) = true := beq_iff_eq.mpr c82
                        have c82b1 : (t545 != t517) = false := bne_eq_false_iff_eq.mpr c82
                        clear c82
                        have H' := Aside0.mk H
                        clear H
                        go_wp2
                        go_roundg kj73
                        case measure => have := HJ9.out; have := HK2.out; have := HK3.out; have := HK4.out; have := HK5.out; have := HJ73.out; omega
                        case rel => exact ⟨(x11_2), (wrap64 (x12_2 + 1)), (by first | rfl | (simp; done) | (simp [*]; done)), (by first | rfl | (simp; done) | (simp [*]; done)), H', ⟨by have := HJ9.out; have := HK2.out; have := HK3.out; have := HK4.out; have := HK5.out; have := HJ73.out; omega⟩, ⟨by (with_reducible repeat (first | apply Kd.N_alloc | apply Kd.N_drewN | apply Kd.N_drew)); exact HO_6.out⟩, ⟨by (with_reducible repeat (first | apply Kd.R_alloc | apply Kd.R_drewN | apply Kd.R_drew)); exact HO_7.out⟩, ⟨by (with_reducible repeat (first | apply Kd.N_alloc | apply Kd.N_drewN | apply Kd.N_drew)); exact HO_10.out⟩, ⟨by repeat (first | (with_reducible first | exact HB.out | apply below_alloc | apply pw_below_drewN | apply below_drew1) | exact HB.out)⟩⟩
                       ·rw [if_neg c82] at H
                        have c82b0 : (t545 == t517) = false := beq_eq_false_iff_ne.mpr c82
                        have c82b1 : (t545 != t517) = true := bne_iff_ne.mpr c82
                        obtain rfl := Option.some.inj H
                        go_wp2
                        go_ret
                        exact ⟨by first | rfl | (simp [errW_none, errW_some] <;> rfl) | (simp [*, errW_none, errW_some] <;> rfl), by repeat (first | (with_reducible first | exact HB.out | apply below_alloc | apply pw_below_drewN | apply below_drew1) | exact HB.out)⟩
           ·rw [if_neg c32] at H
            exact absurd H (by simp)
          ·rw [if_neg c31] at H
           exact absurd H (by simp)
       ·rw [if_neg c29] at H
        have c29b0 : decide (x12_2 < (y527.length : Int)) = false := decide_eq_false c29
        clear c29
        by_cases c83 : x11_2 = t517
        ·rw [if_pos c83] at H
         have c83b0 : (x11_2 == t517) = true := beq_iff_eq.mpr c83
         have c83b1 : (x11_2 != t517) = false := bne_eq_false_iff_eq.mpr c83
         clear c83
         replace H := Option.bind_eq_some_iff.mp H
         obtain ⟨t532, A840, H⟩ := H
         replace H : (some t532) = some r := H
         have A84 := Aside0.mk A840
         clear A840
         obtain rfl := Option.some.inj H
         obtain ⟨Ao85, co85, eo85⟩ := Kd.N_slice HO_10.out
         subst eo85
         go_wp2_with (first | (go_at_call 18; (with_reducible refine (worldmintlaw28_lives.calls k2  t532 _ A84.out).mono ?_); rintro e w86 ⟨rfl, hb⟩; have n0_ := Aside0.mk (Kd.N_below (by (with_reducible repeat (first | apply Kd.N_alloc | apply Kd.N_drewN | apply Kd.N_drew)); exact HO_6.out) hb); have n1_ := Aside0.mk (Kd.R_below (by (with_reducible repeat (first | apply Kd.R_alloc | apply Kd.R_drewN | apply Kd.R_drew)); exact HO_7.out) hb); have n2_ := Aside0.mk (Kd.N_below (by (with_reducible repeat (first | apply Kd.N_alloc | apply Kd.N_drewN | apply Kd.N_drew)); exact HO_10.out) hb); have n3_ := Aside0.mk (below_step (by repeat (first | (with_reducible first | exact HB.out | apply below_alloc | apply pw_below_drewN | apply below_drew1) | exact HB.out)) hb); clear HO_6; clear HO_7; clear HO_10; clear HB; have HO_6 := n0_; have HO_7 := n1_; have HO_10 := n2_; have HB := n3_; clear n0_ n1_ n2_ n3_; (try clear hb); (try clear hb2); (try clear hk); (try clear hi)))
         go_ret
         exact ⟨by first | rfl | (simp [errW_none, errW_some] <;> rfl) | (simp [*, errW_none, errW_some] <;> rfl), by repeat (first | (with_reducible first | exact HB.out | apply below_alloc | apply pw_below_drewN | apply below_drew1) | exact HB.out)⟩
        ·rw [if_neg c83] at H
         have c83b0 : (x11_2 == t517) = false := beq_eq_false_iff_ne.mpr c83
         have c83b1 : (x11_2 != t517) = true := bne_iff_ne.mpr c83
         obtain rfl := Option.some.inj H
         obtain ⟨Ao87, co87, eo87⟩ := Kd.N_slice HO_10.out
         subst eo87
         go_wp2
         go_ret
         exact ⟨by first | rfl | (simp [errW_none, errW_some] <;> rfl) | (simp [*, errW_none, errW_some] <;> rfl), by repeat (first | (with_reducible first | exact HB.out | apply below_alloc | apply pw_below_drewN | apply below_drew1) | exact HB.out)⟩
 ·rw [if_neg c9] at H
  exact absurd H (by simp)

/-- THE ONE PURE STATEMENT of worldmintlaw28_ClearGroups: yours. -/
def worldmintlaw28_ClearGroups.Pure : Prop := ∀ (a0 : Int) (l1 : List Int), (Lit.int .i64 a0).wf = true → l1.length ≤ maxLen → l1.length * 8 ≤ 140737488351232 → (∀ x ∈ l1, (Lit.int .i64 x).wf = true) → ∃ k, worldmintlaw28_ClearGroups.f k a0 l1 = some true
theorem worldmintlaw28_ClearGroups.walk (P : worldmintlaw28_ClearGroups.Pure) (a0 : Int) (a1 : Option Addr) (len1 cap1 : Nat) (z1 : List Int) (w : World) (w0 : (Lit.int .i64 a0).wf = true) (w1 : (a1 = none ∧ len1 = 0 ∧ cap1 = 0 ∧ z1 = []) ∨ ∃ x, a1 = some x ∧ len1 ≤ cap1 ∧ cap1 ≤ maxLen ∧ z1.length = cap1 ∧ (∀ i, i < z1.length → w.cell? (x.add i) = some (.int .i64 (z1.getD i 0))) ∧ ∀ n ∈ z1, (Lit.int .i64 n).wf = true) (y1 : len1 * 8 ≤ 140737488351232) :
  Calls Try.prog 9 #[.int .i64 a0, .slice a1 len1 cap1] w fun e w' => e = .returned (.bool true) ∧ Below w.heap.size w w' := by
 obtain ⟨l1, rfl, hr1, hm1, hw1, hc1⟩ := ReadsInt.ofRowC w1
 obtain ⟨k, h⟩ := P a0 l1 w0 hm1 y1 hw1
 refine (worldmintlaw28_ClearGroups.calls k a0 _ _ l1 true w (Kd.C_of_reads (d := (0 : Int)) (h1 := fun _ => rfl) hr1) hc1 h).mono ?_
 rintro e w' ⟨rfl, hd⟩
 exact ⟨rfl, hd⟩

end Go.Proofs.Ytecbfpcidoilmaa.H
