/- Texts of this claim, one behind the other. -/
import Derived.Test.YtdbpdkmnnlippaaMBidsApartb
import Derived.Test.YtdbpdkmnnlippaaMBidsApartd
import Derived.Test.YtdbpdkmnnlippaaMBidsApartc

/- Written by a program of this session over the kit's printer: what the functions named below compute, and that the machine's calls compute it. Not trusted: Lean checks it. -/
namespace Go.Proofs.Ytdbpdkmnnlippaa.H
open Go.RowKit Go.Proofs.YtdbpdkmnnlippaaW.PrintWords Go.Proofs.YtdbpdkmnnlippaaW.PrintLast Go.Proofs.YtdbpdkmnnlippaaW.PrintMore
attribute [local go_sem] max2_int min2_int max_two min_two max_three min_three max_four min_four   -- for this text's walks alone
set_option linter.unusedVariables false
set_option linter.unusedSimpArgs false

/-! ### worldmintlaw27_BidsApart: function 8 -/
mutual
def worldmintlaw27_BidsApart.l0 : Nat → List (S38) → List (List Int) → List Int → Int → Bool → Int → Option (Bool)
 | 0, _, _, _, _, _, _ => none
 | k + 1, x7, x8, x9, x10, x11, x12 => if x12 < (x8.length : Int) then (if 0 ≤ x12 then ((worldmintlaw27_indices.f k (rd_L1 x8 x12) (x7.length : Int)).bind fun t448 => (if t448 = true then (worldmintlaw27_BidsApart.l0 k x7 x8 x9 x10 x11 (wrap64 (x12 + 1))) else (some false))) else (none)) else (worldmintlaw27_BidsApart.l1 k x7 x8 x9 x10 x11 0)
def worldmintlaw27_BidsApart.l1 : Nat → List (S38) → List (List Int) → List Int → Int → Bool → Int → Option (Bool)
 | 0, _, _, _, _, _, _ => none
 | k + 1, x7, x8, x9, x10, x11, x13 => if x13 < (x8.length : Int) then (if 0 ≤ x13 then (worldmintlaw27_BidsApart.l2 k x7 x8 x9 (wrap64 (x10 + ((rd_L1 x8 x13).length : Int))) x11 x13 ([] : List Int) 0) else (none)) else (worldmintlaw27_BidsApart.l5 k x7 x8 x9 x10 x11 0)
def worldmintlaw27_BidsApart.l2 : Nat → List (S38) → List (List Int) → List Int → Int → Bool → Int → List Int → Int → Option (Bool)
 | 0, _, _, _, _, _, _, _, _ => none
 | k + 1, x7, x8, x9, x10, x11, x13, x14, x15 => if x15 < (x9.length : Int) then (if 0 ≤ x13 then (if x13 < (x8.length : Int) then (if 0 ≤ x15 then ((worldmintref01_Has.f k (rd_L1 x8 x13) (rd x9 x15)).bind fun t452 => (if t452 = true then (if x14.length < 17592186044416 then (worldmintlaw27_BidsApart.l2 k x7 x8 x9 x10 x11 x13 (x14 ++ [rd x9 x15]) (wrap64 (x15 + 1))) else (none)) else (worldmintlaw27_BidsApart.l2 k x7 x8 x9 x10 x11 x13 x14 (wrap64 (x15 + 1))))) else (none)) else (none)) else (none)) else (if x11 = true then ((bids_Feasible.f x7 x14).bind fun t457 => (worldmintlaw27_BidsApart.j3 k x7 x8 x9 x10 t457 x13)) else (worldmintlaw27_BidsApart.j3 k x7 x8 x9 x10 false x13))
def worldmintlaw27_BidsApart.j3 : Nat → List (S38) → List (List Int) → List Int → Int → Bool → Int → Option (Bool)
 | 0, _, _, _, _, _, _ => none
 | k + 1, x7, x8, x9, x10, x11, x13 => worldmintlaw27_BidsApart.l3 k x7 x8 x9 x10 x11 x13 0
def worldmintlaw27_BidsApart.l3 : Nat → List (S38) → List (List Int) → List Int → Int → Bool → Int → Int → Option (Bool)
 | 0, _, _, _, _, _, _, _ => none
 | k + 1, x7, x8, x9, x10, x11, x13, x16 => if x16 < (x8.length : Int) then (if x16 = x13 then (worldmintlaw27_BidsApart.l3 k x7 x8 x9 x10 x11 x13 (wrap64 (x16 + 1))) else (if 0 ≤ x13 then (if x13 < (x8.length : Int) then (if 0 ≤ x16 then ((worldmintlaw27_touch.f k x7 (rd_L1 x8 x13) (rd_L1 x8 x16)).bind fun t460 => (if t460 = true then (some false) else (worldmintlaw27_BidsApart.l3 k x7 x8 x9 x10 x11 x13 (wrap64 (x16 + 1))))) else (none)) else (none)) else (none))) else (worldmintlaw27_BidsApart.l4 k x7 x8 x9 x10 x11 x13 1)
def worldmintlaw27_BidsApart.l4 : Nat → List (S38) → List (List Int) → List Int → Int → Bool → Int → Int → Option (Bool)
 | 0, _, _, _, _, _, _, _ => none
 | k + 1, x7, x8, x9, x10, x11, x13, x17 => if 0 ≤ x13 then (if x13 < (x8.length : Int) then (if x17 < ((rd_L1 x8 x13).length : Int) then (if 0 ≤ x17 then (if x17 ≤ ((rd_L1 x8 x13).length : Int) then ((worldmintlaw27_touch.f k x7 ((rd_L1 x8 x13).take (x17 : Int).toNat) ((rd_L1 x8 x13).drop (x17 : Int).toNat)).bind fun t474 => (if t474 = true then (worldmintlaw27_BidsApart.l4 k x7 x8 x9 x10 x11 x13 (wrap64 (x17 + 1))) else (some false))) else (none)) else (none)) else (worldmintlaw27_BidsApart.l1 k x7 x8 x9 x10 x11 (wrap64 (x13 + 1)))) else (none)) else (none)
def worldmintlaw27_BidsApart.l5 : Nat → List (S38) → List (List Int) → List Int → Int → Bool → Int → Option (Bool)
 | 0, _, _, _, _, _, _ => none
 | k + 1, x7, x8, x9, x10, x11, x18 => if x18 < (x7.length : Int) then (worldmintlaw27_BidsApart.l6 k x7 x8 x9 x10 x11 x18 0 0) else (if x10 = (x7.length : Int) then ((bids_Feasible.f x7 x9).bind fun t475 => (if (x11 == t475) = true then ((worldmintlaw27_lives.f k).bind fun t476 => (some t476)) else (some false))) else (some false))
def worldmintlaw27_BidsApart.l6 : Nat → List (S38) → List (List Int) → List Int → Int → Bool → Int → Int → Int → Option (Bool)
 | 0, _, _, _, _, _, _, _, _ => none
 | k + 1, x7, x8, x9, x10, x11, x18, x19, x20 => if x20 < (x8.length : Int) then (if 0 ≤ x20 then ((worldmintref01_Has.f k (rd_L1 x8 x20) x18).bind fun t478 => (if t478 = true then (worldmintlaw27_BidsApart.l6 k x7 x8 x9 x10 x11 x18 (wrap64 (x19 + 1)) (wrap64 (x20 + 1))) else (worldmintlaw27_BidsApart.l6 k x7 x8 x9 x10 x11 x18 x19 (wrap64 (x20 + 1))))) else (none)) else (if x19 = 1 then (worldmintlaw27_BidsApart.l5 k x7 x8 x9 x10 x11 (wrap64 (x18 + 1))) else (some false))
end
def worldmintlaw27_BidsApart.f (k : Nat) (a0 : Int) (l1 : List Int) (a2 : Int) : Option (Bool) := (worldmintref27_Lots.f a0).bind fun t432 => ((worldmintref27_Bids.f k t432 l1 10).bind fun t433 => ((worldmintlaw27_given.f k t433).bind fun t436 => ((bids_Parts.f t436).bind fun t439 => ((worldmintref01_Around.f a2 1024).bind fun t442 => ((worldmintref01_Around.f (wrap64 (Int.tdiv a2 1024)) 1024).bind fun t443 => ((worldmintref27_Choice.f k (Go.bits .and .i64 t442 t443) (t436.length : Int)).bind fun t444 => (worldmintlaw27_BidsApart.l0 k t436 t439 t444 0 true 0)))))))
def worldmintlaw27_BidsApart.T19 : Bool × List (List Nat × List Nat) := (true, [([], []), ([], []), ([0, 1], [0, 1]), ([2], [2]), ([], []), ([], []), ([4, 5], [4, 5]), ([6], [6]), ([3, 7], [3, 7])])
def worldmintlaw27_BidsApart.B19 : List Nat := [0, 0, 3, 7, 0, 0, 48, 112, 255]
theorem worldmintlaw27_BidsApart.tab19 : rtab .any (opsOf Try.f8 19) = worldmintlaw27_BidsApart.T19 := by kernel_rfl
theorem worldmintlaw27_BidsApart.bits19 : waitsOk worldmintlaw27_BidsApart.T19.2 worldmintlaw27_BidsApart.B19 = true := by kernel_rfl
def worldmintlaw27_BidsApart.T25 : Bool × List (List Nat × List Nat) := (true, [([], []), ([], []), ([0, 1], [0, 1]), ([2], [2]), ([3], [3]), ([3], [3]), ([3], [3]), ([5, 6, 3], [3, 5, 6]), ([7, 3], [3, 7]), ([3], [3]), ([3], [3]), ([9, 10, 3], [3, 9, 10]), ([11, 3], [3, 11]), ([4, 8, 12, 3, 3], [3, 4, 8, 12]), ([3, 13], [3, 13])])
def worldmintlaw27_BidsApart.B25 : List Nat := [0, 0, 3, 7, 15, 15, 15, 111, 239, 15, 15, 1551, 3599, 8191, 16383]
theorem worldmintlaw27_BidsApart.tab25 : rtab .any (opsOf Try.f8 25) = worldmintlaw27_BidsApart.T25 := by kernel_rfl
theorem worldmintlaw27_BidsApart.bits25 : waitsOk worldmintlaw27_BidsApart.T25.2 worldmintlaw27_BidsApart.B25 = true := by kernel_rfl
def worldmintlaw27_BidsApart.T30 : Bool × List (List Nat × List Nat) := (true, [([], []), ([], []), ([], []), ([1, 2], [1, 2]), ([3], [3]), ([], []), ([4, 5], [4, 5]), ([], []), ([], []), ([7, 8], [7, 8]), ([9], [9]), ([], []), ([10, 11], [10, 11]), ([0, 6, 12], [0, 6, 12]), ([13], [13])])
def worldmintlaw27_BidsApart.B30 : List Nat := [0, 0, 0, 6, 14, 0, 62, 0, 0, 384, 896, 0, 3968, 8191, 16383]
theorem worldmintlaw27_BidsApart.tab30 : rtab .any (opsOf Try.f8 30) = worldmintlaw27_BidsApart.T30 := by kernel_rfl
theorem worldmintlaw27_BidsApart.bits30 : waitsOk worldmintlaw27_BidsApart.T30.2 worldmintlaw27_BidsApart.B30 = true := by kernel_rfl
set_option maxHeartbeats 8000000 in
set_option maxRecDepth 100000 in
theorem worldmintlaw27_BidsApart.calls (k : Nat) (a0 : Int) (A1 : Option Addr) (c1 : Nat) (l1 : List Int) (a2 : Int) (r : Bool) (w : World) (hr1 : Kd.C (Kd.int .i64) w A1 l1.length l1) (hc1 : l1.length ≤ c1) (h : worldmintlaw27_BidsApart.f k a0 l1 a2 = some r) :
  Calls Try.prog 8 #[.int .i64 a0, .slice A1 l1.length c1, .int .i64 a2] w fun e w' => e = .returned (.bool r) ∧ Below w.heap.size w w' := by
 have HR1 := Aside0.mk hr1
 have HC1 := Aside0.mk hc1
 clear hr1 hc1
 have HB := Aside0.mk (Below.refl w.heap.size w)
 have H : ((worldmintref27_Lots.f a0).bind fun t432 => ((worldmintref27_Bids.f k t432 l1 10).bind fun t433 => ((worldmintlaw27_given.f k t433).bind fun t436 => ((bids_Parts.f t436).bind fun t439 => ((worldmintref01_Around.f a2 1024).bind fun t442 => ((worldmintref01_Around.f (wrap64 (Int.tdiv a2 1024)) 1024).bind fun t443 => ((worldmintref27_Choice.f k (Go.bits .and .i64 t442 t443) (t436.length : Int)).bind fun t444 => (worldmintlaw27_BidsApart.l0 k t436 t439 t444 0 true 0)))))))) = some r := h
 clear h
 replace H := Option.bind_eq_some_iff.mp H
 obtain ⟨t432, A40, H⟩ := H
 replace H : ((worldmintref27_Bids.f k t432 l1 10).bind fun t433 => ((worldmintlaw27_given.f k t433).bind fun t436 => ((bids_Parts.f t436).bind fun t439 => ((worldmintref01_Around.f a2 1024).bind fun t442 => ((worldmintref01_Around.f (wrap64 (Int.tdiv a2 1024)) 1024).bind fun t443 => ((worldmintref27_Choice.f k (Go.bits .and .i64 t442 t443) (t436.length : Int)).bind fun t444 => (worldmintlaw27_BidsApart.l0 k t436 t439 t444 0 true 0))))))) = some r := H
 have A4 := Aside0.mk A40
 clear A40
 replace H := Option.bind_eq_some_iff.mp H
 obtain ⟨t433, A50, H⟩ := H
 replace H : ((worldmintlaw27_given.f k t433).bind fun t436 => ((bids_Parts.f t436).bind fun t439 => ((worldmintref01_Around.f a2 1024).bind fun t442 => ((worldmintref01_Around.f (wrap64 (Int.tdiv a2 1024)) 1024).bind fun t443 => ((worldmintref27_Choice.f k (Go.bits .and .i64 t442 t443) (t436.length : Int)).bind fun t444 => (worldmintlaw27_BidsApart.l0 k t436 t439 t444 0 true 0)))))) = some r := H
 have A5 := Aside0.mk A50
 clear A50
 replace H := Option.bind_eq_some_iff.mp H
 obtain ⟨t436, A60, H⟩ := H
 replace H : ((bids_Parts.f t436).bind fun t439 => ((worldmintref01_Around.f a2 1024).bind fun t442 => ((worldmintref01_Around.f (wrap64 (Int.tdiv a2 1024)) 1024).bind fun t443 => ((worldmintref27_Choice.f k (Go.bits .and .i64 t442 t443) (t436.length : Int)).bind fun t444 => (worldmintlaw27_BidsApart.l0 k t436 t439 t444 0 true 0))))) = some r := H
 have A6 := Aside0.mk A60
 clear A60
 replace H := Option.bind_eq_some_iff.mp H
 obtain ⟨t439, A70, H⟩ := H
 replace H : ((worldmintref01_Around.f a2 1024).bind fun t442 => ((worldmintref01_Around.f (wrap64 (Int.tdiv a2 1024)) 1024).bind fun t443 => ((worldmintref27_Choice.f k (Go.bits .and .i64 t442 t443) (t436.length : Int)).bind fun t444 => (worldmintlaw27_BidsApart.l0 k t436 t439 t444 0 true 0)))) = some r := H
 have A7 := Aside0.mk A70
 clear A70
 replace H := Option.bind_eq_some_iff.mp H
 obtain ⟨t442, A80, H⟩ := H
 replace H : ((worldmintref01_Around.f (wrap64 (Int.tdiv a2 1024)) 1024).bind fun t443 => ((worldmintref27_Choice.f k (Go.bits .and .i64 t442 t443) (t436.length : Int)).bind fun t444 => (worldmintlaw27_BidsApart.l0 k t436 t439 t444 0 true 0))) = some r := H
 have A8 := Aside0.mk A80
 clear A80
 replace H := Option.bind_eq_some_iff.mp H
 obtain ⟨t443, A90, H⟩ := H
 replace H : ((worldmintref27_Choice.f k (Go.bits .and .i64 t442 t443) (t436.length : Int)).bind fun t444 => (worldmintlaw27_BidsApart.l0 k t436 t439 t444 0 true 0)) = some r := H
 have A9 := Aside0.mk A90
 clear A90
 replace H := Option.bind_eq_some_iff.mp H
 obtain ⟨t444, A100, H⟩ := H
 replace H : (worldmintlaw27_BidsApart.l0 k t436 t439 t444 0 true 0) = some r := H
 have A10 := Aside0.mk A100
 clear A100
 have H' := Aside0.mk H
 clear H
 go_enter Try.func8, Try.ntmps8
 go_wp2_with (first | ((with_reducible refine gate_callee (f := 10) rfl ?_); refine goesL_ (some 22) rfl rfl Try.func10 (by kernel_rfl) rfl #[.int .i64 a0] rfl (by (try simp only [List.map_toArray, List.map_cons, List.map_nil]); first | done | rfl | (simp only [List.length_drop, List.length_take]; rfl)) ?_; (with_reducible refine (worldmintref27_Lots.calls a0 t432 _ A4.out).mono ?_); rintro e w' ⟨rfl, ⟨nd, rfl⟩⟩; refine ⟨_, rfl, ?_⟩) | ((with_reducible refine gate_callee (f := 11) rfl ?_); refine goesL_ (some 24) rfl rfl Try.func11 (by kernel_rfl) rfl #[.int .i64 t432, .slice A1 l1.length c1, .int .i64 10] rfl (by (try simp only [List.map_toArray, List.map_cons, List.map_nil]); first | done | rfl | (simp only [List.length_drop, List.length_take]; rfl)) ?_; (with_reducible refine (worldmintref27_Bids.calls k t432 _ _ l1 10 t433 _ ?side1 ?side2 A5.out).mono ?_); (case side1 => repeat (first | exact HR1.out | (with_reducible refine Kd.C_alloc ?_ _) | (with_reducible refine Kd.C_drewN ?_ _) | (with_reducible refine Kd.C_drew ?_))); (case side2 => exact HC1.out); rintro e w11 ⟨v434, rfl, ho0, hb⟩; refine ⟨_, rfl, ?_⟩; have n0_ := Aside0.mk (Kd.N_lower (Kd.N_mono (ok' := fun k_ => True) (Kd.S_N (Kd.S_bound ho0)) (fun k_ hk_ => trivial)) (below_size (by repeat (first | (with_reducible first | exact HB.out | apply below_alloc | apply pw_below_drewN | apply below_drew1) | exact HB.out)))); have n1_ := Aside0.mk (below_step (by repeat (first | (with_reducible first | exact HB.out | apply below_alloc | apply pw_below_drewN | apply below_drew1) | exact HB.out)) hb); clear HB; have HO435 := n0_; have HB := n1_; clear n0_ n1_; (try clear hb); (try clear hb2); (try clear hk); (try clear hi); (try clear ho0); obtain ⟨Ao12, co12, eo12⟩ := Kd.N_slice HO435.out; subst eo12) | ((with_reducible refine gate_callee (f := 15) rfl ?_); refine goesL_ (some 25) rfl rfl Try.func15 (by kernel_rfl) rfl #[.slice Ao12 t433.length co12] rfl (by (try simp only [List.map_toArray, List.map_cons, List.map_nil]); first | done | rfl | (simp only [List.length_drop, List.length_take]; rfl)) ?_; (with_reducible refine (worldmintlaw27_given.calls k (fun k_ => True) _ _ t433 t436 _ ?side1 A6.out).mono ?_); (case side1 => exact Kd.N_V (HO435.out)); rintro e w13 ⟨v437, rfl, ho0, hb⟩; refine ⟨_, rfl, ?_⟩; have n0_ := Aside0.mk (Kd.N_elder' (by (with_reducible repeat (first | apply Kd.N_alloc | apply Kd.N_drewN | apply Kd.N_drew)); exact HO435.out) (by first | exact Kd.N_base ho0 | exact Kd.N_base (Kd.S_N ho0)) hb); have n1_ := Aside0.mk (Kd.N_lower (Kd.N_mono (ok' := fun k_ => True) ho0 (fun k_ hk_ => trivial)) (below_size (by repeat (first | (with_reducible first | exact HB.out | apply below_alloc | apply pw_below_drewN | apply below_drew1) | exact HB.out)))); have n2_ := Aside0.mk (below_step (by repeat (first | (with_reducible first | exact HB.out | apply below_alloc | apply pw_below_drewN | apply below_drew1) | exact HB.out)) hb); clear HO435; clear HB; have HO435 := n0_; have HO438 := n1_; have HB := n2_; clear n0_ n1_ n2_; (try clear hb); (try clear hb2); (try clear hk); (try clear hi); (try clear ho0); obtain ⟨Ao14, co14, eo14⟩ := Kd.N_slice HO438.out; subst eo14) | ((with_reducible refine gate_callee (f := 29) rfl ?_); refine goesL_ (some 27) rfl rfl Try.func29 (by kernel_rfl) rfl #[.slice Ao14 t436.length co14] rfl (by (try simp only [List.map_toArray, List.map_cons, List.map_nil]); first | done | rfl | (simp only [List.length_drop, List.length_take]; rfl)) ?_; (with_reducible refine (bids_Parts.calls _ _ t436 t439 _ ?side1 ?side2 A7.out).mono ?_); (case side1 => repeat (first | exact (Kd.N_reads' HO438.out).2.2 | (with_reducible refine Kd.C_alloc ?_ _) | (with_reducible refine Kd.C_drewN ?_ _) | (with_reducible refine Kd.C_drew ?_))); (case side2 => exact (Kd.N_reads' HO438.out).2.1); rintro e w15 ⟨v440, rfl, ho0, hb⟩; refine ⟨_, rfl, ?_⟩; have n0_ := Aside0.mk (Kd.N_elder' (by (with_reducible repeat (first | apply Kd.N_alloc | apply Kd.N_drewN | apply Kd.N_drew)); exact HO435.out) (by first | exact Kd.N_base ho0 | exact Kd.N_base (Kd.S_N ho0)) hb); have n1_ := Aside0.mk (Kd.N_elder' (by (with_reducible repeat (first | apply Kd.N_alloc | apply Kd.N_drewN | apply Kd.N_drew)); exact HO438.out) (by first | exact Kd.N_base ho0 | exact Kd.N_base (Kd.S_N ho0)) hb); have n2_ := Aside0.mk (Kd.N_lower (Kd.N_mono (ok' := fun k_ => some k_ ≠ (.slice Ao12 t433.length co12 : Value).ownBlock ∧ some k_ ≠ (.slice Ao14 t436.length co14 : Value).ownBlock) (Kd.S_N (Kd.S_bound ho0)) (fun k_ hk_ => ⟨(Kd.fresh' (Kd.N_lt (by (with_reducible repeat (first | apply Kd.N_alloc | apply Kd.N_drewN | apply Kd.N_drew)); exact HO435.out)) k_ hk_.2.1), (Kd.fresh' (Kd.N_lt (by (with_reducible repeat (first | apply Kd.N_alloc | apply Kd.N_drewN | apply Kd.N_drew)); exact HO438.out)) k_ hk_.2.1)⟩)) (below_size (by repeat (first | (with_reducible first | exact HB.out | apply below_alloc | apply pw_below_drewN | apply below_drew1) | exact HB.out)))); have n3_ := Aside0.mk (below_step (by repeat (first | (with_reducible first | exact HB.out | apply below_alloc | apply pw_below_drewN | apply below_drew1) | exact HB.out)) hb); clear HO435; clear HO438; clear HB; have HO435 := n0_; have HO438 := n1_; have HO441 := n2_; have HB := n3_; clear n0_ n1_ n2_ n3_; (try clear hb); (try clear hb2); (try clear hk); (try clear hi); (try clear ho0)) | ((with_reducible refine gate_callee (f := 13) rfl ?_); refine goesL_ (some 29) rfl rfl Try.func13 (by kernel_rfl) rfl #[.int .i64 a2, .int .i64 1024] rfl (by (try simp only [List.map_toArray, List.map_cons, List.map_nil]); first | done | rfl | (simp only [List.length_drop, List.length_take]; rfl)) ?_; (with_reducible refine (worldmintref01_Around.calls a2 1024 t442 _ A8.out).mono ?_); rintro e w' ⟨rfl, ⟨nd, rfl⟩⟩; refine ⟨_, rfl, ?_⟩) | ((with_reducible refine gate_callee (f := 13) rfl ?_); refine goesL_ (some 32) rfl rfl Try.func13 (by kernel_rfl) rfl #[.int .i64 (wrap64 (Int.tdiv a2 1024)), .int .i64 1024] rfl (by (try simp only [List.map_toArray, List.map_cons, List.map_nil]); first | done | rfl | (simp only [List.length_drop, List.length_take]; rfl)) ?_; (with_reducible refine (worldmintref01_Around.calls (wrap64 (Int.tdiv a2 1024)) 1024 t443 _ A9.out).mono ?_); rintro e w' ⟨rfl, ⟨nd, rfl⟩⟩; refine ⟨_, rfl, ?_⟩) | ((with_reducible refine gate_callee (f := 20) rfl ?_); refine goesL_ (some 36) rfl rfl Try.func20 (by kernel_rfl) rfl #[.int .i64 (Go.bits .and .i64 t442 t443), .int .i64 (t436.length : Int)] rfl (by (try simp only [List.map_toArray, List.map_cons, List.map_nil]); first | done | rfl | (simp only [List.length_drop, List.length_take]; rfl)) ?_; (with_reducible refine (worldmintref27_Choice.calls k (Go.bits .and .i64 t442 t443) (t436.length : Int) t444 _ A10.out).mono ?_); rintro e w16 ⟨v445, rfl, ho0, hb⟩; refine ⟨_, rfl, ?_⟩; have n0_ := Aside0.mk (Kd.N_elder' (by (with_reducible repeat (first | apply Kd.N_alloc | apply Kd.N_drewN | apply Kd.N_drew)); exact HO435.out) (Kd.R_base ho0) hb); have n1_ := Aside0.mk (Kd.N_elder' (by (with_reducible repeat (first | apply Kd.N_alloc | apply Kd.N_drewN | apply Kd.N_drew)); exact HO438.out) (Kd.R_base ho0) hb); have n2_ := Aside0.mk (Kd.N_elder' (by (with_reducible repeat (first | apply Kd.N_alloc | apply Kd.N_drewN | apply Kd.N_drew)); exact HO441.out) (Kd.R_base ho0) hb); have n3_ := Aside0.mk (Kd.R_lower ho0 (below_size (by repeat (first | (with_reducible first | exact HB.out | apply below_alloc | apply pw_below_drewN | apply below_drew1) | exact HB.out)))); have n4_ := Aside0.mk (below_step (by repeat (first | (with_reducible first | exact HB.out | apply below_alloc | apply pw_below_drewN | apply below_drew1) | exact HB.out)) hb); clear HO435; clear HO438; clear HO441; clear HB; have HO435 := n0_; have HO438 := n1_; have HO441 := n2_; have HO446 := n3_; have HB := n4_; clear n0_ n1_ n2_ n3_ n4_; (try clear hb); (try clear hb2); (try clear hk); (try clear hi); (try clear ho0)))
 go_loopg [12] k (fun kq v12 w' => ∃ (x12_1 : Int), v12 = .int .i64 x12_1 ∧ Aside0 (worldmintlaw27_BidsApart.l0 kq t436 t439 t444 0 true x12_1 = some r) ∧ Aside0 (kq ≤ k) ∧ Aside0 (Kd.N k38 38 w' w.heap.size (fun k_ => some k_ ≠ (v440 : Value).ownBlock ∧ some k_ ≠ (v445 : Value).ownBlock) (.slice Ao14 t436.length co14) t436) ∧ Aside0 (Kd.N (Kd.slice 3 (Kd.int .i64)) 22 w' w.heap.size (fun k_ => some k_ ≠ ((.slice Ao14 t436.length co14) : Value).ownBlock ∧ some k_ ≠ (v445 : Value).ownBlock) v440 t439) ∧ Aside0 (Kd.R (Kd.int .i64) 3 w' w.heap.size (fun _ => True) v445 t444) ∧ Aside0 (Below w.heap.size w w'))
 case atStart => exact ⟨(0), (by first | rfl | (simp; done) | (simp [*]; done)), H', ⟨Nat.le_refl _⟩, ⟨by (with_reducible repeat (first | apply Kd.N_alloc | apply Kd.N_drewN | apply Kd.N_drew)); exact Kd.N_mono HO438.out (fun _ hk => ⟨hk.1.2, hk.2⟩)⟩, ⟨by (with_reducible repeat (first | apply Kd.N_alloc | apply Kd.N_drewN | apply Kd.N_drew)); exact Kd.N_mono HO441.out (fun _ hk => ⟨hk.1.2, hk.2⟩)⟩, ⟨by (with_reducible repeat (first | apply Kd.R_alloc | apply Kd.R_drewN | apply Kd.R_drew)); exact HO446.out⟩, ⟨by repeat (first | (with_reducible first | exact HB.out | apply below_alloc | apply pw_below_drewN | apply below_drew1) | exact HB.out)⟩⟩
 case round =>
  clear H'
  try clear c1
  try clear c2
  try clear p2
  try clear p6
  try clear c8
  try clear c10
  try clear c11
  try clear c13
  try clear c15
  obtain ⟨x12_1, rfl, HA, HK1, HO_7, HO_8, HO_9, HB⟩ := hrel
  cases gk with
  | zero => exact absurd HA.out (by simp [worldmintlaw27_BidsApart.l0])
  | succ k1 =>
   have H := HA.out
   clear HA
   simp only [worldmintlaw27_BidsApart.l0] at H
   by_cases c17 : x12_1 < (t439.length : Int)
   ·rw [if_pos c17] at H
    have c17b0 : decide (x12_1 < (t439.length : Int)) = true := decide_eq_true c17
    clear c17
    by_cases c18 : 0 ≤ x12_1
    ·rw [if_pos c18] at H
     have c18b0 : decide (0 ≤ x12_1) = true := decide_eq_true c18
     clear c18
     replace H := Option.bind_eq_some_iff.mp H
     obtain ⟨t448, A190, H⟩ := H
     replace H : (if t448 = true then (worldmintlaw27_BidsApart.l0 k1 t436 t439 t444 0 true (wrap64 (x12_1 + 1))) else (some false)) = some r := H
     have A19 := Aside0.mk A190
     clear A190
     by_cases c20 : t448 = true
     ·subst c20
      have H1 : (worldmintlaw27_BidsApart.l0 k1 t436 t439 t444 0 true (wrap64 (x12_1 + 1))) = some r := by rw [if_pos rfl] at H; exact H
      clear H
      have H := H1
      clear H1
      have H' := Aside0.mk H
      clear H
      obtain ⟨Ao21, co21, eo21⟩ := Kd.N_slice HO_8.out
      subst eo21
      have p447 : 0 ≤ (x12_1 : Int) := of_decide_eq_true (by first | (with_reducible assumption) | assumption)
      have q447 : x12_1 < (t439.length : Int) := of_decide_eq_true (by first | (with_reducible assumption) | assumption)
      obtain ⟨ad447, A447_0, c447_0, e447, hx447_0, hl447_0, hi447_0⟩ := at_L1 (Kd.N_reads' HO_8.out).2.2 x12_1 p447 q447
      cases e447
      obtain ⟨ce447, hce447, hMe447, hcc447⟩ := Kd.N_get HO_8.out [] x12_1 p447 (by first | exact q447 | exact of_decide_eq_true (by first | (with_reducible assumption) | assumption) | (have e_ := (Kd.N_reads' HO_8.out).1; omega))
      obtain ⟨ua447_0, uc447_0, rfl, ul447_0, ge447_0⟩ := Kd.FK_slice_open hMe447
      have hv447_0 := hcc447 0 _ rfl
      rw [Nat.add_zero, show ((Kd.slice 3 (Kd.int .i64))).sz = 1 from rfl, Nat.mul_one] at hv447_0
      replace hv447_0 := Option.some.inj (hv447_0.symm.trans hx447_0)
      injection hv447_0 with hva_ hvn_ hvc_
      rw [hva_] at ge447_0
      rw [hvc_] at ul447_0
      have HL447_0 := Aside0.mk (show Kd.V (Kd.int .i64) 3 _ w.heap.size _ _ (rd_L1 t439 x12_1) from Kd.V_mk ul447_0 ge447_0)
      clear hva_ hvn_ hvc_ ge447_0 ul447_0
      clear hcc447 hce447
      have HR447_0 := Aside0.mk hi447_0
      have HC447_0 := Aside0.mk hl447_0
      clear hi447_0 hl447_0
      replace p447 := eq_true p447
      replace q447 := eq_true q447
      go_wp2_with (first | ((with_reducible refine gate_callee (f := 31) rfl ?_); refine goesL_ (some 49) rfl rfl Try.func31 (by kernel_rfl) rfl #[.slice A447_0 (rd_L1 t439 x12_1).length c447_0, .int .i64 (t436.length : Int)] rfl (by (try simp only [List.map_toArray, List.map_cons, List.map_nil]); first | done | rfl | (simp only [List.length_drop, List.length_take]; rfl)) ?_; (with_reducible refine (worldmintlaw27_indices.calls k1 _ _ (rd_L1 t439 x12_1) (t436.length : Int) true _ ?side1 ?side2 A19.out).mono ?_); (case side1 => repeat (first | exact (by first | (with_reducible exact HR447_0.out) | (with_reducible exact Kd.C_drewN HR447_0.out _)) | (with_reducible refine Kd.C_alloc ?_ _) | (with_reducible refine Kd.C_drewN ?_ _) | (with_reducible refine Kd.C_drew ?_))); (case side2 => exact HC447_0.out); rintro e w' ⟨rfl, ⟨nd, rfl⟩⟩; refine ⟨_, rfl, ?_⟩))
      go_roundg k1
      case measure => have := HK1.out; omega
      case rel => exact ⟨(wrap64 (x12_1 + 1)), (by first | rfl | (simp; done) | (simp [*]; done)), H', ⟨by have := HK1.out; omega⟩, ⟨by (with_reducible repeat (first | apply Kd.N_alloc | apply Kd.N_drewN | apply Kd.N_drew)); exact HO_7.out⟩, ⟨by (with_reducible repeat (first | apply Kd.N_alloc | apply Kd.N_drewN | apply Kd.N_drew)); exact HO_8.out⟩, ⟨by (with_reducible repeat (first | apply Kd.R_alloc | apply Kd.R_drewN | apply Kd.R_drew)); exact HO_9.out⟩, ⟨by repeat (first | (with_reducible first | exact HB.out | apply below_alloc | apply pw_below_drewN | apply below_drew1) | exact HB.out)⟩⟩
     ·replace c20 := Bool.eq_false_iff.mpr c20
      subst c20
      have H1 : (some false) = some r := by rw [if_neg (show ¬ (false = true) by decide)] at H; exact H
      clear H
      have H := H1
      clear H1
      obtain rfl := Option.some.inj H
      obtain ⟨Ao22, co22, eo22⟩ := Kd.N_slice HO_8.out
      subst eo22
      have p447 : 0 ≤ (x12_1 : Int) := of_decide_eq_true (by first | (with_reducible assumption) | assumption)
      have q447 : x12_1 < (t439.length : Int) := of_decide_eq_true (by first | (with_reducible assumption) | assumption)
      obtain ⟨ad447, A447_0, c447_0, e447, hx447_0, hl447_0, hi447_0⟩ := at_L1 (Kd.N_reads' HO_8.out).2.2 x12_1 p447 q447
      cases e447
      obtain ⟨ce447, hce447, hMe447, hcc447⟩ := Kd.N_get HO_8.out [] x12_1 p447 (by first | exact q447 | exact of_decide_eq_true (by first | (with_reducible assumption) | assumption) | (have e_ := (Kd.N_reads' HO_8.out).1; omega))
      obtain ⟨ua447_0, uc447_0, rfl, ul447_0, ge447_0⟩ := Kd.FK_slice_open hMe447
      have hv447_0 := hcc447 0 _ rfl
      rw [Nat.add_zero, show ((Kd.slice 3 (Kd.int .i64))).sz = 1 from rfl, Nat.mul_one] at hv447_0
      replace hv447_0 := Option.some.inj (hv447_0.symm.trans hx447_0)
      injection hv447_0 with hva_ hvn_ hvc_
      rw [hva_] at ge447_0
      rw [hvc_] at ul447_0
      have HL447_0 := Aside0.mk (show Kd.V (Kd.int .i64) 3 _ w.heap.size _ _ (rd_L1 t439 x12_1) from Kd.V_mk ul447_0 ge447_0)
      clear hva_ hvn_ hvc_ ge447_0 ul447_0
      clear hcc447 hce447
      have HR447_0 := Aside0.mk hi447_0
      have HC447_0 := Aside0.mk hl447_0
      clear hi447_0 hl447_0
      replace p447 := eq_true p447
      replace q447 := eq_true q447
      go_wp2_with (first | ((with_reducible refine gate_callee (f := 31) rfl ?_); refine goesL_ (some 49) rfl rfl Try.func31 (by kernel_rfl) rfl #[.slice A447_0 (rd_L1 t439 x12_1).length c447_0, .int .i64 (t436.length : Int)] rfl (by (try simp only [List.map_toArray, List.map_cons, List.map_nil]); first | done | rfl | (simp only [List.length_drop, List.length_take]; rfl)) ?_; (with_reducible refine (worldmintlaw27_indices.calls k1 _ _ (rd_L1 t439 x12_1) (t436.length : Int) false _ ?side1 ?side2 A19.out).mono ?_); (case side1 => repeat (first | exact (by first | (with_reducible exact HR447_0.out) | (with_reducible exact Kd.C_drewN HR447_0.out _)) | (with_reducible refine Kd.C_alloc ?_ _) | (with_reducible refine Kd.C_drewN ?_ _) | (with_reducible refine Kd.C_drew ?_))); (case side2 => exact HC447_0.out); rintro e w' ⟨rfl, ⟨nd, rfl⟩⟩; refine ⟨_, rfl, ?_⟩))
      go_ret
      exact ⟨by first | rfl | (simp [errW_none, errW_some] <;> rfl) | (simp [*, errW_none, errW_some] <;> rfl), by repeat (first | (with_reducible first | exact HB.out | apply below_alloc | apply pw_below_drewN | apply below_drew1) | exact HB.out)⟩
    ·rw [if_neg c18] at H
     exact absurd H (by simp)
   ·rw [if_neg c17] at H
    have c17b0 : decide (x12_1 < (t439.length : Int)) = false := decide_eq_false c17
    clear c17
    have H' := Aside0.mk H
    clear H
    obtain ⟨Ao23, co23, eo23⟩ := Kd.N_slice HO_8.out
    subst eo23
    go_wp2
    go_loopg [10, 11, 13] k1 (fun kq v10 v11 v13 w' => ∃ (x10_2 : Int) (x11_2 : Bool) (x13_2 : Int), v10 = .int .i64 x10_2 ∧ v11 = .bool x11_2 ∧ v13 = .int .i64 x13_2 ∧ Aside0 (worldmintlaw27_BidsApart.l1 kq t436 t439 t444 x10_2 x11_2 x13_2 = some r) ∧ Aside0 (kq ≤ k1) ∧ Aside0 (Kd.N k38 38 w' w.heap.size (fun k_ => some k_ ≠ ((.slice Ao23 t439.length co23) : Value).ownBlock ∧ some k_ ≠ (v445 : Value).ownBlock) (.slice Ao14 t436.length co14) t436) ∧ Aside0 (Kd.N (Kd.slice 3 (Kd.int .i64)) 22 w' w.heap.size (fun k_ => some k_ ≠ ((.slice Ao14 t436.length co14) : Value).ownBlock ∧ some k_ ≠ (v445 : Value).ownBlock) (.slice Ao23 t439.length co23) t439) ∧ Aside0 (Kd.R (Kd.int .i64) 3 w' w.heap.size (fun _ => True) v445 t444) ∧ Aside0 (Below w.heap.size w w'))
    case atStart => exact ⟨(0), (true), (0), (by first | rfl | (simp; done) | (simp [*]; done)), (by first | rfl | (simp; done) | (simp [*]; done)), (by first | rfl | (simp; done) | (simp [*]; done)), H', ⟨Nat.le_refl _⟩, ⟨by (with_reducible repeat (first | apply Kd.N_alloc | apply Kd.N_drewN | apply Kd.N_drew)); exact HO_7.out⟩, ⟨by (with_reducible repeat (first | apply Kd.N_alloc | apply Kd.N_drewN | apply Kd.N_drew)); exact HO_8.out⟩, ⟨by (with_reducible repeat (first | apply Kd.R_alloc | apply Kd.R_drewN | apply Kd.R_drew)); exact HO_9.out⟩, ⟨by repeat (first | (with_reducible first | exact HB.out | apply below_alloc | apply pw_below_drewN | apply below_drew1) | exact HB.out)⟩⟩
    case round =>
     clear H'
     try clear c1
     try clear c2
     try clear p2
     try clear c3
     try clear c4
     try clear p4
     try clear q4
     try clear hx4
     try clear p6
     try clear c8
     try clear c10
     try clear c11
     try clear c13
     try clear c15
     try clear c17
     try clear c17b0
     try clear c18
     try clear c18b0
     try clear c20
     try clear hx447_0
     try clear p2
     try clear p447
     try clear p6
     try clear q447
     obtain ⟨x10_2, x11_2, x13_2, rfl, rfl, rfl, HA, HK2, HO_7, HO_8, HO_9, HB⟩ := hrel
     cases gk with
     | zero => exact absurd HA.out (by simp [worldmintlaw27_BidsApart.l1])
     | succ k2 =>
      have H := HA.out
      clear HA
      simp only [worldmintlaw27_BidsApart.l1] at H
      by_cases c24 : x13_2 < (t439.length : Int)
      ·rw [if_pos c24] at H
       have c24b0 : decide (x13_2 < (t439.length : Int)) = true := decide_eq_true c24
       clear c24
       by_cases c25 : 0 ≤ x13_2
       ·rw [if_pos c25] at H
        have c25b0 : decide (0 ≤ x13_2) = true := decide_eq_true c25
        clear c25
        have H' := Aside0.mk H
        clear H
        have p449 : 0 ≤ (x13_2 : Int) := of_decide_eq_true (by first | (with_reducible assumption) | assumption)
        have q449 : x13_2 < (t439.length : Int) := of_decide_eq_true (by first | (with_reducible assumption) | assumption)
        obtain ⟨ad449, A449_0, c449_0, e449, hx449_0, hl449_0, hi449_0⟩ := at_L1 (Kd.N_reads' HO_8.out).2.2 x13_2 p449 q449
        cases e449
        obtain ⟨ce449, hce449, hMe449, hcc449⟩ := Kd.N_get HO_8.out [] x13_2 p449 (by first | exact q449 | exact of_decide_eq_true (by first | (with_reducible assumption) | assumption) | (have e_ := (Kd.N_reads' HO_8.out).1; omega))
        obtain ⟨ua449_0, uc449_0, rfl, ul449_0, ge449_0⟩ := Kd.FK_slice_open hMe449
        have hv449_0 := hcc449 0 _ rfl
        rw [Nat.add_zero, show ((Kd.slice 3 (Kd.int .i64))).sz = 1 from rfl, Nat.mul_one] at hv449_0
        replace hv449_0 := Option.some.inj (hv449_0.symm.trans hx449_0)
        injection hv449_0 with hva_ hvn_ hvc_
        rw [hva_] at ge449_0
        rw [hvc_] at ul449_0
        have HL449_0 := Aside0.mk (show Kd.V (Kd.int .i64) 3 _ w.heap.size _ _ (rd_L1 t439 x13_2) from Kd.V_mk ul449_0 ge449_0)
        clear hva_ hvn_ hvc_ ge449_0 ul449_0
        clear hcc449 hce449
        have HR449_0 := Aside0.mk hi449_0
        have HC449_0 := Aside0.mk hl449_0
        clear hi449_0 hl449_0
        replace p449 := eq_true p449
        replace q449 := eq_true q449
        go_wp2
        go_loopg [14, 15] k2 (fun kq v14 v15 w' => ∃ (x14_3 : List Int) (x15_3 : Int), v15 = .int .i64 x15_3 ∧ Aside0 (worldmintlaw27_BidsApart.l2 kq t436 t439 t444 (wrap64 (x10_2 + ((rd_L1 t439 x13_2).length : Int))) x11_2 x13_2 x14_3 x15_3 = some r) ∧ Aside0 (kq ≤ k2) ∧ Aside0 (Kd.N k38 38 w' w.heap.size (fun k_ => some k_ ≠ ((.slice (some ad449) t439.length co23) : Value).ownBlock ∧ some k_ ≠ (v445 : Value).ownBlock ∧ some k_ ≠ (v14 : Value).ownBlock) (.slice Ao14 t436.length co14) t436) ∧ Aside0 (Kd.N (Kd.slice 3 (Kd.int .i64)) 22 w' w.heap.size (fun k_ => some k_ ≠ ((.slice Ao14 t436.length co14) : Value).ownBlock ∧ some k_ ≠ (v445 : Value).ownBlock ∧ some k_ ≠ (v14 : Value).ownBlock) (.slice (some ad449) t439.length co23) t439) ∧ Aside0 (Kd.R (Kd.int .i64) 3 w' w.heap.size (fun k_ => some k_ ≠ (v14 : Value).ownBlock) v445 t444) ∧ Aside0 (Kd.R (Kd.int .i64) 3 w' w.heap.size (fun k_ => some k_ ≠ (v445 : Value).ownBlock) v14 x14_3) ∧ Aside0 (Below w.heap.size w w'))
        case atStart => exact ⟨(([] : List Int)), (0), (by first | rfl | (simp; done) | (simp [*]; done)), H', ⟨Nat.le_refl _⟩, ⟨by (with_reducible repeat (first | apply Kd.N_alloc | apply Kd.N_drewN | apply Kd.N_drew)); exact Kd.N_mono HO_7.out (fun _ hk => ⟨hk.1, ⟨hk.2, (by simp [Value.ownBlock])⟩⟩)⟩, ⟨by (with_reducible repeat (first | apply Kd.N_alloc | apply Kd.N_drewN | apply Kd.N_drew)); exact Kd.N_mono HO_8.out (fun _ hk => ⟨hk.1, ⟨hk.2, (by simp [Value.ownBlock])⟩⟩)⟩, ⟨by (with_reducible repeat (first | apply Kd.R_alloc | apply Kd.R_drewN | apply Kd.R_drew)); exact Kd.R_mono HO_9.out (fun _ hk => (by simp [Value.ownBlock]))⟩, ⟨by first | exact Kd.R_nil _ _ _ _ _ | exact Kd.N_nil _ _ _ _ _ | exact Kd.V_nil _ _ _ _ _ | exact Kd.Q_nil _ _ _ _ _ | exact Kd.S_nil _ _ _ _ _⟩, ⟨by repeat (first | (with_reducible first | exact HB.out | apply below_alloc | apply pw_below_drewN | apply below_drew1) | exact HB.out)⟩⟩
        case round =>
         clear H'
         try clear c1
         try clear c2
         try clear p2
         try clear c3
         try clear c4
         try clear p4
         try clear q4
         try clear hx4
         try clear p6
         try clear c8
         try clear c10
         try clear c11
         try clear c13
         try clear c15
         try clear c17
         try clear c17b0
         try clear c18
         try clear c18b0
         try clear c20
         try clear c24
         try clear c24b0
         try clear c25
         try clear c25b0
         try clear hx447_0
         try clear hx449_0
         try clear p2
         try clear p4
         try clear p447
         try clear p449
         try clear p6
         try clear q4
         try clear q447
         try clear q449
         obtain ⟨x14_3, x15_3, rfl, HA, HK3, HO_7, HO_8, HO_9, HO_14, HB⟩ := hrel
         cases gk with
         | zero => exact absurd HA.out (by simp [worldmintlaw27_BidsApart.l2])
         | succ k3 =>
          have H := HA.out
          clear HA
          simp only [worldmintlaw27_BidsApart.l2] at H
          by_cases c26 : x15_3 < (t444.length : Int)
          ·rw [if_pos c26] at H
           have c26b0 : decide (x15_3 < (t444.length : Int)) = true := decide_eq_true c26
           clear c26
           by_cases c27 : 0 ≤ x13_2
           ·rw [if_pos c27] at H
            have c27b0 : decide (0 ≤ x13_2) = true := decide_eq_true c27
            clear c27
            by_cases c28 : x13_2 < (t439.length : Int)
            ·rw [if_pos c28] at H
             have c28b0 : decide (x13_2 < (t439.length : Int)) = true := decide_eq_true c28
             clear c28
             by_cases c29 : 0 ≤ x15_3
             ·rw [if_pos c29] at H
              have c29b0 : decide (0 ≤ x15_3) = true := decide_eq_true c29
              clear c29
              replace H := Option.bind_eq_some_iff.mp H
              obtain ⟨t452, A300, H⟩ := H
              replace H : (if t452 = true then (if x14_3.length < 17592186044416 then (worldmintlaw27_BidsApart.l2 k3 t436 t439 t444 (wrap64 (x10_2 + ((rd_L1 t439 x13_2).length : Int))) x11_2 x13_2 (x14_3 ++ [rd t444 x15_3]) (wrap64 (x15_3 + 1))) else (none)) else (worldmintlaw27_BidsApart.l2 k3 t436 t439 t444 (wrap64 (x10_2 + ((rd_L1 t439 x13_2).length : Int))) x11_2 x13_2 x14_3 (wrap64 (x15_3 + 1)))) = some r := H
              have A30 := Aside0.mk A300
              clear A300
              by_cases c31 : t452 = true
              ·subst c31
               have H1 : (if x14_3.length < 17592186044416 then (worldmintlaw27_BidsApart.l2 k3 t436 t439 t444 (wrap64 (x10_2 + ((rd_L1 t439 x13_2).length : Int))) x11_2 x13_2 (x14_3 ++ [rd t444 x15_3]) (wrap64 (x15_3 + 1))) else (none)) = some r := by rw [if_pos rfl] at H; exact H
               clear H
               have H := H1
               clear H1
               by_cases c32 : x14_3.length < 17592186044416
               ·rw [if_pos c32] at H
                have LMc32 := Aside0.mk c32
                clear c32
                obtain ⟨y454, hy454⟩ : ∃ y_ : List Int, y_ = (x14_3 ++ [rd t444 x15_3]) := ⟨_, rfl⟩
                replace H : (worldmintlaw27_BidsApart.l2 k3 t436 t439 t444 (wrap64 (x10_2 + ((rd_L1 t439 x13_2).length : Int))) x11_2 x13_2 y454 (wrap64 (x15_3 + 1))) = some r := by first | (rw [hy454]; with_reducible exact H) | (have H2_ := (Option.bind_some _ _).symm.trans H; rw [hy454]; with_reducible exact H2_) | (have H2_ := (Option.bind_some _ _).symm.trans H; with_reducible exact H2_) | with_reducible exact H | (rw [hy454]; exact H) | exact H
                have Ny454 := Aside0.mk hy454
                clear hy454
                have H' := Aside0.mk H
                clear H
                obtain ⟨Ao33, co33, eo33⟩ := Kd.R_slice HO_9.out
                subst eo33
                try go_wp2
                have n0_ := Aside0.mk (Kd.N_drew HO_7.out)
                have n1_ := Aside0.mk (Kd.N_drew HO_8.out)
                have n2_ := Aside0.mk (Kd.R_drew HO_9.out)
                have n3_ := Aside0.mk (Kd.R_drew HO_14.out)
                have n4_ := Aside0.mk (below_drew1 HB.out)
                clear HO_7
                clear HO_8
                clear HO_9
                clear HO_14
                clear HB
                have HO_7 := n0_
                have HO_8 := n1_
                have HO_9 := n2_
                have HO_14 := n3_
                have HB := n4_
                clear n0_ n1_ n2_ n3_ n4_
                have p450 : 0 ≤ (x13_2 : Int) := of_decide_eq_true (by first | (with_reducible assumption) | assumption)
                have q450 : x13_2 < (t439.length : Int) := of_decide_eq_true (by first | (with_reducible assumption) | assumption)
                obtain ⟨ad450, A450_0, c450_0, e450, hx450_0, hl450_0, hi450_0⟩ := at_L1 (Kd.N_reads' HO_8.out).2.2 x13_2 p450 q450
                obtain rfl : ad449 = ad450 := (by injection e450)
                obtain ⟨ce450, hce450, hMe450, hcc450⟩ := Kd.N_get HO_8.out [] x13_2 p450 (by first | exact q450 | exact of_decide_eq_true (by first | (with_reducible assumption) | assumption) | (have e_ := (Kd.N_reads' HO_8.out).1; omega))
                obtain ⟨ua450_0, uc450_0, rfl, ul450_0, ge450_0⟩ := Kd.FK_slice_open hMe450
                have hv450_0 := hcc450 0 _ rfl
                rw [Nat.add_zero, show ((Kd.slice 3 (Kd.int .i64))).sz = 1 from rfl, Nat.mul_one] at hv450_0
                replace hv450_0 := Option.some.inj (hv450_0.symm.trans hx450_0)
                injection hv450_0 with hva_ hvn_ hvc_
                rw [hva_] at ge450_0
                rw [hvc_] at ul450_0
                have HL450_0 := Aside0.mk (show Kd.V (Kd.int .i64) 3 _ w.heap.size _ _ (rd_L1 t439 x13_2) from Kd.V_mk ul450_0 ge450_0)
                clear hva_ hvn_ hvc_ ge450_0 ul450_0
                clear hcc450 hce450
                have HR450_0 := Aside0.mk hi450_0
                have HC450_0 := Aside0.mk hl450_0
                clear hi450_0 hl450_0
                replace p450 := eq_true p450
                replace q450 := eq_true q450
                have p451 : 0 ≤ (x15_3 : Int) := of_decide_eq_true (by first | (with_reducible assumption) | assumption)
                have q451 : x15_3 < (t444.length : Int) := of_decide_eq_true (by first | (with_reducible assumption) | assumption)
                obtain ⟨ad451, e451, hx451_0⟩ := Kd.at_int (Kd.R_reads' HO_9.out).2.2 x15_3 p451 q451
                cases e451
                replace p451 := eq_true p451
                replace q451 := eq_true q451
                refine start_ (n := 9) (S := fun w' => w'.cell? (ad449.add (x13_2).toNat) = some (.slice A450_0 (rd_L1 t439 x13_2).length c450_0) ∧ w'.cell? (ad451.add (x15_3).toNat) = some (.int .i64 (rd t444 x15_3))) (ds := []) #[false, false, false, false, false, false, false, false, false] (by kernel_rfl) rfl rfl ⟨hx450_0, hx451_0⟩ (fun hHeld => ?_); refine with_tabW worldmintlaw27_BidsApart.tab19 worldmintlaw27_BidsApart.bits19 (fun HT_ HW_ => ?_)
                generalize wr.drew = w34 at HO_7 HO_8 HO_9 HO_14 HB HL450_0 HR450_0 hx450_0 hx451_0 hHeld ⊢
                refine pure_ (i := 0) (N := some 70) (v := ?_) (a' := ?_) #[true, false, false, false, false, false, false, false, false] rfl rfl (any_of HT_.out (by kernel_rfl)) (fun _ _ _ h => h) (Or.inl ⟨by rfl, ?_⟩) ?_ ?_
                rotate_left
                ·intro w'
                 go_simp
                 with_reducible rfl
                rotate_left
                ·simp only [Act.put, List.setIfInBounds_toArray, List.set_cons_zero, List.set_cons_succ, i64_w, i32_w]
                 rfl
                refine pure_ (i := 1) (N := some 71) (v := ?_) (a' := ?_) #[true, true, false, false, false, false, false, false, false] rfl rfl (any_of HT_.out (by kernel_rfl)) (fun _ _ _ h => h) (Or.inl ⟨by rfl, ?_⟩) ?_ ?_
                rotate_left
                ·intro w'
                 go_simp
                 with_reducible rfl
                rotate_left
                ·simp only [Act.put, List.setIfInBounds_toArray, List.set_cons_zero, List.set_cons_succ, i64_w, i32_w]
                 rfl
                refine pure_ (i := 2) (N := some 72) (v := ?_) (a' := ?_) #[true, true, true, false, false, false, false, false, false] rfl rfl (any_of HT_.out (by kernel_rfl)) (fun _ _ _ h => h) (Or.inl ⟨by rfl, ?_⟩) ?_ ?_
                rotate_left
                ·intro w'
                 go_simp
                 with_reducible rfl
                rotate_left
                ·simp only [Act.put, List.setIfInBounds_toArray, List.set_cons_zero, List.set_cons_succ, i64_w, i32_w]
                 rfl
                refine pure_ (i := 4) (N := some 74) (v := ?_) (a' := ?_) #[true, true, true, false, true, false, false, false, false] rfl rfl (any_of HT_.out (by kernel_rfl)) (fun _ _ _ h => h) (Or.inl ⟨by rfl, ?_⟩) ?_ ?_
                rotate_left
                ·intro w'
                 go_simp
                 with_reducible rfl
                rotate_left
                ·simp only [Act.put, List.setIfInBounds_toArray, List.set_cons_zero, List.set_cons_succ, i64_w, i32_w]
                 rfl
                refine pure_ (i := 5) (N := some 75) (v := ?_) (a' := ?_) #[true, true, true, false, true, true, false, false, false] rfl rfl (any_of HT_.out (by kernel_rfl)) (fun _ _ _ h => h) (Or.inl ⟨by rfl, ?_⟩) ?_ ?_
                rotate_left
                ·intro w'
                 go_simp
                 with_reducible rfl
                rotate_left
                ·simp only [Act.put, List.setIfInBounds_toArray, List.set_cons_zero, List.set_cons_succ, i64_w, i32_w]
                 rfl
                refine pure_ (i := 6) (N := some 76) (v := ?_) (a' := ?_) #[true, true, true, false, true, true, true, false, false] rfl rfl (any_of HT_.out (by kernel_rfl)) (fun _ _ _ h => h) (Or.inl ⟨by rfl, ?_⟩) ?_ ?_
                rotate_left
                ·intro w'
                 go_simp
                 with_reducible rfl
                rotate_left
                ·simp only [Act.put, List.setIfInBounds_toArray, List.set_cons_zero, List.set_cons_succ, i64_w, i32_w]
                 rfl
                refine take_ (i := 3) (N := some 73) (v := ?_) (a' := ?_) #[true, true, true, true, true, true, true, false, false] rfl rfl (take_ofW HT_.out HW_.out (by kernel_rfl)) (fun _ _ _ h => h) (Or.inl ⟨by rfl, ?_⟩) hHeld ?_ ?_
                rotate_left
                ·rintro w' ⟨s0, s1⟩
                 go_simp
                 with_reducible rfl
                rotate_left
                ·simp only [Act.put, List.setIfInBounds_toArray, List.set_cons_zero, List.set_cons_succ, i64_w, i32_w]
                 rfl
                refine take_ (i := 7) (N := some 77) (v := ?_) (a' := ?_) #[true, true, true, true, true, true, true, true, false] rfl rfl (take_ofW HT_.out HW_.out (by kernel_rfl)) (fun _ _ _ h => h) (Or.inl ⟨by rfl, ?_⟩) hHeld ?_ ?_
                rotate_left
                ·rintro w' ⟨s0, s1⟩
                 go_simp
                 with_reducible rfl
                rotate_left
                ·simp only [Act.put, List.setIfInBounds_toArray, List.set_cons_zero, List.set_cons_succ, i64_w, i32_w]
                 rfl
                refine one_ (i := 8) (N := some 78) #[true, true, true, true, true, true, true, true, true] rfl rfl (one_of HT_.out (by kernel_rfl)) (by decide) (fun K hK => ?_)
                refine goes_ Try.func32 (by kernel_rfl) rfl #[.slice A450_0 (rd_L1 t439 x13_2).length c450_0, .int .i64 (rd t444 x15_3)] (by rfl) rfl rfl (by (try simp only [List.map_toArray, List.map_cons, List.map_nil]); first | done | rfl | (simp only [List.length_drop, List.length_take]; rfl)) ?_
                with_reducible refine (worldmintref01_Has.calls k3 _ _ (rd_L1 t439 x13_2) (rd t444 x15_3) true _ ?side1 ?side2 A30.out).mono ?_
                (case side1 => repeat (first | exact (by first | (with_reducible exact HR450_0.out) | (with_reducible exact Kd.C_drewN HR450_0.out _)) | (with_reducible refine Kd.C_alloc ?_ _) | (with_reducible refine Kd.C_drewN ?_ _) | (with_reducible refine Kd.C_drew ?_)))
                (case side2 => exact HC450_0.out)
                rintro e w' ⟨rfl, ⟨nd, rfl⟩⟩
                refine ⟨_, rfl, ?_⟩
                refine hK.out _ _ ⟨hHeld.1, hHeld.2⟩ (fun hHeld => ?_)
                clear hK K
                refine norm_ (a' := ?_) ?_ ?_
                rotate_left
                ·show Act.put _ (some 78) _ = _
                 simp only [Act.put, List.setIfInBounds_toArray, List.set_cons_zero, List.set_cons_succ, i64_w, i32_w]
                 rfl
                refine done_ (done_of HT_.out (by kernel_rfl)) ?_
                have p453 : 0 ≤ (x15_3 : Int) := of_decide_eq_true (by first | (with_reducible assumption) | assumption)
                have q453 : x15_3 < (t444.length : Int) := of_decide_eq_true (by first | (with_reducible assumption) | assumption)
                obtain ⟨ad453, e453, hx453_0⟩ := Kd.at_int (Kd.R_reads' HO_9.out).2.2 x15_3 p453 q453
                obtain rfl : ad451 = ad453 := (by injection e453)
                replace p453 := eq_true p453
                replace q453 := eq_true q453
                try go_wp2_with (first | ((with_reducible refine gate_builtin (b := .append) (xs := #[.tmp 79, .tmp 84]) rfl ?_); at_builtin; refine Kd.R_append (Kd.int .i64) (w0 := w) w.heap.size rfl (.tmp 79) (.tmp 84) 22 3 (.int .i64 0) 8 rfl Try.underlying22 info3 rfl (by decide) (by omega) u14 x14_3 (rd t444 x15_3) [.int .i64 (rd t444 x15_3)] (fun k_ => some k_ ≠ (.slice (some ad451) t444.length co33 : Value).ownBlock) (fun _ => False) rfl rfl ?aP (fun _ hk => hk.elim) ?aF ?aO ?aB ?aS ?aL ?_; (case aP => exact rfl); (case aB => exact (by repeat (first | (with_reducible first | exact HB.out | apply below_alloc | apply pw_below_drewN | apply below_drew1) | exact HB.out))); (case aF => exact (fun k_ hk => Kd.fresh' (Kd.R_lt (by (with_reducible repeat (first | apply Kd.R_alloc | apply Kd.R_drewN | apply Kd.R_drew)); exact HO_9.out)) k_ hk)); (case aO => exact (by (with_reducible repeat (first | apply Kd.R_alloc | apply Kd.R_drewN | apply Kd.R_drew)); exact HO_14.out)); (case aS => exact (below_size (by repeat (first | (with_reducible first | exact HB.out | apply below_alloc | apply pw_below_drewN | apply below_drew1) | exact HB.out)))); (case aL => have := LMc32.out; omega); intro v455 w35 ho hb hg hat; rw [← Ny454.out] at ho; have n0_ := Aside0.mk (Kd.N_afterv (ok := (fun k_ => some k_ ≠ (.slice (some ad449) t439.length co23 : Value).ownBlock ∧ some k_ ≠ (.slice (some ad451) t444.length co33 : Value).ownBlock)) (by (with_reducible repeat (first | apply Kd.N_alloc | apply Kd.N_drewN | apply Kd.N_drew)); exact Kd.N_mono HO_7.out (fun _ hk => ⟨⟨hk.1, hk.2.1⟩, hk.2.2⟩)) hg hat); have n1_ := Aside0.mk (Kd.N_afterv (ok := (fun k_ => some k_ ≠ (.slice Ao14 t436.length co14 : Value).ownBlock ∧ some k_ ≠ (.slice (some ad451) t444.length co33 : Value).ownBlock)) (by (with_reducible repeat (first | apply Kd.N_alloc | apply Kd.N_drewN | apply Kd.N_drew)); exact Kd.N_mono HO_8.out (fun _ hk => ⟨⟨hk.1, hk.2.1⟩, hk.2.2⟩)) hg hat); have n2_ := Aside0.mk (Kd.R_after (ok := (fun _ => True)) (by (with_reducible repeat (first | apply Kd.R_alloc | apply Kd.R_drewN | apply Kd.R_drew)); exact Kd.R_mono HO_9.out (fun _ hk => ⟨trivial, hk⟩)) hg hat); have n3_ := Aside0.mk (Kd.V_afterv (ok := (fun k_ => some k_ ≠ (.slice Ao14 t436.length co14 : Value).ownBlock ∧ some k_ ≠ (.slice (some ad449) t439.length co23 : Value).ownBlock ∧ some k_ ≠ (.slice (some ad451) t444.length co33 : Value).ownBlock)) (by (with_reducible repeat (first | apply Kd.V_alloc | apply Kd.V_drewN | apply Kd.V_drew)); exact Kd.V_mono HL450_0.out (fun _ hk => ⟨⟨hk.1.1, ⟨hk.2, hk.1.2.1⟩⟩, hk.1.2.2⟩)) hg hat); have n4_ := Aside0.mk (hb); have n5_ := Aside0.mk (ho); clear HO_7; clear HO_8; clear HO_9; clear HL450_0; clear HB; clear HO_14; have HO_7 := n0_; have HO_8 := n1_; have HO_9 := n2_; have HL450_0 := n3_; have HB := n4_; have HO456 := n5_; clear n0_ n1_ n2_ n3_ n4_ n5_; clear ho hb hg hat))
                go_roundg k3
                case measure => have := HK1.out; have := HK2.out; have := HK3.out; omega
                case rel => exact ⟨(y454), (wrap64 (x15_3 + 1)), (by first | rfl | (simp; done) | (simp [*]; done)), H', ⟨by have := HK1.out; have := HK2.out; have := HK3.out; omega⟩, ⟨by (with_reducible repeat (first | apply Kd.N_alloc | apply Kd.N_drewN | apply Kd.N_drew)); exact Kd.N_mono HO_7.out (fun _ hk => ⟨hk.1.1, ⟨hk.1.2, hk.2⟩⟩)⟩, ⟨by (with_reducible repeat (first | apply Kd.N_alloc | apply Kd.N_drewN | apply Kd.N_drew)); exact Kd.N_mono HO_8.out (fun _ hk => ⟨hk.1.1, ⟨hk.1.2, hk.2⟩⟩)⟩, ⟨by (with_reducible repeat (first | apply Kd.R_alloc | apply Kd.R_drewN | apply Kd.R_drew)); exact Kd.R_mono HO_9.out (fun _ hk => hk.2)⟩, ⟨by (with_reducible repeat (first | apply Kd.R_alloc | apply Kd.R_drewN | apply Kd.R_drew)); exact HO456.out⟩, ⟨by repeat (first | (with_reducible first | exact HB.out | apply below_alloc | apply pw_below_drewN | apply below_drew1) | exact HB.out)⟩⟩
               ·rw [if_neg c32] at H
                exact absurd H (by simp)
              ·replace c31 := Bool.eq_false_iff.mpr c31
               subst c31
               have H1 : (worldmintlaw27_BidsApart.l2 k3 t436 t439 t444 (wrap64 (x10_2 + ((rd_L1 t439 x13_2).length : Int))) x11_2 x13_2 x14_3 (wrap64 (x15_3 + 1))) = some r := by rw [if_neg (show ¬ (false = true) by decide)] at H; exact H
               clear H
               have H := H1
               clear H1
               have H' := Aside0.mk H
               clear H
               obtain ⟨Ao36, co36, eo36⟩ := Kd.R_slice HO_9.out
               subst eo36
               try go_wp2
               have n0_ := Aside0.mk (Kd.N_drew HO_7.out)
               have n1_ := Aside0.mk (Kd.N_drew HO_8.out)
               have n2_ := Aside0.mk (Kd.R_drew HO_9.out)
               have n3_ := Aside0.mk (Kd.R_drew HO_14.out)
               have n4_ := Aside0.mk (below_drew1 HB.out)
               clear HO_7
               clear HO_8
               clear HO_9
               clear HO_14
               clear HB
               have HO_7 := n0_
               have HO_8 := n1_
               have HO_9 := n2_
               have HO_14 := n3_
               have HB := n4_
               clear n0_ n1_ n2_ n3_ n4_
               have p450 : 0 ≤ (x13_2 : Int) := of_decide_eq_true (by first | (with_reducible assumption) | assumption)
               have q450 : x13_2 < (t439.length : Int) := of_decide_eq_true (by first | (with_reducible assumption) | assumption)
               obtain ⟨ad450, A450_0, c450_0, e450, hx450_0, hl450_0, hi450_0⟩ := at_L1 (Kd.N_reads' HO_8.out).2.2 x13_2 p450 q450
               obtain rfl : ad449 = ad450 := (by injection e450)
               obtain ⟨ce450, hce450, hMe450, hcc450⟩ := Kd.N_get HO_8.out [] x13_2 p450 (by first | exact q450 | exact of_decide_eq_true (by first | (with_reducible assumption) | assumption) | (have e_ := (Kd.N_reads' HO_8.out).1; omega))
               obtain ⟨ua450_0, uc450_0, rfl, ul450_0, ge450_0⟩ := Kd.FK_slice_open hMe450
               have hv450_0 := hcc450 0 _ rfl
               rw [Nat.add_zero, show ((Kd.slice 3 (Kd.int .i64))).sz = 1 from rfl, Nat.mul_one] at hv450_0
               replace hv450_0 := Option.some.inj (hv450_0.symm.trans hx450_0)
               injection hv450_0 with hva_ hvn_ hvc_
               rw [hva_] at ge450_0
               rw [hvc_] at ul450_0
               have HL450_0 := Aside0.mk (show Kd.V (Kd.int .i64) 3 _ w.heap.size _ _ (rd_L1 t439 x13_2) from Kd.V_mk ul450_0 ge450_0)
               clear hva_ hvn_ hvc_ ge450_0 ul450_0
               clear hcc450 hce450
               have HR450_0 := Aside0.mk hi450_0
               have HC450_0 := Aside0.mk hl450_0
               clear hi450_0 hl450_0
               replace p450 := eq_true p450
               replace q450 := eq_true q450
               have p451 : 0 ≤ (x15_3 : Int) := of_decide_eq_true (by first | (with_reducible assumption) | assumption)
               have q451 : x15_3 < (t444.length : Int) := of_decide_eq_true (by first | (with_reducible assumption) | assumption)
               obtain ⟨ad451, e451, hx451_0⟩ := Kd.at_int (Kd.R_reads' HO_9.out).2.2 x15_3 p451 q451
               cases e451
               replace p451 := eq_true p451
               replace q451 := eq_true q451
               refine start_ (n := 9) (S := fun w' => w'.cell? (ad449.add (x13_2).toNat) = some (.slice A450_0 (rd_L1 t439 x13_2).length c450_0) ∧ w'.cell? (ad451.add (x15_3).toNat) = some (.int .i64 (rd t444 x15_3))) (ds := []) #[false, false, false, false, false, false, false, false, false] (by kernel_rfl) rfl rfl ⟨hx450_0, hx451_0⟩ (fun hHeld => ?_); refine with_tabW worldmintlaw27_BidsApart.tab19 worldmintlaw27_BidsApart.bits19 (fun HT_ HW_ => ?_)
               generalize wr.drew = w37 at HO_7 HO_8 HO_9 HO_14 HB HL450_0 HR450_0 hx450_0 hx451_0 hHeld ⊢
               refine pure_ (i := 0) (N := some 70) (v := ?_) (a' := ?_) #[true, false, false, false, false, false, false, false, false] rfl rfl (any_of HT_.out (by kernel_rfl)) (fun _ _ _ h => h) (Or.inl ⟨by rfl, ?_⟩) ?_ ?_
               rotate_left
               ·intro w'
                go_simp
                with_reducible rfl
               rotate_left
               ·simp only [Act.put, List.setIfInBounds_toArray, List.set_cons_zero, List.set_cons_succ, i64_w, i32_w]
                rfl
               refine pure_ (i := 1) (N := some 71) (v := ?_) (a' := ?_) #[true, true, false, false, false, false, false, false, false] rfl rfl (any_of HT_.out (by kernel_rfl)) (fun _ _ _ h => h) (Or.inl ⟨by rfl, ?_⟩) ?_ ?_
               rotate_left
               ·intro w'
                go_simp
                with_reducible rfl
               rotate_left
               ·simp only [Act.put, List.setIfInBounds_toArray, List.set_cons_zero, List.set_cons_succ, i64_w, i32_w]
                rfl
               refine pure_ (i := 2) (N := some 72) (v := ?_) (a' := ?_) #[true, true, true, false, false, false, false, false, false] rfl rfl (any_of HT_.out (by kernel_rfl)) (fun _ _ _ h => h) (Or.inl ⟨by rfl, ?_⟩) ?_ ?_
               rotate_left
               ·intro w'
                go_simp
                with_reducible rfl
               rotate_left
               ·simp only [Act.put, List.setIfInBounds_toArray, List.set_cons_zero, List.set_cons_succ, i64_w, i32_w]
                rfl
               refine pure_ (i := 4) (N := some 74) (v := ?_) (a' := ?_) #[true, true, true, false, true, false, false, false, false] rfl rfl (any_of HT_.out (by kernel_rfl)) (fun _ _ _ h => h) (Or.inl ⟨by rfl, ?_⟩) ?_ ?_
               rotate_left
               ·intro w'
                go_simp
                with_reducible rfl
               rotate_left
               ·simp only [Act.put, List.setIfInBounds_toArray, List.set_cons_zero, List.set_cons_succ, i64_w, i32_w]
                rfl
               refine pure_ (i := 5) (N := some 75) (v := ?_) (a' := ?_) #[true, true, true, false, true, true, false, false, false] rfl rfl (any_of HT_.out (by kernel_rfl)) (fun _ _ _ h => h) (Or.inl ⟨by rfl, ?_⟩) ?_ ?_
               rotate_left
               ·intro w'
                go_simp
                with_reducible rfl
               rotate_left
               ·simp only [Act.put, List.setIfInBounds_toArray, List.set_cons_zero, List.set_cons_succ, i64_w, i32_w]
                rfl
               refine pure_ (i := 6) (N := some 76) (v := ?_) (a' := ?_) #[true, true, true, false, true, true, true, false, false] rfl rfl (any_of HT_.out (by kernel_rfl)) (fun _ _ _ h => h) (Or.inl ⟨by rfl, ?_⟩) ?_ ?_
               rotate_left
               ·intro w'
                go_simp
                with_reducible rfl
               rotate_left
               ·simp only [Act.put, List.setIfInBounds_toArray, List.set_cons_zero, List.set_cons_succ, i64_w, i32_w]
                rfl
               refine take_ (i := 3) (N := some 73) (v := ?_) (a' := ?_) #[true, true, true, true, true, true, true, false, false] rfl rfl (take_ofW HT_.out HW_.out (by kernel_rfl)) (fun _ _ _ h => h) (Or.inl ⟨by rfl, ?_⟩) hHeld ?_ ?_
               rotate_left
               ·rintro w' ⟨s0, s1⟩
                go_simp
                with_reducible rfl
               rotate_left
               ·simp only [Act.put, List.setIfInBounds_toArray, List.set_cons_zero, List.set_cons_succ, i64_w, i32_w]
                rfl
               refine take_ (i := 7) (N := some 77) (v := ?_) (a' := ?_) #[true, true, true, true, true, true, true, true, false] rfl rfl (take_ofW HT_.out HW_.out (by kernel_rfl)) (fun _ _ _ h => h) (Or.inl ⟨by rfl, ?_⟩) hHeld ?_ ?_
               rotate_left
               ·rintro w' ⟨s0, s1⟩
                go_simp
                with_reducible rfl
               rotate_left
               ·simp only [Act.put, List.setIfInBounds_toArray, List.set_cons_zero, List.set_cons_succ, i64_w, i32_w]
                rfl
               refine one_ (i := 8) (N := some 78) #[true, true, true, true, true, true, true, true, true] rfl rfl (one_of HT_.out (by kernel_rfl)) (by decide) (fun K hK => ?_)
               refine goes_ Try.func32 (by kernel_rfl) rfl #[.slice A450_0 (rd_L1 t439 x13_2).length c450_0, .int .i64 (rd t444 x15_3)] (by rfl) rfl rfl (by (try simp only [List.map_toArray, List.map_cons, List.map_nil]); first | done | rfl | (simp only [List.length_drop, List.length_take]; rfl)) ?_
               with_reducible refine (worldmintref01_Has.calls k3 _ _ (rd_L1 t439 x13_2) (rd t444 x15_3) false _ ?side1 ?side2 A30.out).mono ?_
               (case side1 => repeat (first | exact (by first | (with_reducible exact HR450_0.out) | (with_reducible exact Kd.C_drewN HR450_0.out _)) | (with_reducible refine Kd.C_alloc ?_ _) | (with_reducible refine Kd.C_drewN ?_ _) | (with_reducible refine Kd.C_drew ?_)))
               (case side2 => exact HC450_0.out)
               rintro e w' ⟨rfl, ⟨nd, rfl⟩⟩
               refine ⟨_, rfl, ?_⟩
               refine hK.out _ _ ⟨hHeld.1, hHeld.2⟩ (fun hHeld => ?_)
               clear hK K
               refine norm_ (a' := ?_) ?_ ?_
               rotate_left
               ·show Act.put _ (some 78) _ = _
                simp only [Act.put, List.setIfInBounds_toArray, List.set_cons_zero, List.set_cons_succ, i64_w, i32_w]
                rfl
               refine done_ (done_of HT_.out (by kernel_rfl)) ?_
               try go_wp2
               go_roundg k3
               case measure => have := HK1.out; have := HK2.out; have := HK3.out; omega
               case rel => exact ⟨(x14_3), (wrap64 (x15_3 + 1)), (by first | rfl | (simp; done) | (simp [*]; done)), H', ⟨by have := HK1.out; have := HK2.out; have := HK3.out; omega⟩, ⟨by (with_reducible repeat (first | apply Kd.N_alloc | apply Kd.N_drewN | apply Kd.N_drew)); exact HO_7.out⟩, ⟨by (with_reducible repeat (first | apply Kd.N_alloc | apply Kd.N_drewN | apply Kd.N_drew)); exact HO_8.out⟩, ⟨by (with_reducible repeat (first | apply Kd.R_alloc | apply Kd.R_drewN | apply Kd.R_drew)); exact HO_9.out⟩, ⟨by (with_reducible repeat (first | apply Kd.R_alloc | apply Kd.R_drewN | apply Kd.R_drew)); exact HO_14.out⟩, ⟨by repeat (first | (with_reducible first | exact HB.out | apply below_alloc | apply pw_below_drewN | apply below_drew1) | exact HB.out)⟩⟩
             ·rw [if_neg c29] at H
              exact absurd H (by simp)
            ·rw [if_neg c28] at H
             exact absurd H (by simp)
           ·rw [if_neg c27] at H
            exact absurd H (by simp)
          ·rw [if_neg c26] at H
           have c26b0 : decide (x15_3 < (t444.length : Int)) = false := decide_eq_false c26
           clear c26
           have HC38 := Aside0.mk H
           clear H
           obtain ⟨Ao39, co39, eo39⟩ := Kd.R_slice HO_9.out
           subst eo39
           go_upto_region 21 with (fail)
           go_cut [11] (fun v11 wc => ∃ (kq : Nat) (x11_37 : Bool), v11 = .bool x11_37 ∧ Aside0 (worldmintlaw27_BidsApart.j3 kq t436 t439 t444 (wrap64 (x10_2 + ((rd_L1 t439 x13_2).length : Int))) x11_37 x13_2 = some r) ∧ Aside0 (kq ≤ k3) ∧ Aside0 (Kd.N k38 38 wc w.heap.size (fun k_ => some k_ ≠ ((.slice (some ad449) t439.length co23) : Value).ownBlock ∧ some k_ ≠ ((.slice Ao39 t444.length co39) : Value).ownBlock) (.slice Ao14 t436.length co14) t436) ∧ Aside0 (Kd.N (Kd.slice 3 (Kd.int .i64)) 22 wc w.heap.size (fun k_ => some k_ ≠ ((.slice Ao14 t436.length co14) : Value).ownBlock ∧ some k_ ≠ ((.slice Ao39 t444.length co39) : Value).ownBlock) (.slice (some ad449) t439.length co23) t439) ∧ Aside0 (Kd.R (Kd.int .i64) 3 wc w.heap.size (fun _ => True) (.slice Ao39 t444.length co39) t444) ∧ Aside0 (Below w.heap.size w wc))
           case first =>
            have H := HC38.out
            clear HC38
            by_cases c40 : x11_2 = true
            ·subst c40
             have H1 : ((bids_Feasible.f t436 x14_3).bind fun t457 => (worldmintlaw27_BidsApart.j3 k3 t436 t439 t444 (wrap64 (x10_2 + ((rd_L1 t439 x13_2).length : Int))) t457 x13_2)) = some r := by rw [if_pos rfl] at H; exact H
             clear H
             have H := H1
             clear H1
             replace H := Option.bind_eq_some_iff.mp H
             obtain ⟨t457, A410, H⟩ := H
             replace H : (worldmintlaw27_BidsApart.j3 k3 t436 t439 t444 (wrap64 (x10_2 + ((rd_L1 t439 x13_2).length : Int))) t457 x13_2) = some r := H
             have A41 := Aside0.mk A410
             clear A410
             have H' := Aside0.mk H
             clear H
             obtain ⟨Ao42, co42, eo42⟩ := Kd.R_slice HO_14.out
             subst eo42
             go_wp2_with (first | (go_at_call 21; (with_reducible refine (bids_Feasible.calls _ _ t436 _ _ x14_3 t457 _ ?side1 ?side2 ?side3 ?side4 A41.out).mono ?_); (case side1 => repeat (first | exact (Kd.N_reads' HO_7.out).2.2 | (with_reducible refine Kd.C_alloc ?_ _) | (with_reducible refine Kd.C_drewN ?_ _) | (with_reducible refine Kd.C_drew ?_))); (case side2 => exact (Kd.N_reads' HO_7.out).2.1); (case side3 => repeat (first | exact (Kd.R_reads' HO_14.out).2.2 | (with_reducible refine Kd.C_alloc ?_ _) | (with_reducible refine Kd.C_drewN ?_ _) | (with_reducible refine Kd.C_drew ?_))); (case side4 => exact (Kd.R_reads' HO_14.out).2.1); rintro e w43 ⟨rfl, hb⟩; have n0_ := Aside0.mk (Kd.N_below (by (with_reducible repeat (first | apply Kd.N_alloc | apply Kd.N_drewN | apply Kd.N_drew)); exact HO_7.out) hb); have n1_ := Aside0.mk (Kd.N_below (by (with_reducible repeat (first | apply Kd.N_alloc | apply Kd.N_drewN | apply Kd.N_drew)); exact HO_8.out) hb); have n2_ := Aside0.mk (Kd.R_below (by (with_reducible repeat (first | apply Kd.R_alloc | apply Kd.R_drewN | apply Kd.R_drew)); exact HO_9.out) hb); have n3_ := Aside0.mk (Kd.R_below (by (with_reducible repeat (first | apply Kd.R_alloc | apply Kd.R_drewN | apply Kd.R_drew)); exact HO_14.out) hb); have n4_ := Aside0.mk (below_step (by repeat (first | (with_reducible first | exact HB.out | apply below_alloc | apply pw_below_drewN | apply below_drew1) | exact HB.out)) hb); clear HO_7; clear HO_8; clear HO_9; clear HO_14; clear HB; have HO_7 := n0_; have HO_8 := n1_; have HO_9 := n2_; have HO_14 := n3_; have HB := n4_; clear n0_ n1_ n2_ n3_ n4_; (try clear hb); (try clear hb2); (try clear hk); (try clear hi)))
             go_meet
             case rel => exact ⟨_, (t457), (by first | rfl | (simp; done) | (simp [*]; done)), H', ⟨by have := HK1.out; have := HK2.out; have := HK3.out; first | omega | exact Nat.le_refl _⟩, ⟨by (with_reducible repeat (first | apply Kd.N_alloc | apply Kd.N_drewN | apply Kd.N_drew)); exact Kd.N_mono HO_7.out (fun _ hk => ⟨hk.1, hk.2.1⟩)⟩, ⟨by (with_reducible repeat (first | apply Kd.N_alloc | apply Kd.N_drewN | apply Kd.N_drew)); exact Kd.N_mono HO_8.out (fun _ hk => ⟨hk.1, hk.2.1⟩)⟩, ⟨by (with_reducible repeat (first | apply Kd.R_alloc | apply Kd.R_drewN | apply Kd.R_drew)); exact Kd.R_mono HO_9.out (fun _ hk => trivial)⟩, ⟨by repeat (first | (with_reducible first | exact HB.out | apply below_alloc | apply pw_below_drewN | apply below_drew1) | exact HB.out)⟩⟩
            ·replace c40 := Bool.eq_false_iff.mpr c40
             subst c40
             have H1 : (worldmintlaw27_BidsApart.j3 k3 t436 t439 t444 (wrap64 (x10_2 + ((rd_L1 t439 x13_2).length : Int))) false x13_2) = some r := by rw [if_neg (show ¬ (false = true) by decide)] at H; exact H
             clear H
             have H := H1
             clear H1
             have H' := Aside0.mk H
             clear H
             go_wp2
             go_meet
             case rel => exact ⟨_, (false), (by first | rfl | (simp; done) | (simp [*]; done)), H', ⟨by have := HK1.out; have := HK2.out; have := HK3.out; first | omega | exact Nat.le_refl _⟩, ⟨by (with_reducible repeat (first | apply Kd.N_alloc | apply Kd.N_drewN | apply Kd.N_drew)); exact Kd.N_mono HO_7.out (fun _ hk => ⟨hk.1, hk.2.1⟩)⟩, ⟨by (with_reducible repeat (first | apply Kd.N_alloc | apply Kd.N_drewN | apply Kd.N_drew)); exact Kd.N_mono HO_8.out (fun _ hk => ⟨hk.1, hk.2.1⟩)⟩, ⟨by (with_reducible repeat (first | apply Kd.R_alloc | apply Kd.R_drewN | apply Kd.R_drew)); exact Kd.R_mono HO_9.out (fun _ hk => trivial)⟩, ⟨by repeat (first | (with_reducible first | exact HB.out | apply below_alloc | apply pw_below_drewN | apply below_drew1) | exact HB.out)⟩⟩
           case rest =>
            clear HC38
            try clear c1
            try clear c2
            try clear p2
            try clear c3
            try clear c4
            try clear p4
            try clear q4
            try clear hx4
            try clear p6
            try clear c8
            try clear c10
            try clear c11
            try clear c13
            try clear c15
            try clear c17
            try clear c17b0
            try clear c18
            try clear c18b0
            try clear c20
            try clear c24
            try clear c24b0
            try clear c25
            try clear c25b0
            try clear c26
            try clear c26b0
            try clear c27
            try clear c27b0
            try clear c28
            try clear c28b0
            try clear c29
            try clear c29b0
            try clear c31
            try clear c32
            try clear c40
            try clear hx447_0
            try clear hx449_0
            try clear hx450_0
            try clear hx451_0
            try clear hx453_0
            try clear p2
            try clear p4
            try clear p447
            try clear p449
            try clear p450
            try clear p451
            try clear p453
            try clear p6
            try clear q4
            try clear q447
            try clear q449
            try clear q450
            try clear q451
            try clear q453
            obtain ⟨kq, x11_37, rfl, HA, HJ37, HO_7, HO_8, HO_9, HB⟩ := hcut
            cases kq with
            | zero => exact absurd HA.out (by simp [worldmintlaw27_BidsApart.j3])
            | succ kj37 =>
             have H := HA.out
             clear HA
             simp only [worldmintlaw27_BidsApart.j3] at H
             have H' := Aside0.mk H
             clear H
             go_wp2
             go_loopg [16] kj37 (fun kq v16 w' => ∃ (x16_5 : Int), v16 = .int .i64 x16_5 ∧ Aside0 (worldmintlaw27_BidsApart.l3 kq t436 t439 t444 (wrap64 (x10_2 + ((rd_L1 t439 x13_2).length : Int))) x11_37 x13_2 x16_5 = some r) ∧ Aside0 (kq ≤ kj37) ∧ Aside0 (Kd.N k38 38 w' w.heap.size (fun k_ => some k_ ≠ ((.slice (some ad449) t439.length co23) : Value).ownBlock ∧ some k_ ≠ ((.slice Ao39 t444.length co39) : Value).ownBlock) (.slice Ao14 t436.length co14) t436) ∧ Aside0 (Kd.N (Kd.slice 3 (Kd.int .i64)) 22 w' w.heap.size (fun k_ => some k_ ≠ ((.slice Ao14 t436.length co14) : Value).ownBlock ∧ some k_ ≠ ((.slice Ao39 t444.length co39) : Value).ownBlock) (.slice (some ad449) t439.length co23) t439) ∧ Aside0 (Kd.R (Kd.int .i64) 3 w' w.heap.size (fun _ => True) (.slice Ao39 t444.length co39) t444) ∧ Aside0 (Below w.heap.size w w'))
             case atStart => exact ⟨(0), (by first | rfl | (simp; done) | (simp [*]; done)), H', ⟨Nat.le_refl _⟩, ⟨by (with_reducible repeat (first | apply Kd.N_alloc | apply Kd.N_drewN | apply Kd.N_drew)); exact HO_7.out⟩, ⟨by (with_reducible repeat (first | apply Kd.N_alloc | apply Kd.N_drewN | apply Kd.N_drew)); exact HO_8.out⟩, ⟨by (with_reducible repeat (first | apply Kd.R_alloc | apply Kd.R_drewN | apply Kd.R_drew)); exact HO_9.out⟩, ⟨by repeat (first | (with_reducible first | exact HB.out | apply below_alloc | apply pw_below_drewN | apply below_drew1) | exact HB.out)⟩⟩
             case round =>
              clear H'
              try clear c1
              try clear c2
              try clear p2
              try clear c3
              try clear c4
              try clear p4
              try clear q4
              try clear hx4
              try clear p6
              try clear c8
              try clear c10
              try clear c11
              try clear c13
              try clear c15
              try clear c17
              try clear c17b0
              try clear c18
              try clear c18b0
              try clear c20
              try clear c24
              try clear c24b0
              try clear c25
              try clear c25b0
              try clear c26
              try clear c26b0
              try clear c27
              try clear c27b0
              try clear c28
              try clear c28b0
              try clear c29
              try clear c29b0
              try clear c31
              try clear c32
              try clear c40
              try clear hx447_0
              try clear hx449_0
              try clear hx450_0
              try clear hx451_0
              try clear hx453_0
              try clear p2
              try clear p4
              try clear p447
              try clear p449
              try clear p450
              try clear p451
              try clear p453
              try clear p6
              try clear q4
              try clear q447
              try clear q449
              try clear q450
              try clear q451
              try clear q453
              obtain ⟨x16_5, rfl, HA, HK5, HO_7, HO_8, HO_9, HB⟩ := hrel
              cases gk with
              | zero => exact absurd HA.out (by simp [worldmintlaw27_BidsApart.l3])
              | succ k5 =>
               have H := HA.out
               clear HA
               simp only [worldmintlaw27_BidsApart.l3] at H
               by_cases c44 : x16_5 < (t439.length : Int)
               ·rw [if_pos c44] at H
                have c44b0 : decide (x16_5 < (t439.length : Int)) = true := decide_eq_true c44
                clear c44
                by_cases c45 : x16_5 = x13_2
                ·rw [if_pos c45] at H
                 have c45b0 : (x16_5 == x13_2) = true := beq_iff_eq.mpr c45
                 have c45b1 : (x16_5 != x13_2) = false := bne_eq_false_iff_eq.mpr c45
                 clear c45
                 have H' := Aside0.mk H
                 clear H
                 try go_wp2
                 have n0_ := Aside0.mk (Kd.N_drew HO_7.out)
                 have n1_ := Aside0.mk (Kd.N_drew HO_8.out)
                 have n2_ := Aside0.mk (Kd.R_drew HO_9.out)
                 have n3_ := Aside0.mk (below_drew1 HB.out)
                 clear HO_7
                 clear HO_8
                 clear HO_9
                 clear HB
                 have HO_7 := n0_
                 have HO_8 := n1_
                 have HO_9 := n2_
                 have HB := n3_
                 clear n0_ n1_ n2_ n3_
                 refine start_ (n := 15) (S := fun w' => True) (ds := []) #[false, false, false, false, false, false, false, false, false, false, false, false, false, false, false] (by kernel_rfl) rfl rfl trivial (fun hHeld => ?_); refine with_tabW worldmintlaw27_BidsApart.tab25 worldmintlaw27_BidsApart.bits25 (fun HT_ HW_ => ?_)
                 generalize wr.drew = w46 at HO_7 HO_8 HO_9 HB hHeld ⊢
                 refine pure_ (i := 0) (N := some 98) (v := ?_) (a' := ?_) #[true, false, false, false, false, false, false, false, false, false, false, false, false, false, false] rfl rfl (any_of HT_.out (by kernel_rfl)) (fun _ _ _ h => h) (Or.inl ⟨by rfl, ?_⟩) ?_ ?_
                 rotate_left
                 ·intro w'
                  go_simp
                  with_reducible rfl
                 rotate_left
                 ·simp only [Act.put, List.setIfInBounds_toArray, List.set_cons_zero, List.set_cons_succ, i64_w, i32_w]
                  rfl
                 refine pure_ (i := 1) (N := some 99) (v := ?_) (a' := ?_) #[true, true, false, false, false, false, false, false, false, false, false, false, false, false, false] rfl rfl (any_of HT_.out (by kernel_rfl)) (fun _ _ _ h => h) (Or.inl ⟨by rfl, ?_⟩) ?_ ?_
                 rotate_left
                 ·intro w'
                  go_simp
                  with_reducible rfl
                 rotate_left
                 ·simp only [Act.put, List.setIfInBounds_toArray, List.set_cons_zero, List.set_cons_succ, i64_w, i32_w]
                  rfl
                 refine pure_ (i := 2) (N := some 100) (v := ?_) (a' := ?_) #[true, true, true, false, false, false, false, false, false, false, false, false, false, false, false] rfl rfl (any_of HT_.out (by kernel_rfl)) (fun _ _ _ h => h) (Or.inl ⟨by rfl, ?_⟩) ?_ ?_
                 rotate_left
                 ·intro w'
                  go_simp
                  with_reducible rfl
                 rotate_left
                 ·simp only [Act.put, List.setIfInBounds_toArray, List.set_cons_zero, List.set_cons_succ, i64_w, i32_w]
                  rfl
                 refine pure_ (i := 3) (N := some 101) (v := ?_) (a' := ?_) #[true, true, true, true, false, false, false, false, false, false, false, false, false, false, false] rfl rfl (any_of HT_.out (by kernel_rfl)) (fun _ _ _ h => h) (Or.inl ⟨by rfl, ?_⟩) ?_ ?_
                 rotate_left
                 ·intro w'
                  go_simp
                  with_reducible rfl
                 rotate_left
                 ·simp only [Act.put, List.setIfInBounds_toArray, List.set_cons_zero, List.set_cons_succ, i64_w, i32_w]
                  rfl
                 refine pure_ (i := 4) (N := some 102) (v := undef) (a' := ?_) #[true, true, true, true, true, false, false, false, false, false, false, false, false, false, false] rfl rfl (any_of HT_.out (by kernel_rfl)) (fun _ _ _ h => h) (Or.inr ⟨by rfl, rfl⟩) ?_ ?_
                 rotate_left
                 ·simp only [Act.put, List.setIfInBounds_toArray, List.set_cons_zero, List.set_cons_succ, i64_w, i32_w]
                  rfl
                 refine pure_ (i := 5) (N := some 103) (v := undef) (a' := ?_) #[true, true, true, true, true, true, false, false, false, false, false, false, false, false, false] rfl rfl (any_of HT_.out (by kernel_rfl)) (fun _ _ _ h => h) (Or.inr ⟨by rfl, rfl⟩) ?_ ?_
                 rotate_left
                 ·simp only [Act.put, List.setIfInBounds_toArray, List.set_cons_zero, List.set_cons_succ, i64_w, i32_w]
                  rfl
                 refine pure_ (i := 6) (N := some 104) (v := undef) (a' := ?_) #[true, true, true, true, true, true, true, false, false, false, false, false, false, false, false] rfl rfl (any_of HT_.out (by kernel_rfl)) (fun _ _ _ h => h) (Or.inr ⟨by rfl, rfl⟩) ?_ ?_
                 rotate_left
                 ·simp only [Act.put, List.setIfInBounds_toArray, List.set_cons_zero, List.set_cons_succ, i64_w, i32_w]
                  rfl
                 refine pure_ (i := 7) (N := some 105) (v := undef) (a' := ?_) #[true, true, true, true, true, true, true, true, false, false, false, false, false, false, false] rfl rfl (any_of HT_.out (by kernel_rfl)) (fun _ _ _ h => h) (Or.inr ⟨by rfl, rfl⟩) ?_ ?_
                 rotate_left
                 ·simp only [Act.put, List.setIfInBounds_toArray, List.set_cons_zero, List.set_cons_succ, i64_w, i32_w]
                  rfl
                 refine pure_ (i := 8) (N := some 106) (v := undef) (a' := ?_) #[true, true, true, true, true, true, true, true, true, false, false, false, false, false, false] rfl rfl (any_of HT_.out (by kernel_rfl)) (fun _ _ _ h => h) (Or.inr ⟨by rfl, rfl⟩) ?_ ?_
                 rotate_left
                 ·simp only [Act.put, List.setIfInBounds_toArray, List.set_cons_zero, List.set_cons_succ, i64_w, i32_w]
                  rfl
                 refine pure_ (i := 9) (N := some 107) (v := undef) (a' := ?_) #[true, true, true, true, true, true, true, true, true, true, false, false, false, false, false] rfl rfl (any_of HT_.out (by kernel_rfl)) (fun _ _ _ h => h) (Or.inr ⟨by rfl, rfl⟩) ?_ ?_
                 rotate_left
                 ·simp only [Act.put, List.setIfInBounds_toArray, List.set_cons_zero, List.set_cons_succ, i64_w, i32_w]
                  rfl
                 refine pure_ (i := 10) (N := some 108) (v := undef) (a' := ?_) #[true, true, true, true, true, true, true, true, true, true, true, false, false, false, false] rfl rfl (any_of HT_.out (by kernel_rfl)) (fun _ _ _ h => h) (Or.inr ⟨by rfl, rfl⟩) ?_ ?_
                 rotate_left
                 ·simp only [Act.put, List.setIfInBounds_toArray, List.set_cons_zero, List.set_cons_succ, i64_w, i32_w]
                  rfl
                 refine pure_ (i := 11) (N := some 109) (v := undef) (a' := ?_) #[true, true, true, true, true, true, true, true, true, true, true, true, false, false, false] rfl rfl (any_of HT_.out (by kernel_rfl)) (fun _ _ _ h => h) (Or.inr ⟨by rfl, rfl⟩) ?_ ?_
                 rotate_left
                 ·simp only [Act.put, List.setIfInBounds_toArray, List.set_cons_zero, List.set_cons_succ, i64_w, i32_w]
                  rfl
                 refine pure_ (i := 12) (N := some 110) (v := undef) (a' := ?_) #[true, true, true, true, true, true, true, true, true, true, true, true, true, false, false] rfl rfl (any_of HT_.out (by kernel_rfl)) (fun _ _ _ h => h) (Or.inr ⟨by rfl, rfl⟩) ?_ ?_
                 rotate_left
                 ·simp only [Act.put, List.setIfInBounds_toArray, List.set_cons_zero, List.set_cons_succ, i64_w, i32_w]
                  rfl
                 refine pure_ (i := 13) (N := some 111) (v := undef) (a' := ?_) #[true, true, true, true, true, true, true, true, true, true, true, true, true, true, false] rfl rfl (any_of HT_.out (by kernel_rfl)) (fun _ _ _ h => h) (Or.inr ⟨by rfl, rfl⟩) ?_ ?_
                 rotate_left
                 ·simp only [Act.put, List.setIfInBounds_toArray, List.set_cons_zero, List.set_cons_succ, i64_w, i32_w]
                  rfl
                 refine pure_ (i := 14) (N := some 112) (v := ?_) (a' := ?_) #[true, true, true, true, true, true, true, true, true, true, true, true, true, true, true] rfl rfl (any_of HT_.out (by kernel_rfl)) (fun _ _ _ h => h) (Or.inl ⟨by rfl, ?_⟩) ?_ ?_
                 rotate_left
                 ·intro w'
                  go_simp
                  with_reducible rfl
                 rotate_left
                 ·simp only [Act.put, List.setIfInBounds_toArray, List.set_cons_zero, List.set_cons_succ, i64_w, i32_w]
                  rfl
                 refine done_ (done_of HT_.out (by kernel_rfl)) ?_
                 try go_wp2
                 go_roundg k5
                 case measure => have := HK1.out; have := HK2.out; have := HK3.out; have := HJ37.out; have := HK5.out; omega
                 case rel => exact ⟨(wrap64 (x16_5 + 1)), (by first | rfl | (simp; done) | (simp [*]; done)), H', ⟨by have := HK1.out; have := HK2.out; have := HK3.out; have := HJ37.out; have := HK5.out; omega⟩, ⟨by (with_reducible repeat (first | apply Kd.N_alloc | apply Kd.N_drewN | apply Kd.N_drew)); exact HO_7.out⟩, ⟨by (with_reducible repeat (first | apply Kd.N_alloc | apply Kd.N_drewN | apply Kd.N_drew)); exact HO_8.out⟩, ⟨by (with_reducible repeat (first | apply Kd.R_alloc | apply Kd.R_drewN | apply Kd.R_drew)); exact HO_9.out⟩, ⟨by repeat (first | (with_reducible first | exact HB.out | apply below_alloc | apply pw_below_drewN | apply below_drew1) | exact HB.out)⟩⟩
                ·rw [if_neg c45] at H
                 have c45b0 : (x16_5 == x13_2) = false := beq_eq_false_iff_ne.mpr c45
                 have c45b1 : (x16_5 != x13_2) = true := bne_iff_ne.mpr c45
                 by_cases c47 : 0 ≤ x13_2
                 ·rw [if_pos c47] at H
                  have c47b0 : decide (0 ≤ x13_2) = true := decide_eq_true c47
                  clear c47
                  by_cases c48 : x13_2 < (t439.length : Int)
                  ·rw [if_pos c48] at H
                   have c48b0 : decide (x13_2 < (t439.length : Int)) = true := decide_eq_true c48
                   clear c48
                   by_cases c49 : 0 ≤ x16_5
                   ·rw [if_pos c49] at H
                    have c49b0 : decide (0 ≤ x16_5) = true := decide_eq_true c49
                    clear c49
                    replace H := Option.bind_eq_some_iff.mp H
                    obtain ⟨t460, A500, H⟩ := H
                    replace H : (if t460 = true then (some false) else (worldmintlaw27_BidsApart.l3 k5 t436 t439 t444 (wrap64 (x10_2 + ((rd_L1 t439 x13_2).length : Int))) x11_37 x13_2 (wrap64 (x16_5 + 1)))) = some r := H
                    have A50 := Aside0.mk A500
                    clear A500
                    by_cases c51 : t460 = true
                    ·subst c51
                     have H1 : (some false) = some r := by rw [if_pos rfl] at H; exact H
                     clear H
                     have H := H1
                     clear H1
                     obtain rfl := Option.some.inj H
                     try go_wp2
                     have n0_ := Aside0.mk (Kd.N_drew HO_7.out)
                     have n1_ := Aside0.mk (Kd.N_drew HO_8.out)
                     have n2_ := Aside0.mk (Kd.R_drew HO_9.out)
                     have n3_ := Aside0.mk (below_drew1 HB.out)
                     clear HO_7
                     clear HO_8
                     clear HO_9
                     clear HB
                     have HO_7 := n0_
                     have HO_8 := n1_
                     have HO_9 := n2_
                     have HB := n3_
                     clear n0_ n1_ n2_ n3_
                     have p458 : 0 ≤ (x13_2 : Int) := of_decide_eq_true (by first | (with_reducible assumption) | assumption)
                     have q458 : x13_2 < (t439.length : Int) := of_decide_eq_true (by first | (with_reducible assumption) | assumption)
                     obtain ⟨ad458, A458_0, c458_0, e458, hx458_0, hl458_0, hi458_0⟩ := at_L1 (Kd.N_reads' HO_8.out).2.2 x13_2 p458 q458
                     obtain rfl : ad449 = ad458 := (by injection e458)
                     obtain ⟨ce458, hce458, hMe458, hcc458⟩ := Kd.N_get HO_8.out [] x13_2 p458 (by first | exact q458 | exact of_decide_eq_true (by first | (with_reducible assumption) | assumption) | (have e_ := (Kd.N_reads' HO_8.out).1; omega))
                     obtain ⟨ua458_0, uc458_0, rfl, ul458_0, ge458_0⟩ := Kd.FK_slice_open hMe458
                     have hv458_0 := hcc458 0 _ rfl
                     rw [Nat.add_zero, show ((Kd.slice 3 (Kd.int .i64))).sz = 1 from rfl, Nat.mul_one] at hv458_0
                     replace hv458_0 := Option.some.inj (hv458_0.symm.trans hx458_0)
                     injection hv458_0 with hva_ hvn_ hvc_
                     rw [hva_] at ge458_0
                     rw [hvc_] at ul458_0
                     have HL458_0 := Aside0.mk (show Kd.V (Kd.int .i64) 3 _ w.heap.size _ _ (rd_L1 t439 x13_2) from Kd.V_mk ul458_0 ge458_0)
                     clear hva_ hvn_ hvc_ ge458_0 ul458_0
                     clear hcc458 hce458
                     have HR458_0 := Aside0.mk hi458_0
                     have HC458_0 := Aside0.mk hl458_0
                     clear hi458_0 hl458_0
                     replace p458 := eq_true p458
                     replace q458 := eq_true q458
                     have p459 : 0 ≤ (x16_5 : Int) := of_decide_eq_true (by first | (with_reducible assumption) | assumption)
                     have q459 : x16_5 < (t439.length : Int) := of_decide_eq_true (by first | (with_reducible assumption) | assumption)
                     obtain ⟨ad459, A459_0, c459_0, e459, hx459_0, hl459_0, hi459_0⟩ := at_L1 (Kd.N_reads' HO_8.out).2.2 x16_5 p459 q459
                     obtain rfl : ad449 = ad459 := (by injection e459)
                     obtain ⟨ce459, hce459, hMe459, hcc459⟩ := Kd.N_get HO_8.out [] x16_5 p459 (by first | exact q459 | exact of_decide_eq_true (by first | (with_reducible assumption) | assumption) | (have e_ := (Kd.N_reads' HO_8.out).1; omega))
                     obtain ⟨ua459_0, uc459_0, rfl, ul459_0, ge459_0⟩ := Kd.FK_slice_open hMe459
                     have hv459_0 := hcc459 0 _ rfl
                     rw [Nat.add_zero, show ((Kd.slice 3 (Kd.int .i64))).sz = 1 from rfl, Nat.mul_one] at hv459_0
                     replace hv459_0 := Option.some.inj (hv459_0.symm.trans hx459_0)
                     injection hv459_0 with hva_ hvn_ hvc_
                     rw [hva_] at ge459_0
                     rw [hvc_] at ul459_0
                     have HL459_0 := Aside0.mk (show Kd.V (Kd.int .i64) 3 _ w.heap.size _ _ (rd_L1 t439 x16_5) from Kd.V_mk ul459_0 ge459_0)
                     clear hva_ hvn_ hvc_ ge459_0 ul459_0
                     clear hcc459 hce459
                     have HR459_0 := Aside0.mk hi459_0
                     have HC459_0 := Aside0.mk hl459_0
                     clear hi459_0 hl459_0
                     replace p459 := eq_true p459
                     replace q459 := eq_true q459
                     refine start_ (n := 15) (S := fun w' => w'.cell? (ad449.add (x13_2).toNat) = some (.slice A458_0 (rd_L1 t439 x13_2).length c458_0) ∧ w'.cell? (ad449.add (x16_5).toNat) = some (.slice A459_0 (rd_L1 t439 x16_5).length c459_0)) (ds := []) #[false, false, false, false, false, false, false, false, false, false, false, false, false, false, false] (by kernel_rfl) rfl rfl ⟨hx458_0, hx459_0⟩ (fun hHeld => ?_); refine with_tabW worldmintlaw27_BidsApart.tab25 worldmintlaw27_BidsApart.bits25 (fun HT_ HW_ => ?_)
                     generalize wr.drew = w52 at HO_7 HO_8 HO_9 HB HL458_0 HL459_0 HR458_0 HR459_0 hx458_0 hx459_0 hHeld ⊢
                     refine pure_ (i := 0) (N := some 98) (v := ?_) (a' := ?_) #[true, false, false, false, false, false, false, false, false, false, false, false, false, false, false] rfl rfl (any_of HT_.out (by kernel_rfl)) (fun _ _ _ h => h) (Or.inl ⟨by rfl, ?_⟩) ?_ ?_
                     rotate_left
                     ·intro w'
                      go_simp
                      with_reducible rfl
                     rotate_left
                     ·simp only [Act.put, List.setIfInBounds_toArray, List.set_cons_zero, List.set_cons_succ, i64_w, i32_w]
                      rfl
                     refine pure_ (i := 1) (N := some 99) (v := ?_) (a' := ?_) #[true, true, false, false, false, false, false, false, false, false, false, false, false, false, false] rfl rfl (any_of HT_.out (by kernel_rfl)) (fun _ _ _ h => h) (Or.inl ⟨by rfl, ?_⟩) ?_ ?_
                     rotate_left
                     ·intro w'
                      go_simp
                      with_reducible rfl
                     rotate_left
                     ·simp only [Act.put, List.setIfInBounds_toArray, List.set_cons_zero, List.set_cons_succ, i64_w, i32_w]
                      rfl
                     refine pure_ (i := 2) (N := some 100) (v := ?_) (a' := ?_) #[true, true, true, false, false, false, false, false, false, false, false, false, false, false, false] rfl rfl (any_of HT_.out (by kernel_rfl)) (fun _ _ _ h => h) (Or.inl ⟨by rfl, ?_⟩) ?_ ?_
                     rotate_left
                     ·intro w'
                      go_simp
                      with_reducible rfl
                     rotate_left
                     ·simp only [Act.put, List.setIfInBounds_toArray, List.set_cons_zero, List.set_cons_succ, i64_w, i32_w]
                      rfl
                     refine pure_ (i := 3) (N := some 101) (v := ?_) (a' := ?_) #[true, true, true, true, false, false, false, false, false, false, false, false, false, false, false] rfl rfl (any_of HT_.out (by kernel_rfl)) (fun _ _ _ h => h) (Or.inl ⟨by rfl, ?_⟩) ?_ ?_
                     rotate_left
                     ·intro w'
                      go_simp
                      with_reducible rfl
                     rotate_left
                     ·simp only [Act.put, List.setIfInBounds_toArray, List.set_cons_zero, List.set_cons_succ, i64_w, i32_w]
                      rfl
                     refine pure_ (i := 4) (N := some 102) (v := ?_) (a' := ?_) #[true, true, true, true, true, false, false, false, false, false, false, false, false, false, false] rfl rfl (any_of HT_.out (by kernel_rfl)) (fun _ _ _ h => h) (Or.inl ⟨by rfl, ?_⟩) ?_ ?_
                     rotate_left
                     ·intro w'
                      go_simp
                      with_reducible rfl
                     rotate_left
                     ·simp only [Act.put, List.setIfInBounds_toArray, List.set_cons_zero, List.set_cons_succ, i64_w, i32_w]
                      rfl
                     refine pure_ (i := 5) (N := some 103) (v := ?_) (a' := ?_) #[true, true, true, true, true, true, false, false, false, false, false, false, false, false, false] rfl rfl (any_of HT_.out (by kernel_rfl)) (fun _ _ _ h => h) (Or.inl ⟨by rfl, ?_⟩) ?_ ?_
                     rotate_left
                     ·intro w'
                      go_simp
                      with_reducible rfl
                     rotate_left
                     ·simp only [Act.put, List.setIfInBounds_toArray, List.set_cons_zero, List.set_cons_succ, i64_w, i32_w]
                      rfl
                     refine pure_ (i := 6) (N := some 104) (v := ?_) (a' := ?_) #[true, true, true, true, true, true, true, false, false, false, false, false, false, false, false] rfl rfl (any_of HT_.out (by kernel_rfl)) (fun _ _ _ h => h) (Or.inl ⟨by rfl, ?_⟩) ?_ ?_
                     rotate_left
                     ·intro w'
                      go_simp
                      with_reducible rfl
                     rotate_left
                     ·simp only [Act.put, List.setIfInBounds_toArray, List.set_cons_zero, List.set_cons_succ, i64_w, i32_w]
                      rfl
                     refine pure_ (i := 7) (N := some 105) (v := ?_) (a' := ?_) #[true, true, true, true, true, true, true, true, false, false, false, false, false, false, false] rfl rfl (any_of HT_.out (by kernel_rfl)) (fun _ _ _ h => h) (Or.inl ⟨by rfl, ?_⟩) ?_ ?_
                     rotate_left
                     ·intro w'
                      go_simp
                      with_reducible rfl
                     rotate_left
                     ·simp only [Act.put, List.setIfInBounds_toArray, List.set_cons_zero, List.set_cons_succ, i64_w, i32_w]
                      rfl
                     refine pure_ (i := 9) (N := some 107) (v := ?_) (a' := ?_) #[true, true, true, true, true, true, true, true, false, true, false, false, false, false, false] rfl rfl (any_of HT_.out (by kernel_rfl)) (fun _ _ _ h => h) (Or.inl ⟨by rfl, ?_⟩) ?_ ?_
                     rotate_left
                     ·intro w'
                      go_simp
                      with_reducible rfl
                     rotate_left
                     ·simp only [Act.put, List.setIfInBounds_toArray, List.set_cons_zero, List.set_cons_succ, i64_w, i32_w]
                      rfl
                     refine pure_ (i := 10) (N := some 108) (v := ?_) (a' := ?_) #[true, true, true, true, true, true, true, true, false, true, true, false, false, false, false] rfl rfl (any_of HT_.out (by kernel_rfl)) (fun _ _ _ h => h) (Or.inl ⟨by rfl, ?_⟩) ?_ ?_
                     rotate_left
                     ·intro w'
                      go_simp
                      with_reducible rfl
                     rotate_left
                     ·simp only [Act.put, List.setIfInBounds_toArray, List.set_cons_zero, List.set_cons_succ, i64_w, i32_w]
                      rfl
                     refine pure_ (i := 11) (N := some 109) (v := ?_) (a' := ?_) #[true, true, true, true, true, true, true, true, false, true, true, true, false, false, false] rfl rfl (any_of HT_.out (by kernel_rfl)) (fun _ _ _ h => h) (Or.inl ⟨by rfl, ?_⟩) ?_ ?_
                     rotate_left
                     ·intro w'
                      go_simp
                      with_reducible rfl
                     rotate_left
                     ·simp only [Act.put, List.setIfInBounds_toArray, List.set_cons_zero, List.set_cons_succ, i64_w, i32_w]
                      rfl
                     refine take_ (i := 8) (N := some 106) (v := ?_) (a' := ?_) #[true, true, true, true, true, true, true, true, true, true, true, true, false, false, false] rfl rfl (take_ofW HT_.out HW_.out (by kernel_rfl)) (fun _ _ _ h => h) (Or.inl ⟨by rfl, ?_⟩) hHeld ?_ ?_
                     rotate_left
                     ·rintro w' ⟨s0, s1⟩
                      go_simp
                      with_reducible rfl
                     rotate_left
                     ·simp only [Act.put, List.setIfInBounds_toArray, List.set_cons_zero, List.set_cons_succ, i64_w, i32_w]
                      rfl
                     refine take_ (i := 12) (N := some 110) (v := ?_) (a' := ?_) #[true, true, true, true, true, true, true, true, true, true, true, true, true, false, false] rfl rfl (take_ofW HT_.out HW_.out (by kernel_rfl)) (fun _ _ _ h => h) (Or.inl ⟨by rfl, ?_⟩) hHeld ?_ ?_
                     rotate_left
                     ·rintro w' ⟨s0, s1⟩
                      go_simp
                      with_reducible rfl
                     rotate_left
                     ·simp only [Act.put, List.setIfInBounds_toArray, List.set_cons_zero, List.set_cons_succ, i64_w, i32_w]
                      rfl
                     refine one_ (i := 13) (N := some 111) #[true, true, true, true, true, true, true, true, true, true, true, true, true, true, false] rfl rfl (one_of HT_.out (by kernel_rfl)) (by decide) (fun K hK => ?_)
                     refine goes_ Try.func35 (by kernel_rfl) rfl #[.slice Ao14 t436.length co14, .slice A458_0 (rd_L1 t439 x13_2).length c458_0, .slice A459_0 (rd_L1 t439 x16_5).length c459_0] (by rfl) rfl rfl (by (try simp only [List.map_toArray, List.map_cons, List.map_nil]); first | done | rfl | (simp only [List.length_drop, List.length_take]; rfl)) ?_
                     with_reducible refine (worldmintlaw27_touch.calls k5 _ _ t436 _ _ (rd_L1 t439 x13_2) _ _ (rd_L1 t439 x16_5) true _ ?side1 ?side2 ?side3 ?side4 ?side5 ?side6 A50.out).mono ?_
                     (case side1 => repeat (first | exact (Kd.N_reads' HO_7.out).2.2 | (with_reducible refine Kd.C_alloc ?_ _) | (with_reducible refine Kd.C_drewN ?_ _) | (with_reducible refine Kd.C_drew ?_)))
                     (case side2 => exact (Kd.N_reads' HO_7.out).2.1)
                     (case side3 => repeat (first | exact (by first | (with_reducible exact HR458_0.out) | (with_reducible exact Kd.C_drewN HR458_0.out _)) | (with_reducible refine Kd.C_alloc ?_ _) | (with_reducible refine Kd.C_drewN ?_ _) | (with_reducible refine Kd.C_drew ?_)))
                     (case side4 => exact HC458_0.out)
                     (case side5 => repeat (first | exact (by first | (with_reducible exact HR459_0.out) | (with_reducible exact Kd.C_drewN HR459_0.out _)) | (with_reducible refine Kd.C_alloc ?_ _) | (with_reducible refine Kd.C_drewN ?_ _) | (with_reducible refine Kd.C_drew ?_)))
                     (case side6 => exact HC459_0.out)
                     rintro e w53 ⟨rfl, hb⟩
                     have HS0_ := (hb.cell (World.block_lt_of_cell? _ _ (hHeld.1))).trans (hHeld.1)
                     have HS1_ := (hb.cell (World.block_lt_of_cell? _ _ (hHeld.2))).trans (hHeld.2)
                     refine ⟨_, rfl, ?_⟩
                     have n0_ := Aside0.mk (Kd.N_below (by (with_reducible repeat (first | apply Kd.N_alloc | apply Kd.N_drewN | apply Kd.N_drew)); exact HO_7.out) hb)
                     have n1_ := Aside0.mk (Kd.N_below (by (with_reducible repeat (first | apply Kd.N_alloc | apply Kd.N_drewN | apply Kd.N_drew)); exact HO_8.out) hb)
                     have n2_ := Aside0.mk (Kd.R_below (by (with_reducible repeat (first | apply Kd.R_alloc | apply Kd.R_drewN | apply Kd.R_drew)); exact HO_9.out) hb)
                     have n3_ := Aside0.mk (Kd.V_below (by (with_reducible repeat (first | apply Kd.V_alloc | apply Kd.V_drewN | apply Kd.V_drew)); exact HL458_0.out) hb)
                     have n4_ := Aside0.mk (Kd.V_below (by (with_reducible repeat (first | apply Kd.V_alloc | apply Kd.V_drewN | apply Kd.V_drew)); exact HL459_0.out) hb)
                     have n5_ := Aside0.mk (Kd.C_below (by first | (with_reducible exact HR458_0.out) | (with_reducible exact Kd.C_drewN HR458_0.out _)) hb)
                     have n6_ := Aside0.mk (Kd.C_below (by first | (with_reducible exact HR459_0.out) | (with_reducible exact Kd.C_drewN HR459_0.out _)) hb)
                     have n7_ := Aside0.mk (below_step (by repeat (first | (with_reducible first | exact HB.out | apply below_alloc | apply pw_below_drewN | apply below_drew1) | exact HB.out)) hb)
                     clear HO_7
                     clear HO_8
                     clear HO_9
                     clear HL458_0
                     clear HL459_0
                     clear HR458_0
                     clear HR459_0
                     clear HB
                     have HO_7 := n0_
                     have HO_8 := n1_
                     have HO_9 := n2_
                     have HL458_0 := n3_
                     have HL459_0 := n4_
                     have HR458_0 := n5_
                     have HR459_0 := n6_
                     have HB := n7_
                     clear n0_ n1_ n2_ n3_ n4_ n5_ n6_ n7_
                     (try clear hb)
                     (try clear hb2)
                     (try clear hk)
                     (try clear hi)
                     refine hK.out _ _ ⟨HS0_, HS1_⟩ (fun hHeld => ?_)
                     clear hK K
                     refine norm_ (a' := ?_) ?_ ?_
                     rotate_left
                     ·show Act.put _ (some 111) _ = _
                      simp only [Act.put, List.setIfInBounds_toArray, List.set_cons_zero, List.set_cons_succ, i64_w, i32_w]
                      rfl
                     refine pure_ (i := 14) (N := some 112) (v := ?_) (a' := ?_) #[true, true, true, true, true, true, true, true, true, true, true, true, true, true, true] rfl rfl (any_of HT_.out (by kernel_rfl)) (fun _ _ _ h => h) (Or.inl ⟨by rfl, ?_⟩) ?_ ?_
                     rotate_left
                     ·intro w'
                      go_simp
                      with_reducible rfl
                     rotate_left
                     ·simp only [Act.put, List.setIfInBounds_toArray, List.set_cons_zero, List.set_cons_succ, i64_w, i32_w]
                      rfl
                     refine done_ (done_of HT_.out (by kernel_rfl)) ?_
                     try go_wp2
                     go_ret
                     exact ⟨by first | rfl | (simp [errW_none, errW_some] <;> rfl) | (simp [*, errW_none, errW_some] <;> rfl), by repeat (first | (with_reducible first | exact HB.out | apply below_alloc | apply pw_below_drewN | apply below_drew1) | exact HB.out)⟩
                    ·replace c51 := Bool.eq_false_iff.mpr c51
                     subst c51
                     have H1 : (worldmintlaw27_BidsApart.l3 k5 t436 t439 t444 (wrap64 (x10_2 + ((rd_L1 t439 x13_2).length : Int))) x11_37 x13_2 (wrap64 (x16_5 + 1))) = some r := by rw [if_neg (show ¬ (false = true) by decide)] at H; exact H
                     clear H
                     have H := H1
                     clear H1
                     have H' := Aside0.mk H
                     clear H
                     try go_wp2
                     have n0_ := Aside0.mk (Kd.N_drew HO_7.out)
                     have n1_ := Aside0.mk (Kd.N_drew HO_8.out)
                     have n2_ := Aside0.mk (Kd.R_drew HO_9.out)
                     have n3_ := Aside0.mk (below_drew1 HB.out)
                     clear HO_7
                     clear HO_8
                     clear HO_9
                     clear HB
                     have HO_7 := n0_
                     have HO_8 := n1_
                     have HO_9 := n2_
                     have HB := n3_
                     clear n0_ n1_ n2_ n3_
                     have p458 : 0 ≤ (x13_2 : Int) := of_decide_eq_true (by first | (with_reducible assumption) | assumption)
                     have q458 : x13_2 < (t439.length : Int) := of_decide_eq_true (by first | (with_reducible assumption) | assumption)
                     obtain ⟨ad458, A458_0, c458_0, e458, hx458_0, hl458_0, hi458_0⟩ := at_L1 (Kd.N_reads' HO_8.out).2.2 x13_2 p458 q458
                     obtain rfl : ad449 = ad458 := (by injection e458)
                     obtain ⟨ce458, hce458, hMe458, hcc458⟩ := Kd.N_get HO_8.out [] x13_2 p458 (by first | exact q458 | exact of_decide_eq_true (by first | (with_reducible assumption) | assumption) | (have e_ := (Kd.N_reads' HO_8.out).1; omega))
                     obtain ⟨ua458_0, uc458_0, rfl, ul458_0, ge458_0⟩ := Kd.FK_slice_open hMe458
                     have hv458_0 := hcc458 0 _ rfl
                     rw [Nat.add_zero, show ((Kd.slice 3 (Kd.int .i64))).sz = 1 from rfl, Nat.mul_one] at hv458_0
                     replace hv458_0 := Option.some.inj (hv458_0.symm.trans hx458_0)
                     injection hv458_0 with hva_ hvn_ hvc_
                     rw [hva_] at ge458_0
                     rw [hvc_] at ul458_0
                     have HL458_0 := Aside0.mk (show Kd.V (Kd.int .i64) 3 _ w.heap.size _ _ (rd_L1 t439 x13_2) from Kd.V_mk ul458_0 ge458_0)
                     clear hva_ hvn_ hvc_ ge458_0 ul458_0
                     clear hcc458 hce458
                     have HR458_0 := Aside0.mk hi458_0
                     have HC458_0 := Aside0.mk hl458_0
                     clear hi458_0 hl458_0
                     replace p458 := eq_true p458
                     replace q458 := eq_true q458
                     have p459 : 0 ≤ (x16_5 : Int) := of_decide_eq_true (by first | (with_reducible assumption) | assumption)
                     have q459 : x16_5 < (t439.length : Int) := of_decide_eq_true (by first | (with_reducible assumption) | assumption)
                     obtain ⟨ad459, A459_0, c459_0, e459, hx459_0, hl459_0, hi459_0⟩ := at_L1 (Kd.N_reads' HO_8.out).2.2 x16_5 p459 q459
                     obtain rfl : ad449 = ad459 := (by injection e459)
                     obtain ⟨ce459, hce459, hMe459, hcc459⟩ := Kd.N_get HO_8.out [] x16_5 p459 (by first | exact q459 | exact of_decide_eq_true (by first | (with_reducible assumption) | assumption) | (have e_ := (Kd.N_reads' HO_8.out).1; omega))
                     obtain ⟨ua459_0, uc459_0, rfl, ul459_0, ge459_0⟩ := Kd.FK_slice_open hMe459
                     have hv459_0 := hcc459 0 _ rfl
                     rw [Nat.add_zero, show ((Kd.slice 3 (Kd.int .i64))).sz = 1 from rfl, Nat.mul_one] at hv459_0
                     replace hv459_0 := Option.some.inj (hv459_0.symm.trans hx459_0)
                     injection hv459_0 with hva_ hvn_ hvc_
                     rw [hva_] at ge459_0
                     rw [hvc_] at ul459_0
                     have HL459_0 := Aside0.mk (show Kd.V (Kd.int .i64) 3 _ w.heap.size _ _ (rd_L1 t439 x16_5) from Kd.V_mk ul459_0 ge459_0)
                     clear hva_ hvn_ hvc_ ge459_0 ul459_0
                     clear hcc459 hce459
                     have HR459_0 := Aside0.mk hi459_0
                     have HC459_0 := Aside0.mk hl459_0
                     clear hi459_0 hl459_0
                     replace p459 := eq_true p459
                     replace q459 := eq_true q459
                     refine start_ (n := 15) (S := fun w' => w'.cell? (ad449.add (x13_2).toNat) = some (.slice A458_0 (rd_L1 t439 x13_2).length c458_0) ∧ w'.cell? (ad449.add (x16_5).toNat) = some (.slice A459_0 (rd_L1 t439 x16_5).length c459_0)) (ds := []) #[false, false, false, false, false, false, false, false, false, false, false, false, false, false, false] (by kernel_rfl) rfl rfl ⟨hx458_0, hx459_0⟩ (fun hHeld => ?_); refine with_tabW worldmintlaw27_BidsApart.tab25 worldmintlaw27_BidsApart.bits25 (fun HT_ HW_ => ?_)
                     generalize wr.drew = w54 at HO_7 HO_8 HO_9 HB HL458_0 HL459_0 HR458_0 HR459_0 hx458_0 hx459_0 hHeld ⊢
                     refine pure_ (i := 0) (N := some 98) (v := ?_) (a' := ?_) #[true, false, false, false, false, false, false, false, false, false, false, false, false, false, false] rfl rfl (any_of HT_.out (by kernel_rfl)) (fun _ _ _ h => h) (Or.inl ⟨by rfl, ?_⟩) ?_ ?_
                     rotate_left
                     ·intro w'
                      go_simp
                      with_reducible rfl
                     rotate_left
                     ·simp only [Act.put, List.setIfInBounds_toArray, List.set_cons_zero, List.set_cons_succ, i64_w, i32_w]
                      rfl
                     refine pure_ (i := 1) (N := some 99) (v := ?_) (a' := ?_) #[true, true, false, false, false, false, false, false, false, false, false, false, false, false, false] rfl rfl (any_of HT_.out (by kernel_rfl)) (fun _ _ _ h => h) (Or.inl ⟨by rfl, ?_⟩) ?_ ?_
                     rotate_left
                     ·intro w'
                      go_simp
                      with_reducible rfl
                     rotate_left
                     ·simp only [Act.put, List.setIfInBounds_toArray, List.set_cons_zero, List.set_cons_succ, i64_w, i32_w]
                      rfl
                     refine pure_ (i := 2) (N := some 100) (v := ?_) (a' := ?_) #[true, true, true, false, false, false, false, false, false, false, false, false, false, false, false] rfl rfl (any_of HT_.out (by kernel_rfl)) (fun _ _ _ h => h) (Or.inl ⟨by rfl, ?_⟩) ?_ ?_
                     rotate_left
                     ·intro w'
                      go_simp
                      with_reducible rfl
                     rotate_left
                     ·simp only [Act.put, List.setIfInBounds_toArray, List.set_cons_zero, List.set_cons_succ, i64_w, i32_w]
                      rfl
                     refine pure_ (i := 3) (N := some 101) (v := ?_) (a' := ?_) #[true, true, true, true, false, false, false, false, false, false, false, false, false, false, false] rfl rfl (any_of HT_.out (by kernel_rfl)) (fun _ _ _ h => h) (Or.inl ⟨by rfl, ?_⟩) ?_ ?_
                     rotate_left
                     ·intro w'
                      go_simp
                      with_reducible rfl
                     rotate_left
                     ·simp only [Act.put, List.setIfInBounds_toArray, List.set_cons_zero, List.set_cons_succ, i64_w, i32_w]
                      rfl
                     refine pure_ (i := 4) (N := some 102) (v := ?_) (a' := ?_) #[true, true, true, true, true, false, false, false, false, false, false, false, false, false, false] rfl rfl (any_of HT_.out (by kernel_rfl)) (fun _ _ _ h => h) (Or.inl ⟨by rfl, ?_⟩) ?_ ?_
                     rotate_left
                     ·intro w'
                      go_simp
                      with_reducible rfl
                     rotate_left
                     ·simp only [Act.put, List.setIfInBounds_toArray, List.set_cons_zero, List.set_cons_succ, i64_w, i32_w]
                      rfl
                     refine pure_ (i := 5) (N := some 103) (v := ?_) (a' := ?_) #[true, true, true, true, true, true, false, false, false, false, false, false, false, false, false] rfl rfl (any_of HT_.out (by kernel_rfl)) (fun _ _ _ h => h) (Or.inl ⟨by rfl, ?_⟩) ?_ ?_
                     rotate_left
                     ·intro w'
                      go_simp
                      with_reducible rfl
                     rotate_left
                     ·simp only [Act.put, List.setIfInBounds_toArray, List.set_cons_zero, List.set_cons_succ, i64_w, i32_w]
                      rfl
                     refine pure_ (i := 6) (N := some 104) (v := ?_) (a' := ?_) #[true, true, true, true, true, true, true, false, false, false, false, false, false, false, false] rfl rfl (any_of HT_.out (by kernel_rfl)) (fun _ _ _ h => h) (Or.inl ⟨by rfl, ?_⟩) ?_ ?_
                     rotate_left
                     ·intro w'
                      go_simp
                      with_reducible rfl
                     rotate_left
                     ·simp only [Act.put, List.setIfInBounds_toArray, List.set_cons_zero, List.set_cons_succ, i64_w, i32_w]
                      rfl
                     refine pure_ (i := 7) (N := some 105) (v := ?_) (a' := ?_) #[true, true, true, true, true, true, true, true, false, false, false, false, false, false, false] rfl rfl (any_of HT_.out (by kernel_rfl)) (fun _ _ _ h => h) (Or.inl ⟨by rfl, ?_⟩) ?_ ?_
                     rotate_left
                     ·intro w'
                      go_simp
                      with_reducible rfl
                     rotate_left
                     ·simp only [Act.put, List.setIfInBounds_toArray, List.set_cons_zero, List.set_cons_succ, i64_w, i32_w]
                      rfl
                     refine pure_ (i := 9) (N := some 107) (v := ?_) (a' := ?_) #[true, true, true, true, true, true, true, true, false, true, false, false, false, false, false] rfl rfl (any_of HT_.out (by kernel_rfl)) (fun _ _ _ h => h) (Or.inl ⟨by rfl, ?_⟩) ?_ ?_
                     rotate_left
                     ·intro w'
                      go_simp
                      with_reducible rfl
                     rotate_left
                     ·simp only [Act.put, List.setIfInBounds_toArray, List.set_cons_zero, List.set_cons_succ, i64_w, i32_w]
                      rfl
                     refine pure_ (i := 10) (N := some 108) (v := ?_) (a' := ?_) #[true, true, true, true, true, true, true, true, false, true, true, false, false, false, false] rfl rfl (any_of HT_.out (by kernel_rfl)) (fun _ _ _ h => h) (Or.inl ⟨by rfl, ?_⟩) ?_ ?_
                     rotate_left
                     ·intro w'
                      go_simp
                      with_reducible rfl
                     rotate_left
                     ·simp only [Act.put, List.setIfInBounds_toArray, List.set_cons_zero, List.set_cons_succ, i64_w, i32_w]
                      rfl
                     refine pure_ (i := 11) (N := some 109) (v := ?_) (a' := ?_) #[true, true, true, true, true, true, true, true, false, true, true, true, false, false, false] rfl rfl (any_of HT_.out (by kernel_rfl)) (fun _ _ _ h => h) (Or.inl ⟨by rfl, ?_⟩) ?_ ?_
                     rotate_left
                     ·intro w'
                      go_simp
                      with_reducible rfl
                     rotate_left
                     ·simp only [Act.put, List.setIfInBounds_toArray, List.set_cons_zero, List.set_cons_succ, i64_w, i32_w]
                      rfl
                     refine take_ (i := 8) (N := some 106) (v := ?_) (a' := ?_) #[true, true, true, true, true, true, true, true, true, true, true, true, false, false, false] rfl rfl (take_ofW HT_.out HW_.out (by kernel_rfl)) (fun _ _ _ h => h) (Or.inl ⟨by rfl, ?_⟩) hHeld ?_ ?_
                     rotate_left
                     ·rintro w' ⟨s0, s1⟩
                      go_simp
                      with_reducible rfl
                     rotate_left
                     ·simp only [Act.put, List.setIfInBounds_toArray, List.set_cons_zero, List.set_cons_succ, i64_w, i32_w]
                      rfl
                     refine take_ (i := 12) (N := some 110) (v := ?_) (a' := ?_) #[true, true, true, true, true, true, true, true, true, true, true, true, true, false, false] rfl rfl (take_ofW HT_.out HW_.out (by kernel_rfl)) (fun _ _ _ h => h) (Or.inl ⟨by rfl, ?_⟩) hHeld ?_ ?_
                     rotate_left
                     ·rintro w' ⟨s0, s1⟩
                      go_simp
                      with_reducible rfl
                     rotate_left
                     ·simp only [Act.put, List.setIfInBounds_toArray, List.set_cons_zero, List.set_cons_succ, i64_w, i32_w]
                      rfl
                     refine one_ (i := 13) (N := some 111) #[true, true, true, true, true, true, true, true, true, true, true, true, true, true, false] rfl rfl (one_of HT_.out (by kernel_rfl)) (by decide) (fun K hK => ?_)
                     refine goes_ Try.func35 (by kernel_rfl) rfl #[.slice Ao14 t436.length co14, .slice A458_0 (rd_L1 t439 x13_2).length c458_0, .slice A459_0 (rd_L1 t439 x16_5).length c459_0] (by rfl) rfl rfl (by (try simp only [List.map_toArray, List.map_cons, List.map_nil]); first | done | rfl | (simp only [List.length_drop, List.length_take]; rfl)) ?_
                     with_reducible refine (worldmintlaw27_touch.calls k5 _ _ t436 _ _ (rd_L1 t439 x13_2) _ _ (rd_L1 t439 x16_5) false _ ?side1 ?side2 ?side3 ?side4 ?side5 ?side6 A50.out).mono ?_
                     (case side1 => repeat (first | exact (Kd.N_reads' HO_7.out).2.2 | (with_reducible refine Kd.C_alloc ?_ _) | (with_reducible refine Kd.C_drewN ?_ _) | (with_reducible refine Kd.C_drew ?_)))
                     (case side2 => exact (Kd.N_reads' HO_7.out).2.1)
                     (case side3 => repeat (first | exact (by first | (with_reducible exact HR458_0.out) | (with_reducible exact Kd.C_drewN HR458_0.out _)) | (with_reducible refine Kd.C_alloc ?_ _) | (with_reducible refine Kd.C_drewN ?_ _) | (with_reducible refine Kd.C_drew ?_)))
                     (case side4 => exact HC458_0.out)
                     (case side5 => repeat (first | exact (by first | (with_reducible exact HR459_0.out) | (with_reducible exact Kd.C_drewN HR459_0.out _)) | (with_reducible refine Kd.C_alloc ?_ _) | (with_reducible refine Kd.C_drewN ?_ _) | (with_reducible refine Kd.C_drew ?_)))
                     (case side6 => exact HC459_0.out)
                     rintro e w55 ⟨rfl, hb⟩
                     have HS0_ := (hb.cell (World.block_lt_of_cell? _ _ (hHeld.1))).trans (hHeld.1)
                     have HS1_ := (hb.cell (World.block_lt_of_cell? _ _ (hHeld.2))).trans (hHeld.2)
                     refine ⟨_, rfl, ?_⟩
                     have n0_ := Aside0.mk (Kd.N_below (by (with_reducible repeat (first | apply Kd.N_alloc | apply Kd.N_drewN | apply Kd.N_drew)); exact HO_7.out) hb)
                     have n1_ := Aside0.mk (Kd.N_below (by (with_reducible repeat (first | apply Kd.N_alloc | apply Kd.N_drewN | apply Kd.N_drew)); exact HO_8.out) hb)
                     have n2_ := Aside0.mk (Kd.R_below (by (with_reducible repeat (first | apply Kd.R_alloc | apply Kd.R_drewN | apply Kd.R_drew)); exact HO_9.out) hb)
                     have n3_ := Aside0.mk (Kd.V_below (by (with_reducible repeat (first | apply Kd.V_alloc | apply Kd.V_drewN | apply Kd.V_drew)); exact HL458_0.out) hb)
                     have n4_ := Aside0.mk (Kd.V_below (by (with_reducible repeat (first | apply Kd.V_alloc | apply Kd.V_drewN | apply Kd.V_drew)); exact HL459_0.out) hb)
                     have n5_ := Aside0.mk (Kd.C_below (by first | (with_reducible exact HR458_0.out) | (with_reducible exact Kd.C_drewN HR458_0.out _)) hb)
                     have n6_ := Aside0.mk (Kd.C_below (by first | (with_reducible exact HR459_0.out) | (with_reducible exact Kd.C_drewN HR459_0.out _)) hb)
                     have n7_ := Aside0.mk (below_step (by repeat (first | (with_reducible first | exact HB.out | apply below_alloc | apply pw_below_drewN | apply below_drew1) | exact HB.out)) hb)
                     clear HO_7
                     clear HO_8
                     clear HO_9
                     clear HL458_0
                     clear HL459_0
                     clear HR458_0
                     clear HR459_0
                     clear HB
                     have HO_7 := n0_
                     have HO_8 := n1_
                     have HO_9 := n2_
                     have HL458_0 := n3_
                     have HL459_0 := n4_
                     have HR458_0 := n5_
                     have HR459_0 := n6_
                     have HB := n7_
                     clear n0_ n1_ n2_ n3_ n4_ n5_ n6_ n7_
                     (try clear hb)
                     (try clear hb2)
                     (try clear hk)
                     (try clear hi)
                     refine hK.out _ _ ⟨HS0_, HS1_⟩ (fun hHeld => ?_)
                     clear hK K
                     refine norm_ (a' := ?_) ?_ ?_
                     rotate_left
                     ·show Act.put _ (some 111) _ = _
                      simp only [Act.put, List.setIfInBounds_toArray, List.set_cons_zero, List.set_cons_succ, i64_w, i32_w]
                      rfl
                     refine pure_ (i := 14) (N := some 112) (v := ?_) (a' := ?_) #[true, true, true, true, true, true, true, true, true, true, true, true, true, true, true] rfl rfl (any_of HT_.out (by kernel_rfl)) (fun _ _ _ h => h) (Or.inl ⟨by rfl, ?_⟩) ?_ ?_
                     rotate_left
                     ·intro w'
                      go_simp
                      with_reducible rfl
                     rotate_left
                     ·simp only [Act.put, List.setIfInBounds_toArray, List.set_cons_zero, List.set_cons_succ, i64_w, i32_w]
                      rfl
                     refine done_ (done_of HT_.out (by kernel_rfl)) ?_
                     try go_wp2
                     go_roundg k5
                     case measure => have := HK1.out; have := HK2.out; have := HK3.out; have := HJ37.out; have := HK5.out; omega
                     case rel => exact ⟨(wrap64 (x16_5 + 1)), (by first | rfl | (simp; done) | (simp [*]; done)), H', ⟨by have := HK1.out; have := HK2.out; have := HK3.out; have := HJ37.out; have := HK5.out; omega⟩, ⟨by (with_reducible repeat (first | apply Kd.N_alloc | apply Kd.N_drewN | apply Kd.N_drew)); exact HO_7.out⟩, ⟨by (with_reducible repeat (first | apply Kd.N_alloc | apply Kd.N_drewN | apply Kd.N_drew)); exact HO_8.out⟩, ⟨by (with_reducible repeat (first | apply Kd.R_alloc | apply Kd.R_drewN | apply Kd.R_drew)); exact HO_9.out⟩, ⟨by repeat (first | (with_reducible first | exact HB.out | apply below_alloc | apply pw_below_drewN | apply below_drew1) | exact HB.out)⟩⟩
                   ·rw [if_neg c49] at H
                    exact absurd H (by simp)
                  ·rw [if_neg c48] at H
                   exact absurd H (by simp)
                 ·rw [if_neg c47] at H
                  exact absurd H (by simp)
               ·rw [if_neg c44] at H
                have c44b0 : decide (x16_5 < (t439.length : Int)) = false := decide_eq_false c44
                clear c44
                have H' := Aside0.mk H
                clear H
                go_wp2
                go_loopg [17] k5 (fun kq v17 w' => ∃ (x17_6 : Int), v17 = .int .i64 x17_6 ∧ Aside0 (worldmintlaw27_BidsApart.l4 kq t436 t439 t444 (wrap64 (x10_2 + ((rd_L1 t439 x13_2).length : Int))) x11_37 x13_2 x17_6 = some r) ∧ Aside0 (kq ≤ k5) ∧ Aside0 (Kd.N k38 38 w' w.heap.size (fun k_ => some k_ ≠ ((.slice (some ad449) t439.length co23) : Value).ownBlock ∧ some k_ ≠ ((.slice Ao39 t444.length co39) : Value).ownBlock) (.slice Ao14 t436.length co14) t436) ∧ Aside0 (Kd.N (Kd.slice 3 (Kd.int .i64)) 22 w' w.heap.size (fun k_ => some k_ ≠ ((.slice Ao14 t436.length co14) : Value).ownBlock ∧ some k_ ≠ ((.slice Ao39 t444.length co39) : Value).ownBlock) (.slice (some ad449) t439.length co23) t439) ∧ Aside0 (Kd.R (Kd.int .i64) 3 w' w.heap.size (fun _ => True) (.slice Ao39 t444.length co39) t444) ∧ Aside0 (Below w.heap.size w w'))
                case atStart => exact ⟨(1), (by first | rfl | (simp; done) | (simp [*]; done)), H', ⟨Nat.le_refl _⟩, ⟨by (with_reducible repeat (first | apply Kd.N_alloc | apply Kd.N_drewN | apply Kd.N_drew)); exact HO_7.out⟩, ⟨by (with_reducible repeat (first | apply Kd.N_alloc | apply Kd.N_drewN | apply Kd.N_drew)); exact HO_8.out⟩, ⟨by (with_reducible repeat (first | apply Kd.R_alloc | apply Kd.R_drewN | apply Kd.R_drew)); exact HO_9.out⟩, ⟨by repeat (first | (with_reducible first | exact HB.out | apply below_alloc | apply pw_below_drewN | apply below_drew1) | exact HB.out)⟩⟩
                case round =>
                 clear H'
                 try clear p2
                 try clear c3
                 try clear c4
                 try clear p4
                 try clear q4
                 try clear hx4
                 try clear c5
                 try clear p6
                 try clear c35
                 try clear c44
                 try clear c44b0
                 try clear c45
                 try clear c45b0
                 try clear c45b1
                 try clear p45
                 try clear q45
                 try clear hx45
                 try clear c47
                 try clear c47b0
                 try clear c48
                 try clear c48b0
                 try clear c49
                 try clear c49b0
                 try clear c51
                 try clear hx458_0
                 try clear hx459_0
                 try clear p458
                 try clear p459
                 try clear q458
                 try clear q459
                 obtain ⟨x17_6, rfl, HA, HK6, HO_7, HO_8, HO_9, HB⟩ := hrel
                 cases gk with
                 | zero => exact absurd HA.out (by simp [worldmintlaw27_BidsApart.l4])
                 | succ k6 =>
                  have H := HA.out
                  clear HA
                  simp only [worldmintlaw27_BidsApart.l4] at H
                  by_cases c56 : 0 ≤ x13_2
                  ·rw [if_pos c56] at H
                   have c56b0 : decide (0 ≤ x13_2) = true := decide_eq_true c56
                   clear c56
                   by_cases c57 : x13_2 < (t439.length : Int)
                   ·rw [if_pos c57] at H
                    have c57b0 : decide (x13_2 < (t439.length : Int)) = true := decide_eq_true c57
                    clear c57
                    by_cases c58 : x17_6 < ((rd_L1 t439 x13_2).length : Int)
                    ·rw [if_pos c58] at H
                     have c58b0 : decide (x17_6 < ((rd_L1 t439 x13_2).length : Int)) = true := decide_eq_true c58
                     clear c58
                     by_cases c59 : 0 ≤ x17_6
                     ·rw [if_pos c59] at H
                      have c59b0 := eq_true c59
                      have c59b1 : decide (0 ≤ x17_6) = true := decide_eq_true c59
                      clear c59
                      by_cases c60 : x17_6 ≤ ((rd_L1 t439 x13_2).length : Int)
                      ·rw [if_pos c60] at H
                       have c60b0 := eq_true c60
                       have c60b1 : decide (x17_6 ≤ ((rd_L1 t439 x13_2).length : Int)) = true := decide_eq_true c60
                       clear c60
                       obtain ⟨y463, hy463⟩ : ∃ y_ : List Int, y_ = ((rd_L1 t439 x13_2).take (x17_6 : Int).toNat) := ⟨_, rfl⟩
                       replace H : ((worldmintlaw27_touch.f k6 t436 y463 ((rd_L1 t439 x13_2).drop (x17_6 : Int).toNat)).bind fun t474 => (if t474 = true then (worldmintlaw27_BidsApart.l4 k6 t436 t439 t444 (wrap64 (x10_2 + ((rd_L1 t439 x13_2).length : Int))) x11_37 x13_2 (wrap64 (x17_6 + 1))) else (some false))) = some r := by first | (rw [hy463]; with_reducible exact H) | (have H2_ := (Option.bind_some _ _).symm.trans H; rw [hy463]; with_reducible exact H2_) | (have H2_ := (Option.bind_some _ _).symm.trans H; with_reducible exact H2_) | with_reducible exact H | (rw [hy463]; exact H) | exact H
                       have Ny463 := Aside0.mk hy463
                       clear hy463
                       have c61b0 := eq_true (of_decide_eq_true (by first | (with_reducible assumption) | assumption) : 0 ≤ x17_6)
                       have c62b0 := eq_true (of_decide_eq_true (by first | (with_reducible assumption) | assumption) : x17_6 ≤ ((rd_L1 t439 x13_2).length : Int))
                       obtain ⟨y469, hy469⟩ : ∃ y_ : List Int, y_ = ((rd_L1 t439 x13_2).drop (x17_6 : Int).toNat) := ⟨_, rfl⟩
                       replace H : ((worldmintlaw27_touch.f k6 t436 y463 y469).bind fun t474 => (if t474 = true then (worldmintlaw27_BidsApart.l4 k6 t436 t439 t444 (wrap64 (x10_2 + ((rd_L1 t439 x13_2).length : Int))) x11_37 x13_2 (wrap64 (x17_6 + 1))) else (some false))) = some r := by first | (rw [hy469]; with_reducible exact H) | (have H2_ := (Option.bind_some _ _).symm.trans H; rw [hy469]; with_reducible exact H2_) | (have H2_ := (Option.bind_some _ _).symm.trans H; with_reducible exact H2_) | with_reducible exact H | (rw [hy469]; exact H) | exact H
                       have Ny469 := Aside0.mk hy469
                       clear hy469
                       replace H := Option.bind_eq_some_iff.mp H
                       obtain ⟨t474, A630, H⟩ := H
                       replace H : (if t474 = true then (worldmintlaw27_BidsApart.l4 k6 t436 t439 t444 (wrap64 (x10_2 + ((rd_L1 t439 x13_2).length : Int))) x11_37 x13_2 (wrap64 (x17_6 + 1))) else (some false)) = some r := H
                       have A63 := Aside0.mk A630
                       clear A630
                       by_cases c64 : t474 = true
                       ·subst c64
                        have H1 : (worldmintlaw27_BidsApart.l4 k6 t436 t439 t444 (wrap64 (x10_2 + ((rd_L1 t439 x13_2).length : Int))) x11_37 x13_2 (wrap64 (x17_6 + 1))) = some r := by rw [if_pos rfl] at H; exact H
                        clear H
                        have H := H1
                        clear H1
                        have H' := Aside0.mk H
                        clear H
                        have p461 : 0 ≤ (x13_2 : Int) := of_decide_eq_true (by first | (with_reducible assumption) | assumption)
                        have q461 : x13_2 < (t439.length : Int) := of_decide_eq_true (by first | (with_reducible assumption) | assumption)
                        obtain ⟨ad461, A461_0, c461_0, e461, hx461_0, hl461_0, hi461_0⟩ := at_L1 (Kd.N_reads' HO_8.out).2.2 x13_2 p461 q461
                        obtain rfl : ad449 = ad461 := (by injection e461)
                        obtain ⟨ce461, hce461, hMe461, hcc461⟩ := Kd.N_get HO_8.out [] x13_2 p461 (by first | exact q461 | exact of_decide_eq_true (by first | (with_reducible assumption) | assumption) | (have e_ := (Kd.N_reads' HO_8.out).1; omega))
                        obtain ⟨ua461_0, uc461_0, rfl, ul461_0, ge461_0⟩ := Kd.FK_slice_open hMe461
                        have hv461_0 := hcc461 0 _ rfl
                        rw [Nat.add_zero, show ((Kd.slice 3 (Kd.int .i64))).sz = 1 from rfl, Nat.mul_one] at hv461_0
                        replace hv461_0 := Option.some.inj (hv461_0.symm.trans hx461_0)
                        injection hv461_0 with hva_ hvn_ hvc_
                        rw [hva_] at ge461_0
                        rw [hvc_] at ul461_0
                        have HL461_0 := Aside0.mk (show Kd.V (Kd.int .i64) 3 _ w.heap.size _ _ (rd_L1 t439 x13_2) from Kd.V_mk ul461_0 ge461_0)
                        clear hva_ hvn_ hvc_ ge461_0 ul461_0
                        clear hcc461 hce461
                        have HR461_0 := Aside0.mk hi461_0
                        have HC461_0 := Aside0.mk hl461_0
                        clear hi461_0 hl461_0
                        replace p461 := eq_true p461
                        replace q461 := eq_true q461
                        try go_wp2
                        have n0_ := Aside0.mk (Kd.N_drew HO_7.out)
                        have n1_ := Aside0.mk (Kd.N_drew HO_8.out)
                        have n2_ := Aside0.mk (Kd.R_drew HO_9.out)
                        have n3_ := Aside0.mk (Kd.V_drew HL461_0.out)
                        have n4_ := Aside0.mk (Kd.C_drew HR461_0.out)
                        have n5_ := Aside0.mk (below_drew1 HB.out)
                        clear HO_7
                        clear HO_8
                        clear HO_9
                        clear HL461_0
                        clear HR461_0
                        clear HB
                        have HO_7 := n0_
                        have HO_8 := n1_
                        have HO_9 := n2_
                        have HL461_0 := n3_
                        have HR461_0 := n4_
                        have HB := n5_
                        clear n0_ n1_ n2_ n3_ n4_ n5_
                        have p462 : 0 ≤ (x13_2 : Int) := of_decide_eq_true (by first | (with_reducible assumption) | assumption)
                        have q462 : x13_2 < (t439.length : Int) := of_decide_eq_true (by first | (with_reducible assumption) | assumption)
                        obtain ⟨ad462, A462_0, c462_0, e462, hx462_0, hl462_0, hi462_0⟩ := at_L1 (Kd.N_reads' HO_8.out).2.2 x13_2 p462 q462
                        obtain rfl : ad449 = ad462 := (by injection e462)
                        obtain ⟨ce462, hce462, hMe462, hcc462⟩ := Kd.N_get HO_8.out [] x13_2 p462 (by first | exact q462 | exact of_decide_eq_true (by first | (with_reducible assumption) | assumption) | (have e_ := (Kd.N_reads' HO_8.out).1; omega))
                        obtain ⟨ua462_0, uc462_0, rfl, ul462_0, ge462_0⟩ := Kd.FK_slice_open hMe462
                        have hv462_0 := hcc462 0 _ rfl
                        rw [Nat.add_zero, show ((Kd.slice 3 (Kd.int .i64))).sz = 1 from rfl, Nat.mul_one] at hv462_0
                        replace hv462_0 := Option.some.inj (hv462_0.symm.trans hx462_0)
                        injection hv462_0 with hva_ hvn_ hvc_
                        rw [hva_] at ge462_0
                        rw [hvc_] at ul462_0
                        have HL462_0 := Aside0.mk (show Kd.V (Kd.int .i64) 3 _ w.heap.size _ _ (rd_L1 t439 x13_2) from Kd.V_mk ul462_0 ge462_0)
                        clear hva_ hvn_ hvc_ ge462_0 ul462_0
                        clear hcc462 hce462
                        have HR462_0 := Aside0.mk hi462_0
                        have HC462_0 := Aside0.mk hl462_0
                        clear hi462_0 hl462_0
                        replace p462 := eq_true p462
                        replace q462 := eq_true q462
                        have q66 : (x17_6 : Int) ≤ (((rd_L1 t439 x13_2).length : Int) : Int) := of_decide_eq_true (by first | (with_reducible assumption) | assumption)
                        obtain ⟨i066, hi066, _, hsz66, _⟩ := info_parts info3
                        have hroom66 : (rd_L1 t439 x13_2).length ≤ c462_0 := HC462_0.out
                        have hC66 : Kd.F (Kd.int .i64) _ _ A462_0 (rd_L1 t439 x13_2).length (rd_L1 t439 x13_2) := (Kd.V_at (base := w.heap.size) HL462_0.out).2.2
                        have hcut66 := cut_to (P := Try.prog) 22 3 .i64 Try.underlying22 hi066 A462_0 (rd_L1 t439 x13_2).length c462_0 x17_6 (of_decide_eq_true (by first | (with_reducible assumption) | assumption)) q66 hroom66
                        have hr66 := Kd.F_take (m := (x17_6 : Int).toNat) hC66 (by omega)
                        have hy66 : y463.length = (x17_6 : Int).toNat := (by rw [Ny463.out, List.length_take]; omega)
                        rw [← Ny463.out] at hr66
                        rw [← hy66] at hcut66
                        have HO467 := Aside0.mk (show Kd.V (Kd.int .i64) 3 _ w.heap.size _ (.slice A462_0 y463.length c462_0) y463 from Kd.V_mk (by omega) hr66)
                        have HC467 := Aside0.mk (show y463.length ≤ c462_0 from by omega)
                        clear hr66 hC66 hroom66 hi066 hsz66
                        have KY66 := Aside0.mk hy66
                        clear hy66
                        replace q66 := eq_true q66
                        have p468 : 0 ≤ (x13_2 : Int) := of_decide_eq_true (by first | (with_reducible assumption) | assumption)
                        have q468 : x13_2 < (t439.length : Int) := of_decide_eq_true (by first | (with_reducible assumption) | assumption)
                        obtain ⟨ad468, A468_0, c468_0, e468, hx468_0, hl468_0, hi468_0⟩ := at_L1 (Kd.N_reads' HO_8.out).2.2 x13_2 p468 q468
                        obtain rfl : ad449 = ad468 := (by injection e468)
                        obtain ⟨ce468, hce468, hMe468, hcc468⟩ := Kd.N_get HO_8.out [] x13_2 p468 (by first | exact q468 | exact of_decide_eq_true (by first | (with_reducible assumption) | assumption) | (have e_ := (Kd.N_reads' HO_8.out).1; omega))
                        obtain ⟨ua468_0, uc468_0, rfl, ul468_0, ge468_0⟩ := Kd.FK_slice_open hMe468
                        have hv468_0 := hcc468 0 _ rfl
                        rw [Nat.add_zero, show ((Kd.slice 3 (Kd.int .i64))).sz = 1 from rfl, Nat.mul_one] at hv468_0
                        replace hv468_0 := Option.some.inj (hv468_0.symm.trans hx468_0)
                        injection hv468_0 with hva_ hvn_ hvc_
                        rw [hva_] at ge468_0
                        rw [hvc_] at ul468_0
                        have HL468_0 := Aside0.mk (show Kd.V (Kd.int .i64) 3 _ w.heap.size _ _ (rd_L1 t439 x13_2) from Kd.V_mk ul468_0 ge468_0)
                        clear hva_ hvn_ hvc_ ge468_0 ul468_0
                        clear hcc468 hce468
                        have HR468_0 := Aside0.mk hi468_0
                        have HC468_0 := Aside0.mk hl468_0
                        clear hi468_0 hl468_0
                        replace p468 := eq_true p468
                        replace q468 := eq_true q468
                        have ea_ := Option.some.inj (hx462_0.symm.trans hx468_0)
                        injection ea_ with ea_ en_ ec_
                        subst ea_
                        subst ec_
                        clear en_
                        have q67 : (x17_6 : Int) ≤ (((rd_L1 t439 x13_2).length : Int) : Int) := of_decide_eq_true (by first | (with_reducible assumption) | assumption)
                        obtain ⟨i067, hi067, _, hsz67, _⟩ := info_parts info3
                        have hroom67 : (rd_L1 t439 x13_2).length ≤ c462_0 := HC468_0.out
                        have hC67 : Kd.F (Kd.int .i64) _ _ A462_0 (rd_L1 t439 x13_2).length (rd_L1 t439 x13_2) := (Kd.V_at (base := w.heap.size) HL468_0.out).2.2
                        have q067 : (0 : Int) ≤ (x17_6 : Int) := of_decide_eq_true (by first | (with_reducible assumption) | assumption)
                        have hcut67 := cut_from (P := Try.prog) 22 3 .i64 Try.underlying22 hi067 1 hsz67 A462_0 (rd_L1 t439 x13_2).length c462_0 x17_6 q067 q67
                        have hr67 := Kd.F_cut (m := (x17_6 : Int).toNat) (c := c462_0) hC67 (by omega) hroom67
                        obtain ⟨A67, hA67⟩ : ∃ A1, A1 = (if c462_0 = (x17_6 : Int).toNat then A462_0 else (A462_0 : Option Addr).map (·.add ((x17_6 : Int).toNat * 1))) := ⟨_, rfl⟩
                        obtain ⟨c67, hc67⟩ : ∃ c1, c1 = c462_0 - (x17_6 : Int).toNat := ⟨_, rfl⟩
                        have hy67 : y469.length = (rd_L1 t439 x13_2).length - (x17_6 : Int).toNat := (by rw [Ny469.out, List.length_drop] <;> omega)
                        rw [show (rd_L1 t439 x13_2).drop (x17_6 : Int).toNat = y469 from Ny469.out.symm] at hr67
                        replace hr67 : Kd.F (Kd.int .i64) _ _ A67 y469.length y469 := (by rw [hA67]; exact hr67)
                        rw [← hy67, ← hA67, ← hc67] at hcut67
                        have HO473 := Aside0.mk (show Kd.V (Kd.int .i64) 3 _ w.heap.size _ (.slice A67 y469.length c67) y469 from Kd.V_mk (by rw [hy67, hc67]; exact Nat.sub_le_sub_right hroom67 _) hr67)
                        have HC473 := Aside0.mk (show y469.length ≤ c67 from by rw [hy67, hc67]; exact Nat.sub_le_sub_right hroom67 _)
                        clear hr67 hC67 hroom67 hi067 hsz67 hc67
                        have KY67 := Aside0.mk hy67
                        have KA67 := Aside0.mk hA67
                        clear hy67 hA67
                        replace q67 := eq_true q67
                        refine start_ (n := 15) (S := fun w' => w'.cell? (ad449.add (x13_2).toNat) = some (.slice A462_0 (rd_L1 t439 x13_2).length c462_0) ∧ w'.cell? (ad449.add (x13_2).toNat) = some (.slice A462_0 (rd_L1 t439 x13_2).length c462_0)) (ds := []) #[false, false, false, false, false, false, false, false, false, false, false, false, false, false, false] (by kernel_rfl) rfl rfl ⟨hx462_0, hx468_0⟩ (fun hHeld => ?_); refine with_tabW worldmintlaw27_BidsApart.tab30 worldmintlaw27_BidsApart.bits30 (fun HT_ HW_ => ?_)
                        generalize wr.drew = w65 at HO_7 HO_8 HO_9 HL461_0 HR461_0 HB HL462_0 HL468_0 HO467 HO473 HR462_0 HR468_0 hx462_0 hx468_0 hHeld ⊢
                        refine pure_ (i := 0) (N := some 122) (v := ?_) (a' := ?_) #[true, false, false, false, false, false, false, false, false, false, false, false, false, false, false] rfl rfl (any_of HT_.out (by kernel_rfl)) (fun _ _ _ h => h) (Or.inl ⟨by rfl, ?_⟩) ?_ ?_
                        rotate_left
                        ·intro w'
                         go_simp
                         with_reducible rfl
                        rotate_left
                        ·simp only [Act.put, List.setIfInBounds_toArray, List.set_cons_zero, List.set_cons_succ, i64_w, i32_w]
                         rfl
                        refine pure_ (i := 1) (N := some 123) (v := ?_) (a' := ?_) #[true, true, false, false, false, false, false, false, false, false, false, false, false, false, false] rfl rfl (any_of HT_.out (by kernel_rfl)) (fun _ _ _ h => h) (Or.inl ⟨by rfl, ?_⟩) ?_ ?_
                        rotate_left
                        ·intro w'
                         go_simp
                         with_reducible rfl
                        rotate_left
                        ·simp only [Act.put, List.setIfInBounds_toArray, List.set_cons_zero, List.set_cons_succ, i64_w, i32_w]
                         rfl
                        refine pure_ (i := 2) (N := some 124) (v := ?_) (a' := ?_) #[true, true, true, false, false, false, false, false, false, false, false, false, false, false, false] rfl rfl (any_of HT_.out (by kernel_rfl)) (fun _ _ _ h => h) (Or.inl ⟨by rfl, ?_⟩) ?_ ?_
                        rotate_left
                        ·intro w'
                         go_simp
                         with_reducible rfl
                        rotate_left
                        ·simp only [Act.put, List.setIfInBounds_toArray, List.set_cons_zero, List.set_cons_succ, i64_w, i32_w]
                         rfl
                        refine pure_ (i := 3) (N := some 125) (v := ?_) (a' := ?_) #[true, true, true, true, false, false, false, false, false, false, false, false, false, false, false] rfl rfl (any_of HT_.out (by kernel_rfl)) (fun _ _ _ h => h) (Or.inl ⟨by rfl, ?_⟩) ?_ ?_
                        rotate_left
                        ·intro w'
                         go_simp
                         with_reducible rfl
                        rotate_left
                        ·simp only [Act.put, List.setIfInBounds_toArray, List.set_cons_zero, List.set_cons_succ, i64_w, i32_w]
                         rfl
                        refine pure_ (i := 5) (N := some 127) (v := ?_) (a' := ?_) #[true, true, true, true, false, true, false, false, false, false, false, false, false, false, false] rfl rfl (any_of HT_.out (by kernel_rfl)) (fun _ _ _ h => h) (Or.inl ⟨by rfl, ?_⟩) ?_ ?_
                        rotate_left
                        ·intro w'
                         go_simp
                         with_reducible rfl
                        rotate_left
                        ·simp only [Act.put, List.setIfInBounds_toArray, List.set_cons_zero, List.set_cons_succ, i64_w, i32_w]
                         rfl
                        refine pure_ (i := 7) (N := some 129) (v := ?_) (a' := ?_) #[true, true, true, true, false, true, false, true, false, false, false, false, false, false, false] rfl rfl (any_of HT_.out (by kernel_rfl)) (fun _ _ _ h => h) (Or.inl ⟨by rfl, ?_⟩) ?_ ?_
                        rotate_left
                        ·intro w'
                         go_simp
                         with_reducible rfl
                        rotate_left
                        ·simp only [Act.put, List.setIfInBounds_toArray, List.set_cons_zero, List.set_cons_succ, i64_w, i32_w]
                         rfl
                        refine pure_ (i := 8) (N := some 130) (v := ?_) (a' := ?_) #[true, true, true, true, false, true, false, true, true, false, false, false, false, false, false] rfl rfl (any_of HT_.out (by kernel_rfl)) (fun _ _ _ h => h) (Or.inl ⟨by rfl, ?_⟩) ?_ ?_
                        rotate_left
                        ·intro w'
                         go_simp
                         with_reducible rfl
                        rotate_left
                        ·simp only [Act.put, List.setIfInBounds_toArray, List.set_cons_zero, List.set_cons_succ, i64_w, i32_w]
                         rfl
                        refine pure_ (i := 9) (N := some 131) (v := ?_) (a' := ?_) #[true, true, true, true, false, true, false, true, true, true, false, false, false, false, false] rfl rfl (any_of HT_.out (by kernel_rfl)) (fun _ _ _ h => h) (Or.inl ⟨by rfl, ?_⟩) ?_ ?_
                        rotate_left
                        ·intro w'
                         go_simp
                         with_reducible rfl
                        rotate_left
                        ·simp only [Act.put, List.setIfInBounds_toArray, List.set_cons_zero, List.set_cons_succ, i64_w, i32_w]
                         rfl
                        refine pure_ (i := 11) (N := some 133) (v := ?_) (a' := ?_) #[true, true, true, true, false, true, false, true, true, true, false, true, false, false, false] rfl rfl (any_of HT_.out (by kernel_rfl)) (fun _ _ _ h => h) (Or.inl ⟨by rfl, ?_⟩) ?_ ?_
                        rotate_left
                        ·intro w'
                         go_simp
                         with_reducible rfl
                        rotate_left
                        ·simp only [Act.put, List.setIfInBounds_toArray, List.set_cons_zero, List.set_cons_succ, i64_w, i32_w]
                         rfl
                        refine take_ (i := 4) (N := some 126) (v := ?_) (a' := ?_) #[true, true, true, true, true, true, false, true, true, true, false, true, false, false, false] rfl rfl (take_ofW HT_.out HW_.out (by kernel_rfl)) (fun _ _ _ h => h) (Or.inl ⟨by rfl, ?_⟩) hHeld ?_ ?_
                        rotate_left
                        ·rintro w' ⟨s0, s1⟩
                         go_simp
                         with_reducible rfl
                        rotate_left
                        ·simp only [Act.put, List.setIfInBounds_toArray, List.set_cons_zero, List.set_cons_succ, i64_w, i32_w]
                         rfl
                        refine pure_ (i := 6) (N := some 128) (v := ?_) (a' := ?_) #[true, true, true, true, true, true, true, true, true, true, false, true, false, false, false] rfl rfl (any_of HT_.out (by kernel_rfl)) (fun _ _ _ h => h) (Or.inl ⟨by rfl, ?_⟩) ?_ ?_
                        rotate_left
                        ·intro w'
                         go_simp
                         with_reducible rfl
                        rotate_left
                        ·simp only [Act.put, List.setIfInBounds_toArray, List.set_cons_zero, List.set_cons_succ, i64_w, i32_w]
                         rfl
                        refine take_ (i := 10) (N := some 132) (v := ?_) (a' := ?_) #[true, true, true, true, true, true, true, true, true, true, true, true, false, false, false] rfl rfl (take_ofW HT_.out HW_.out (by kernel_rfl)) (fun _ _ _ h => h) (Or.inl ⟨by rfl, ?_⟩) hHeld ?_ ?_
                        rotate_left
                        ·rintro w' ⟨s0, s1⟩
                         go_simp
                         with_reducible rfl
                        rotate_left
                        ·simp only [Act.put, List.setIfInBounds_toArray, List.set_cons_zero, List.set_cons_succ, i64_w, i32_w]
                         rfl
                        refine pure_ (i := 12) (N := some 134) (v := ?_) (a' := ?_) #[true, true, true, true, true, true, true, true, true, true, true, true, true, false, false] rfl rfl (any_of HT_.out (by kernel_rfl)) (fun _ _ _ h => h) (Or.inl ⟨by rfl, ?_⟩) ?_ ?_
                        rotate_left
                        ·intro w'
                         go_simp
                         with_reducible rfl
                        rotate_left
                        ·simp only [Act.put, List.setIfInBounds_toArray, List.set_cons_zero, List.set_cons_succ, i64_w, i32_w]
                         rfl
                        refine one_ (i := 13) (N := some 135) #[true, true, true, true, true, true, true, true, true, true, true, true, true, true, false] rfl rfl (one_of HT_.out (by kernel_rfl)) (by decide) (fun K hK => ?_)
                        refine goes_ Try.func35 (by kernel_rfl) rfl #[.slice Ao14 t436.length co14, .slice A462_0 y463.length c462_0, .slice A67 y469.length c67] (by rfl) rfl rfl (by (try simp only [List.map_toArray, List.map_cons, List.map_nil]); first | done | rfl | (simp only [List.length_drop, List.length_take]; rfl)) ?_
                        with_reducible refine (worldmintlaw27_touch.calls k6 _ _ t436 _ _ y463 _ _ y469 true _ ?side1 ?side2 ?side3 ?side4 ?side5 ?side6 A63.out).mono ?_
                        (case side1 => repeat (first | exact (Kd.N_reads' HO_7.out).2.2 | (with_reducible refine Kd.C_alloc ?_ _) | (with_reducible refine Kd.C_drewN ?_ _) | (with_reducible refine Kd.C_drew ?_)))
                        (case side2 => exact (Kd.N_reads' HO_7.out).2.1)
                        (case side3 => repeat (first | exact (Kd.V_reads' HO467.out).2.2 | (with_reducible refine Kd.C_alloc ?_ _) | (with_reducible refine Kd.C_drewN ?_ _) | (with_reducible refine Kd.C_drew ?_)))
                        (case side4 => exact (Kd.V_reads' HO467.out).2.1)
                        (case side5 => repeat (first | exact (Kd.V_reads' HO473.out).2.2 | (with_reducible refine Kd.C_alloc ?_ _) | (with_reducible refine Kd.C_drewN ?_ _) | (with_reducible refine Kd.C_drew ?_)))
                        (case side6 => exact (Kd.V_reads' HO473.out).2.1)
                        rintro e w68 ⟨rfl, hb⟩
                        have HS0_ := (hb.cell (World.block_lt_of_cell? _ _ (hHeld.1))).trans (hHeld.1)
                        have HS1_ := (hb.cell (World.block_lt_of_cell? _ _ (hHeld.2))).trans (hHeld.2)
                        refine ⟨_, rfl, ?_⟩
                        have n0_ := Aside0.mk (Kd.N_below (by (with_reducible repeat (first | apply Kd.N_alloc | apply Kd.N_drewN | apply Kd.N_drew)); exact HO_7.out) hb)
                        have n1_ := Aside0.mk (Kd.N_below (by (with_reducible repeat (first | apply Kd.N_alloc | apply Kd.N_drewN | apply Kd.N_drew)); exact HO_8.out) hb)
                        have n2_ := Aside0.mk (Kd.R_below (by (with_reducible repeat (first | apply Kd.R_alloc | apply Kd.R_drewN | apply Kd.R_drew)); exact HO_9.out) hb)
                        have n3_ := Aside0.mk (Kd.V_below (by (with_reducible repeat (first | apply Kd.V_alloc | apply Kd.V_drewN | apply Kd.V_drew)); exact HL461_0.out) hb)
                        have n4_ := Aside0.mk (Kd.V_below (by (with_reducible repeat (first | apply Kd.V_alloc | apply Kd.V_drewN | apply Kd.V_drew)); exact HL462_0.out) hb)
                        have n5_ := Aside0.mk (Kd.V_below (by (with_reducible repeat (first | apply Kd.V_alloc | apply Kd.V_drewN | apply Kd.V_drew)); exact HO467.out) hb)
                        have n6_ := Aside0.mk (Kd.V_below (by (with_reducible repeat (first | apply Kd.V_alloc | apply Kd.V_drewN | apply Kd.V_drew)); exact HL468_0.out) hb)
                        have n7_ := Aside0.mk (Kd.V_below (by (with_reducible repeat (first | apply Kd.V_alloc | apply Kd.V_drewN | apply Kd.V_drew)); exact HO473.out) hb)
                        have n8_ := Aside0.mk (Kd.C_below (by first | (with_reducible exact HR461_0.out) | (with_reducible exact Kd.C_drewN HR461_0.out _)) hb)
                        have n9_ := Aside0.mk (Kd.C_below (by first | (with_reducible exact HR462_0.out) | (with_reducible exact Kd.C_drewN HR462_0.out _)) hb)
                        have n10_ := Aside0.mk (Kd.C_below (by first | (with_reducible exact HR468_0.out) | (with_reducible exact Kd.C_drewN HR468_0.out _)) hb)
                        have n11_ := Aside0.mk (below_step (by repeat (first | (with_reducible first | exact HB.out | apply below_alloc | apply pw_below_drewN | apply below_drew1) | exact HB.out)) hb)
                        clear HO_7
                        clear HO_8
                        clear HO_9
                        clear HL461_0
                        clear HL462_0
                        clear HO467
                        clear HL468_0
                        clear HO473
                        clear HR461_0
                        clear HR462_0
                        clear HR468_0
                        clear HB
                        have HO_7 := n0_
                        have HO_8 := n1_
                        have HO_9 := n2_
                        have HL461_0 := n3_
                        have HL462_0 := n4_
                        have HO467 := n5_
                        have HL468_0 := n6_
                        have HO473 := n7_
                        have HR461_0 := n8_
                        have HR462_0 := n9_
                        have HR468_0 := n10_
                        have HB := n11_
                        clear n0_ n1_ n2_ n3_ n4_ n5_ n6_ n7_ n8_ n9_ n10_ n11_
                        (try clear hb)
                        (try clear hb2)
                        (try clear hk)
                        (try clear hi)
                        refine hK.out _ _ ⟨HS0_, HS1_⟩ (fun hHeld => ?_)
                        clear hK K
                        refine norm_ (a' := ?_) ?_ ?_
                        rotate_left
                        ·show Act.put _ (some 135) _ = _
                         simp only [Act.put, List.setIfInBounds_toArray, List.set_cons_zero, List.set_cons_succ, i64_w, i32_w]
                         rfl
                        refine pure_ (i := 14) (N := some 136) (v := ?_) (a' := ?_) #[true, true, true, true, true, true, true, true, true, true, true, true, true, true, true] rfl rfl (any_of HT_.out (by kernel_rfl)) (fun _ _ _ h => h) (Or.inl ⟨by rfl, ?_⟩) ?_ ?_
                        rotate_left
                        ·intro w'
                         go_simp
                         with_reducible rfl
                        rotate_left
                        ·simp only [Act.put, List.setIfInBounds_toArray, List.set_cons_zero, List.set_cons_succ, i64_w, i32_w]
                         rfl
                        refine done_ (done_of HT_.out (by kernel_rfl)) ?_
                        try go_wp2
                        go_roundg k6
                        case measure => have := HK1.out; have := HK2.out; have := HK3.out; have := HJ37.out; have := HK5.out; have := HK6.out; omega
                        case rel => exact ⟨(wrap64 (x17_6 + 1)), (by first | rfl | (simp; done) | (simp [*]; done)), H', ⟨by have := HK1.out; have := HK2.out; have := HK3.out; have := HJ37.out; have := HK5.out; have := HK6.out; omega⟩, ⟨by (with_reducible repeat (first | apply Kd.N_alloc | apply Kd.N_drewN | apply Kd.N_drew)); exact HO_7.out⟩, ⟨by (with_reducible repeat (first | apply Kd.N_alloc | apply Kd.N_drewN | apply Kd.N_drew)); exact HO_8.out⟩, ⟨by (with_reducible repeat (first | apply Kd.R_alloc | apply Kd.R_drewN | apply Kd.R_drew)); exact HO_9.out⟩, ⟨by repeat (first | (with_reducible first | exact HB.out | apply below_alloc | apply pw_below_drewN | apply below_drew1) | exact HB.out)⟩⟩
                       ·replace c64 := Bool.eq_false_iff.mpr c64
                        subst c64
                        have H1 : (some false) = some r := by rw [if_neg (show ¬ (false = true) by decide)] at H; exact H
                        clear H
                        have H := H1
                        clear H1
                        obtain rfl := Option.some.inj H
                        have p461 : 0 ≤ (x13_2 : Int) := of_decide_eq_true (by first | (with_reducible assumption) | assumption)
                        have q461 : x13_2 < (t439.length : Int) := of_decide_eq_true (by first | (with_reducible assumption) | assumption)
                        obtain ⟨ad461, A461_0, c461_0, e461, hx461_0, hl461_0, hi461_0⟩ := at_L1 (Kd.N_reads' HO_8.out).2.2 x13_2 p461 q461
                        obtain rfl : ad449 = ad461 := (by injection e461)
                        obtain ⟨ce461, hce461, hMe461, hcc461⟩ := Kd.N_get HO_8.out [] x13_2 p461 (by first | exact q461 | exact of_decide_eq_true (by first | (with_reducible assumption) | assumption) | (have e_ := (Kd.N_reads' HO_8.out).1; omega))
                        obtain ⟨ua461_0, uc461_0, rfl, ul461_0, ge461_0⟩ := Kd.FK_slice_open hMe461
                        have hv461_0 := hcc461 0 _ rfl
                        rw [Nat.add_zero, show ((Kd.slice 3 (Kd.int .i64))).sz = 1 from rfl, Nat.mul_one] at hv461_0
                        replace hv461_0 := Option.some.inj (hv461_0.symm.trans hx461_0)
                        injection hv461_0 with hva_ hvn_ hvc_
                        rw [hva_] at ge461_0
                        rw [hvc_] at ul461_0
                        have HL461_0 := Aside0.mk (show Kd.V (Kd.int .i64) 3 _ w.heap.size _ _ (rd_L1 t439 x13_2) from Kd.V_mk ul461_0 ge461_0)
                        clear hva_ hvn_ hvc_ ge461_0 ul461_0
                        clear hcc461 hce461
                        have HR461_0 := Aside0.mk hi461_0
                        have HC461_0 := Aside0.mk hl461_0
                        clear hi461_0 hl461_0
                        replace p461 := eq_true p461
                        replace q461 := eq_true q461
                        try go_wp2
                        have n0_ := Aside0.mk (Kd.N_drew HO_7.out)
                        have n1_ := Aside0.mk (Kd.N_drew HO_8.out)
                        have n2_ := Aside0.mk (Kd.R_drew HO_9.out)
                        have n3_ := Aside0.mk (Kd.V_drew HL461_0.out)
                        have n4_ := Aside0.mk (Kd.C_drew HR461_0.out)
                        have n5_ := Aside0.mk (below_drew1 HB.out)
                        clear HO_7
                        clear HO_8
                        clear HO_9
                        clear HL461_0
                        clear HR461_0
                        clear HB
                        have HO_7 := n0_
                        have HO_8 := n1_
                        have HO_9 := n2_
                        have HL461_0 := n3_
                        have HR461_0 := n4_
                        have HB := n5_
                        clear n0_ n1_ n2_ n3_ n4_ n5_
                        have p462 : 0 ≤ (x13_2 : Int) := of_decide_eq_true (by first | (with_reducible assumption) | assumption)
                        have q462 : x13_2 < (t439.length : Int) := of_decide_eq_true (by first | (with_reducible assumption) | assumption)
                        obtain ⟨ad462, A462_0, c462_0, e462, hx462_0, hl462_0, hi462_0⟩ := at_L1 (Kd.N_reads' HO_8.out).2.2 x13_2 p462 q462
                        obtain rfl : ad449 = ad462 := (by injection e462)
                        obtain ⟨ce462, hce462, hMe462, hcc462⟩ := Kd.N_get HO_8.out [] x13_2 p462 (by first | exact q462 | exact of_decide_eq_true (by first | (with_reducible assumption) | assumption) | (have e_ := (Kd.N_reads' HO_8.out).1; omega))
                        obtain ⟨ua462_0, uc462_0, rfl, ul462_0, ge462_0⟩ := Kd.FK_slice_open hMe462
                        have hv462_0 := hcc462 0 _ rfl
                        rw [Nat.add_zero, show ((Kd.slice 3 (Kd.int .i64))).sz = 1 from rfl, Nat.mul_one] at hv462_0
                        replace hv462_0 := Option.some.inj (hv462_0.symm.trans hx462_0)
                        injection hv462_0 with hva_ hvn_ hvc_
                        rw [hva_] at ge462_0
                        rw [hvc_] at ul462_0
                        have HL462_0 := Aside0.mk (show Kd.V (Kd.int .i64) 3 _ w.heap.size _ _ (rd_L1 t439 x13_2) from Kd.V_mk ul462_0 ge462_0)
                        clear hva_ hvn_ hvc_ ge462_0 ul462_0
                        clear hcc462 hce462
                        have HR462_0 := Aside0.mk hi462_0
                        have HC462_0 := Aside0.mk hl462_0
                        clear hi462_0 hl462_0
                        replace p462 := eq_true p462
                        replace q462 := eq_true q462
                        have q70 : (x17_6 : Int) ≤ (((rd_L1 t439 x13_2).length : Int) : Int) := of_decide_eq_true (by first | (with_reducible assumption) | assumption)
                        obtain ⟨i070, hi070, _, hsz70, _⟩ := info_parts info3
                        have hroom70 : (rd_L1 t439 x13_2).length ≤ c462_0 := HC462_0.out
                        have hC70 : Kd.F (Kd.int .i64) _ _ A462_0 (rd_L1 t439 x13_2).length (rd_L1 t439 x13_2) := (Kd.V_at (base := w.heap.size) HL462_0.out).2.2
                        have hcut70 := cut_to (P := Try.prog) 22 3 .i64 Try.underlying22 hi070 A462_0 (rd_L1 t439 x13_2).length c462_0 x17_6 (of_decide_eq_true (by first | (with_reducible assumption) | assumption)) q70 hroom70
                        have hr70 := Kd.F_take (m := (x17_6 : Int).toNat) hC70 (by omega)
                        have hy70 : y463.length = (x17_6 : Int).toNat := (by rw [Ny463.out, List.length_take]; omega)
                        rw [← Ny463.out] at hr70
                        rw [← hy70] at hcut70
                        have HO467 := Aside0.mk (show Kd.V (Kd.int .i64) 3 _ w.heap.size _ (.slice A462_0 y463.length c462_0) y463 from Kd.V_mk (by omega) hr70)
                        have HC467 := Aside0.mk (show y463.length ≤ c462_0 from by omega)
                        clear hr70 hC70 hroom70 hi070 hsz70
                        have KY70 := Aside0.mk hy70
                        clear hy70
                        replace q70 := eq_true q70
                        have p468 : 0 ≤ (x13_2 : Int) := of_decide_eq_true (by first | (with_reducible assumption) | assumption)
                        have q468 : x13_2 < (t439.length : Int) := of_decide_eq_true (by first | (with_reducible assumption) | assumption)
                        obtain ⟨ad468, A468_0, c468_0, e468, hx468_0, hl468_0, hi468_0⟩ := at_L1 (Kd.N_reads' HO_8.out).2.2 x13_2 p468 q468
                        obtain rfl : ad449 = ad468 := (by injection e468)
                        obtain ⟨ce468, hce468, hMe468, hcc468⟩ := Kd.N_get HO_8.out [] x13_2 p468 (by first | exact q468 | exact of_decide_eq_true (by first | (with_reducible assumption) | assumption) | (have e_ := (Kd.N_reads' HO_8.out).1; omega))
                        obtain ⟨ua468_0, uc468_0, rfl, ul468_0, ge468_0⟩ := Kd.FK_slice_open hMe468
                        have hv468_0 := hcc468 0 _ rfl
                        rw [Nat.add_zero, show ((Kd.slice 3 (Kd.int .i64))).sz = 1 from rfl, Nat.mul_one] at hv468_0
                        replace hv468_0 := Option.some.inj (hv468_0.symm.trans hx468_0)
                        injection hv468_0 with hva_ hvn_ hvc_
                        rw [hva_] at ge468_0
                        rw [hvc_] at ul468_0
                        have HL468_0 := Aside0.mk (show Kd.V (Kd.int .i64) 3 _ w.heap.size _ _ (rd_L1 t439 x13_2) from Kd.V_mk ul468_0 ge468_0)
                        clear hva_ hvn_ hvc_ ge468_0 ul468_0
                        clear hcc468 hce468
                        have HR468_0 := Aside0.mk hi468_0
                        have HC468_0 := Aside0.mk hl468_0
                        clear hi468_0 hl468_0
                        replace p468 := eq_true p468
                        replace q468 := eq_true q468
                        have ea_ := Option.some.inj (hx462_0.symm.trans hx468_0)
                        injection ea_ with ea_ en_ ec_
                        subst ea_
                        subst ec_
                        clear en_
                        have q71 : (x17_6 : Int) ≤ (((rd_L1 t439 x13_2).length : Int) : Int) := of_decide_eq_true (by first | (with_reducible assumption) | assumption)
                        obtain ⟨i071, hi071, _, hsz71, _⟩ := info_parts info3
                        have hroom71 : (rd_L1 t439 x13_2).length ≤ c462_0 := HC468_0.out
                        have hC71 : Kd.F (Kd.int .i64) _ _ A462_0 (rd_L1 t439 x13_2).length (rd_L1 t439 x13_2) := (Kd.V_at (base := w.heap.size) HL468_0.out).2.2
                        have q071 : (0 : Int) ≤ (x17_6 : Int) := of_decide_eq_true (by first | (with_reducible assumption) | assumption)
                        have hcut71 := cut_from (P := Try.prog) 22 3 .i64 Try.underlying22 hi071 1 hsz71 A462_0 (rd_L1 t439 x13_2).length c462_0 x17_6 q071 q71
                        have hr71 := Kd.F_cut (m := (x17_6 : Int).toNat) (c := c462_0) hC71 (by omega) hroom71
                        obtain ⟨A71, hA71⟩ : ∃ A1, A1 = (if c462_0 = (x17_6 : Int).toNat then A462_0 else (A462_0 : Option Addr).map (·.add ((x17_6 : Int).toNat * 1))) := ⟨_, rfl⟩
                        obtain ⟨c71, hc71⟩ : ∃ c1, c1 = c462_0 - (x17_6 : Int).toNat := ⟨_, rfl⟩
                        have hy71 : y469.length = (rd_L1 t439 x13_2).length - (x17_6 : Int).toNat := (by rw [Ny469.out, List.length_drop] <;> omega)
                        rw [show (rd_L1 t439 x13_2).drop (x17_6 : Int).toNat = y469 from Ny469.out.symm] at hr71
                        replace hr71 : Kd.F (Kd.int .i64) _ _ A71 y469.length y469 := (by rw [hA71]; exact hr71)
                        rw [← hy71, ← hA71, ← hc71] at hcut71
                        have HO473 := Aside0.mk (show Kd.V (Kd.int .i64) 3 _ w.heap.size _ (.slice A71 y469.length c71) y469 from Kd.V_mk (by rw [hy71, hc71]; exact Nat.sub_le_sub_right hroom71 _) hr71)
                        have HC473 := Aside0.mk (show y469.length ≤ c71 from by rw [hy71, hc71]; exact Nat.sub_le_sub_right hroom71 _)
                        clear hr71 hC71 hroom71 hi071 hsz71 hc71
                        have KY71 := Aside0.mk hy71
                        have KA71 := Aside0.mk hA71
                        clear hy71 hA71
                        replace q71 := eq_true q71
                        refine start_ (n := 15) (S := fun w' => w'.cell? (ad449.add (x13_2).toNat) = some (.slice A462_0 (rd_L1 t439 x13_2).length c462_0) ∧ w'.cell? (ad449.add (x13_2).toNat) = some (.slice A462_0 (rd_L1 t439 x13_2).length c462_0)) (ds := []) #[false, false, false, false, false, false, false, false, false, false, false, false, false, false, false] (by kernel_rfl) rfl rfl ⟨hx462_0, hx468_0⟩ (fun hHeld => ?_); refine with_tabW worldmintlaw27_BidsApart.tab30 worldmintlaw27_BidsApart.bits30 (fun HT_ HW_ => ?_)
                        generalize wr.drew = w69 at HO_7 HO_8 HO_9 HL461_0 HR461_0 HB HL462_0 HL468_0 HO467 HO473 HR462_0 HR468_0 hx462_0 hx468_0 hHeld ⊢
                        refine pure_ (i := 0) (N := some 122) (v := ?_) (a' := ?_) #[true, false, false, false, false, false, false, false, false, false, false, false, false, false, false] rfl rfl (any_of HT_.out (by kernel_rfl)) (fun _ _ _ h => h) (Or.inl ⟨by rfl, ?_⟩) ?_ ?_
                        rotate_left
                        ·intro w'
                         go_simp
                         with_reducible rfl
                        rotate_left
                        ·simp only [Act.put, List.setIfInBounds_toArray, List.set_cons_zero, List.set_cons_succ, i64_w, i32_w]
                         rfl
                        refine pure_ (i := 1) (N := some 123) (v := ?_) (a' := ?_) #[true, true, false, false, false, false, false, false, false, false, false, false, false, false, false] rfl rfl (any_of HT_.out (by kernel_rfl)) (fun _ _ _ h => h) (Or.inl ⟨by rfl, ?_⟩) ?_ ?_
                        rotate_left
                        ·intro w'
                         go_simp
                         with_reducible rfl
                        rotate_left
                        ·simp only [Act.put, List.setIfInBounds_toArray, List.set_cons_zero, List.set_cons_succ, i64_w, i32_w]
                         rfl
                        refine pure_ (i := 2) (N := some 124) (v := ?_) (a' := ?_) #[true, true, true, false, false, false, false, false, false, false, false, false, false, false, false] rfl rfl (any_of HT_.out (by kernel_rfl)) (fun _ _ _ h => h) (Or.inl ⟨by rfl, ?_⟩) ?_ ?_
                        rotate_left
                        ·intro w'
                         go_simp
                         with_reducible rfl
                        rotate_left
                        ·simp only [Act.put, List.setIfInBounds_toArray, List.set_cons_zero, List.set_cons_succ, i64_w, i32_w]
                         rfl
                        refine pure_ (i := 3) (N := some 125) (v := ?_) (a' := ?_) #[true, true, true, true, false, false, false, false, false, false, false, false, false, false, false] rfl rfl (any_of HT_.out (by kernel_rfl)) (fun _ _ _ h => h) (Or.inl ⟨by rfl, ?_⟩) ?_ ?_
                        rotate_left
                        ·intro w'
                         go_simp
                         with_reducible rfl
                        rotate_left
                        ·simp only [Act.put, List.setIfInBounds_toArray, List.set_cons_zero, List.set_cons_succ, i64_w, i32_w]
                         rfl
                        refine pure_ (i := 5) (N := some 127) (v := ?_) (a' := ?_) #[true, true, true, true, false, true, false, false, false, false, false, false, false, false, false] rfl rfl (any_of HT_.out (by kernel_rfl)) (fun _ _ _ h => h) (Or.inl ⟨by rfl, ?_⟩) ?_ ?_
                        rotate_left
                        ·intro w'
                         go_simp
                         with_reducible rfl
                        rotate_left
                        ·simp only [Act.put, List.setIfInBounds_toArray, List.set_cons_zero, List.set_cons_succ, i64_w, i32_w]
                         rfl
                        refine pure_ (i := 7) (N := some 129) (v := ?_) (a' := ?_) #[true, true, true, true, false, true, false, true, false, false, false, false, false, false, false] rfl rfl (any_of HT_.out (by kernel_rfl)) (fun _ _ _ h => h) (Or.inl ⟨by rfl, ?_⟩) ?_ ?_
                        rotate_left
                        ·intro w'
                         go_simp
                         with_reducible rfl
                        rotate_left
                        ·simp only [Act.put, List.setIfInBounds_toArray, List.set_cons_zero, List.set_cons_succ, i64_w, i32_w]
                         rfl
                        refine pure_ (i := 8) (N := some 130) (v := ?_) (a' := ?_) #[true, true, true, true, false, true, false, true, true, false, false, false, false, false, false] rfl rfl (any_of HT_.out (by kernel_rfl)) (fun _ _ _ h => h) (Or.inl ⟨by rfl, ?_⟩) ?_ ?_
                        rotate_left
                        ·intro w'
                         go_simp
                         with_reducible rfl
                        rotate_left
                        ·simp only [Act.put, List.setIfInBounds_toArray, List.set_cons_zero, List.set_cons_succ, i64_w, i32_w]
                         rfl
                        refine pure_ (i := 9) (N := some 131) (v := ?_) (a' := ?_) #[true, true, true, true, false, true, false, true, true, true, false, false, false, false, false] rfl rfl (any_of HT_.out (by kernel_rfl)) (fun _ _ _ h => h) (Or.inl ⟨by rfl, ?_⟩) ?_ ?_
                        rotate_left
                        ·intro w'
                         go_simp
                         with_reducible rfl
                        rotate_left
                        ·simp only [Act.put, List.setIfInBounds_toArray, List.set_cons_zero, List.set_cons_succ, i64_w, i32_w]
                         rfl
                        refine pure_ (i := 11) (N := some 133) (v := ?_) (a' := ?_) #[true, true, true, true, false, true, false, true, true, true, false, true, false, false, false] rfl rfl (any_of HT_.out (by kernel_rfl)) (fun _ _ _ h => h) (Or.inl ⟨by rfl, ?_⟩) ?_ ?_
                        rotate_left
                        ·intro w'
                         go_simp
                         with_reducible rfl
                        rotate_left
                        ·simp only [Act.put, List.setIfInBounds_toArray, List.set_cons_zero, List.set_cons_succ, i64_w, i32_w]
                         rfl
                        refine take_ (i := 4) (N := some 126) (v := ?_) (a' := ?_) #[true, true, true, true, true, true, false, true, true, true, false, true, false, false, false] rfl rfl (take_ofW HT_.out HW_.out (by kernel_rfl)) (fun _ _ _ h => h) (Or.inl ⟨by rfl, ?_⟩) hHeld ?_ ?_
                        rotate_left
                        ·rintro w' ⟨s0, s1⟩
                         go_simp
                         with_reducible rfl
                        rotate_left
                        ·simp only [Act.put, List.setIfInBounds_toArray, List.set_cons_zero, List.set_cons_succ, i64_w, i32_w]
                         rfl
                        refine pure_ (i := 6) (N := some 128) (v := ?_) (a' := ?_) #[true, true, true, true, true, true, true, true, true, true, false, true, false, false, false] rfl rfl (any_of HT_.out (by kernel_rfl)) (fun _ _ _ h => h) (Or.inl ⟨by rfl, ?_⟩) ?_ ?_
                        rotate_left
                        ·intro w'
                         go_simp
                         with_reducible rfl
                        rotate_left
                        ·simp only [Act.put, List.setIfInBounds_toArray, List.set_cons_zero, List.set_cons_succ, i64_w, i32_w]
                         rfl
                        refine take_ (i := 10) (N := some 132) (v := ?_) (a' := ?_) #[true, true, true, true, true, true, true, true, true, true, true, true, false, false, false] rfl rfl (take_ofW HT_.out HW_.out (by kernel_rfl)) (fun _ _ _ h => h) (Or.inl ⟨by rfl, ?_⟩) hHeld ?_ ?_
                        rotate_left
                        ·rintro w' ⟨s0, s1⟩
                         go_simp
                         with_reducible rfl
                        rotate_left
                        ·simp only [Act.put, List.setIfInBounds_toArray, List.set_cons_zero, List.set_cons_succ, i64_w, i32_w]
                         rfl
                        refine pure_ (i := 12) (N := some 134) (v := ?_) (a' := ?_) #[true, true, true, true, true, true, true, true, true, true, true, true, true, false, false] rfl rfl (any_of HT_.out (by kernel_rfl)) (fun _ _ _ h => h) (Or.inl ⟨by rfl, ?_⟩) ?_ ?_
                        rotate_left
                        ·intro w'
                         go_simp
                         with_reducible rfl
                        rotate_left
                        ·simp only [Act.put, List.setIfInBounds_toArray, List.set_cons_zero, List.set_cons_succ, i64_w, i32_w]
                         rfl
                        refine one_ (i := 13) (N := some 135) #[true, true, true, true, true, true, true, true, true, true, true, true, true, true, false] rfl rfl (one_of HT_.out (by kernel_rfl)) (by decide) (fun K hK => ?_)
                        refine goes_ Try.func35 (by kernel_rfl) rfl #[.slice Ao14 t436.length co14, .slice A462_0 y463.length c462_0, .slice A71 y469.length c71] (by rfl) rfl rfl (by (try simp only [List.map_toArray, List.map_cons, List.map_nil]); first | done | rfl | (simp only [List.length_drop, List.length_take]; rfl)) ?_
                        with_reducible refine (worldmintlaw27_touch.calls k6 _ _ t436 _ _ y463 _ _ y469 false _ ?side1 ?side2 ?side3 ?side4 ?side5 ?side6 A63.out).mono ?_
                        (case side1 => repeat (first | exact (Kd.N_reads' HO_7.out).2.2 | (with_reducible refine Kd.C_alloc ?_ _) | (with_reducible refine Kd.C_drewN ?_ _) | (with_reducible refine Kd.C_drew ?_)))
                        (case side2 => exact (Kd.N_reads' HO_7.out).2.1)
                        (case side3 => repeat (first | exact (Kd.V_reads' HO467.out).2.2 | (with_reducible refine Kd.C_alloc ?_ _) | (with_reducible refine Kd.C_drewN ?_ _) | (with_reducible refine Kd.C_drew ?_)))
                        (case side4 => exact (Kd.V_reads' HO467.out).2.1)
                        (case side5 => repeat (first | exact (Kd.V_reads' HO473.out).2.2 | (with_reducible refine Kd.C_alloc ?_ _) | (with_reducible refine Kd.C_drewN ?_ _) | (with_reducible refine Kd.C_drew ?_)))
                        (case side6 => exact (Kd.V_reads' HO473.out).2.1)
                        rintro e w72 ⟨rfl, hb⟩
                        have HS0_ := (hb.cell (World.block_lt_of_cell? _ _ (hHeld.1))).trans (hHeld.1)
                        have HS1_ := (hb.cell (World.block_lt_of_cell? _ _ (hHeld.2))).trans (hHeld.2)
                        refine ⟨_, rfl, ?_⟩
                        have n0_ := Aside0.mk (Kd.N_below (by (with_reducible repeat (first | apply Kd.N_alloc | apply Kd.N_drewN | apply Kd.N_drew)); exact HO_7.out) hb)
                        have n1_ := Aside0.mk (Kd.N_below (by (with_reducible repeat (first | apply Kd.N_alloc | apply Kd.N_drewN | apply Kd.N_drew)); exact HO_8.out) hb)
                        have n2_ := Aside0.mk (Kd.R_below (by (with_reducible repeat (first | apply Kd.R_alloc | apply Kd.R_drewN | apply Kd.R_drew)); exact HO_9.out) hb)
                        have n3_ := Aside0.mk (Kd.V_below (by (with_reducible repeat (first | apply Kd.V_alloc | apply Kd.V_drewN | apply Kd.V_drew)); exact HL461_0.out) hb)
                        have n4_ := Aside0.mk (Kd.V_below (by (with_reducible repeat (first | apply Kd.V_alloc | apply Kd.V_drewN | apply Kd.V_drew)); exact HL462_0.out) hb)
                        have n5_ := Aside0.mk (Kd.V_below (by (with_reducible repeat (first | apply Kd.V_alloc | apply Kd.V_drewN | apply Kd.V_drew)); exact HO467.out) hb)
                        have n6_ := Aside0.mk (Kd.V_below (by (with_reducible repeat (first | apply Kd.V_alloc | apply Kd.V_drewN | apply Kd.V_drew)); exact HL468_0.out) hb)
                        have n7_ := Aside0.mk (Kd.V_below (by (with_reducible repeat (first | apply Kd.V_alloc | apply Kd.V_drewN | apply Kd.V_drew)); exact HO473.out) hb)
                        have n8_ := Aside0.mk (Kd.C_below (by first | (with_reducible exact HR461_0.out) | (with_reducible exact Kd.C_drewN HR461_0.out _)) hb)
                        have n9_ := Aside0.mk (Kd.C_below (by first | (with_reducible exact HR462_0.out) | (with_reducible exact Kd.C_drewN HR462_0.out _)) hb)
                        have n10_ := Aside0.mk (Kd.C_below (by first | (with_reducible exact HR468_0.out) | (with_reducible exact Kd.C_drewN HR468_0.out _)) hb)
                        have n11_ := Aside0.mk (below_step (by repeat (first | (with_reducible first | exact HB.out | apply below_alloc | apply pw_below_drewN | apply below_drew1) | exact HB.out)) hb)
                        clear HO_7
                        clear HO_8
                        clear HO_9
                        clear HL461_0
                        clear HL462_0
                        clear HO467
                        clear HL468_0
                        clear HO473
                        clear HR461_0
                        clear HR462_0
                        clear HR468_0
                        clear HB
                        have HO_7 := n0_
                        have HO_8 := n1_
                        have HO_9 := n2_
                        have HL461_0 := n3_
                        have HL462_0 := n4_
                        have HO467 := n5_
                        have HL468_0 := n6_
                        have HO473 := n7_
                        have HR461_0 := n8_
                        have HR462_0 := n9_
                        have HR468_0 := n10_
                        have HB := n11_
                        clear n0_ n1_ n2_ n3_ n4_ n5_ n6_ n7_ n8_ n9_ n10_ n11_
                        (try clear hb)
                        (try clear hb2)
                        (try clear hk)
                        (try clear hi)
                        refine hK.out _ _ ⟨HS0_, HS1_⟩ (fun hHeld => ?_)
                        clear hK K
                        refine norm_ (a' := ?_) ?_ ?_
                        rotate_left
                        ·show Act.put _ (some 135) _ = _
                         simp only [Act.put, List.setIfInBounds_toArray, List.set_cons_zero, List.set_cons_succ, i64_w, i32_w]
                         rfl
                        refine pure_ (i := 14) (N := some 136) (v := ?_) (a' := ?_) #[true, true, true, true, true, true, true, true, true, true, true, true, true, true, true] rfl rfl (any_of HT_.out (by kernel_rfl)) (fun _ _ _ h => h) (Or.inl ⟨by rfl, ?_⟩) ?_ ?_
                        rotate_left
                        ·intro w'
                         go_simp
                         with_reducible rfl
                        rotate_left
                        ·simp only [Act.put, List.setIfInBounds_toArray, List.set_cons_zero, List.set_cons_succ, i64_w, i32_w]
                         rfl
                        refine done_ (done_of HT_.out (by kernel_rfl)) ?_
                        try go_wp2
                        go_ret
                        exact ⟨by first | rfl | (simp [errW_none, errW_some] <;> rfl) | (simp [*, errW_none, errW_some] <;> rfl), by repeat (first | (with_reducible first | exact HB.out | apply below_alloc | apply pw_below_drewN | apply below_drew1) | exact HB.out)⟩
                      ·rw [if_neg c60] at H
                       exact absurd H (by simp)
                     ·rw [if_neg c59] at H
                      exact absurd H (by simp)
                    ·rw [if_neg c58] at H
                     have c58b0 : decide (x17_6 < ((rd_L1 t439 x13_2).length : Int)) = false := decide_eq_false c58
                     clear c58
                     have H' := Aside0.mk H
                     clear H
                     have p461 : 0 ≤ (x13_2 : Int) := of_decide_eq_true (by first | (with_reducible assumption) | assumption)
                     have q461 : x13_2 < (t439.length : Int) := of_decide_eq_true (by first | (with_reducible assumption) | assumption)
                     obtain ⟨ad461, A461_0, c461_0, e461, hx461_0, hl461_0, hi461_0⟩ := at_L1 (Kd.N_reads' HO_8.out).2.2 x13_2 p461 q461
                     obtain rfl : ad449 = ad461 := (by injection e461)
                     obtain ⟨ce461, hce461, hMe461, hcc461⟩ := Kd.N_get HO_8.out [] x13_2 p461 (by first | exact q461 | exact of_decide_eq_true (by first | (with_reducible assumption) | assumption) | (have e_ := (Kd.N_reads' HO_8.out).1; omega))
                     obtain ⟨ua461_0, uc461_0, rfl, ul461_0, ge461_0⟩ := Kd.FK_slice_open hMe461
                     have hv461_0 := hcc461 0 _ rfl
                     rw [Nat.add_zero, show ((Kd.slice 3 (Kd.int .i64))).sz = 1 from rfl, Nat.mul_one] at hv461_0
                     replace hv461_0 := Option.some.inj (hv461_0.symm.trans hx461_0)
                     injection hv461_0 with hva_ hvn_ hvc_
                     rw [hva_] at ge461_0
                     rw [hvc_] at ul461_0
                     have HL461_0 := Aside0.mk (show Kd.V (Kd.int .i64) 3 _ w.heap.size _ _ (rd_L1 t439 x13_2) from Kd.V_mk ul461_0 ge461_0)
                     clear hva_ hvn_ hvc_ ge461_0 ul461_0
                     clear hcc461 hce461
                     have HR461_0 := Aside0.mk hi461_0
                     have HC461_0 := Aside0.mk hl461_0
                     clear hi461_0 hl461_0
                     replace p461 := eq_true p461
                     replace q461 := eq_true q461
                     go_wp2
                     go_roundg k6
                     case measure => have := HK1.out; have := HK2.out; have := HK3.out; have := HJ37.out; have := HK5.out; have := HK6.out; omega
                     case rel => exact ⟨((wrap64 (x10_2 + ((rd_L1 t439 x13_2).length : Int)))), (x11_37), (wrap64 (x13_2 + 1)), (by first | rfl | (simp; done) | (simp [*]; done)), (by first | rfl | (simp; done) | (simp [*]; done)), (by first | rfl | (simp; done) | (simp [*]; done)), H', ⟨by have := HK1.out; have := HK2.out; have := HK3.out; have := HJ37.out; have := HK5.out; have := HK6.out; omega⟩, ⟨by (with_reducible repeat (first | apply Kd.N_alloc | apply Kd.N_drewN | apply Kd.N_drew)); exact HO_7.out⟩, ⟨by (with_reducible repeat (first | apply Kd.N_alloc | apply Kd.N_drewN | apply Kd.N_drew)); exact HO_8.out⟩, ⟨by (with_reducible repeat (first | apply Kd.R_alloc | apply Kd.R_drewN | apply Kd.R_drew)); exact HO_9.out⟩, ⟨by repeat (first | (with_reducible first | exact HB.out | apply below_alloc | apply pw_below_drewN | apply below_drew1) | exact HB.out)⟩⟩
                   ·rw [if_neg c57] at H
                    exact absurd H (by simp)
                  ·rw [if_neg c56] at H
                   exact absurd H (by simp)
       ·rw [if_neg c25] at H
        exact absurd H (by simp)
      ·rw [if_neg c24] at H
       have c24b0 : decide (x13_2 < (t439.length : Int)) = false := decide_eq_false c24
       clear c24
       have H' := Aside0.mk H
       clear H
       go_wp2
       go_loopg [18] k2 (fun kq v18 w' => ∃ (x18_3 : Int), v18 = .int .i64 x18_3 ∧ Aside0 (worldmintlaw27_BidsApart.l5 kq t436 t439 t444 x10_2 x11_2 x18_3 = some r) ∧ Aside0 (kq ≤ k2) ∧ Aside0 (Kd.N k38 38 w' w.heap.size (fun k_ => some k_ ≠ ((.slice Ao23 t439.length co23) : Value).ownBlock ∧ some k_ ≠ (v445 : Value).ownBlock) (.slice Ao14 t436.length co14) t436) ∧ Aside0 (Kd.N (Kd.slice 3 (Kd.int .i64)) 22 w' w.heap.size (fun k_ => some k_ ≠ ((.slice Ao14 t436.length co14) : Value).ownBlock ∧ some k_ ≠ (v445 : Value).ownBlock) (.slice Ao23 t439.length co23) t439) ∧ Aside0 (Kd.R (Kd.int .i64) 3 w' w.heap.size (fun _ => True) v445 t444) ∧ Aside0 (Below w.heap.size w w'))
       case atStart => exact ⟨(0), (by first | rfl | (simp; done) | (simp [*]; done)), H', ⟨Nat.le_refl _⟩, ⟨by (with_reducible repeat (first | apply Kd.N_alloc | apply Kd.N_drewN | apply Kd.N_drew)); exact HO_7.out⟩, ⟨by (with_reducible repeat (first | apply Kd.N_alloc | apply Kd.N_drewN | apply Kd.N_drew)); exact HO_8.out⟩, ⟨by (with_reducible repeat (first | apply Kd.R_alloc | apply Kd.R_drewN | apply Kd.R_drew)); exact HO_9.out⟩, ⟨by repeat (first | (with_reducible first | exact HB.out | apply below_alloc | apply pw_below_drewN | apply below_drew1) | exact HB.out)⟩⟩
       case round =>
        clear H'
        try clear c1
        try clear c2
        try clear p2
        try clear c3
        try clear c4
        try clear p4
        try clear q4
        try clear hx4
        try clear c5
        try clear c6
        try clear p6
        try clear q6
        try clear c7
        try clear q7
        try clear c24
        try clear c24b0
        try clear c25
        try clear c35
        try clear c46
        try clear p46
        try clear q46
        try clear hx46
        try clear c56
        try clear c57
        try clear c58
        try clear c58b0
        try clear c59
        try clear c60
        try clear c64
        try clear p64
        try clear q66
        try clear c67
        try clear q67
        try clear q70
        try clear c71
        try clear q71
        try clear hx461_0
        try clear hx462_0
        try clear hx468_0
        try clear p461
        try clear p462
        try clear p468
        try clear q067
        try clear q071
        try clear q461
        try clear q462
        try clear q468
        try clear q66
        try clear q67
        try clear q70
        try clear q71
        obtain ⟨x18_3, rfl, HA, HK3, HO_7, HO_8, HO_9, HB⟩ := hrel
        cases gk with
        | zero => exact absurd HA.out (by simp [worldmintlaw27_BidsApart.l5])
        | succ k3 =>
         have H := HA.out
         clear HA
         simp only [worldmintlaw27_BidsApart.l5] at H
         by_cases c73 : x18_3 < (t436.length : Int)
         ·rw [if_pos c73] at H
          have c73b0 : decide (x18_3 < (t436.length : Int)) = true := decide_eq_true c73
          clear c73
          have H' := Aside0.mk H
          clear H
          go_wp2
          go_loopg [19, 20] k3 (fun kq v19 v20 w' => ∃ (x19_4 : Int) (x20_4 : Int), v19 = .int .i64 x19_4 ∧ v20 = .int .i64 x20_4 ∧ Aside0 (worldmintlaw27_BidsApart.l6 kq t436 t439 t444 x10_2 x11_2 x18_3 x19_4 x20_4 = some r) ∧ Aside0 (kq ≤ k3) ∧ Aside0 (Kd.N k38 38 w' w.heap.size (fun k_ => some k_ ≠ ((.slice Ao23 t439.length co23) : Value).ownBlock ∧ some k_ ≠ (v445 : Value).ownBlock) (.slice Ao14 t436.length co14) t436) ∧ Aside0 (Kd.N (Kd.slice 3 (Kd.int .i64)) 22 w' w.heap.size (fun k_ => some k_ ≠ ((.slice Ao14 t436.length co14) : Value).ownBlock ∧ some k_ ≠ (v445 : Value).ownBlock) (.slice Ao23 t439.length co23) t439) ∧ Aside0 (Kd.R (Kd.int .i64) 3 w' w.heap.size (fun _ => True) v445 t444) ∧ Aside0 (Below w.heap.size w w'))
          case atStart => exact ⟨(0), (0), (by first | rfl | (simp; done) | (simp [*]; done)), (by first | rfl | (simp; done) | (simp [*]; done)), H', ⟨Nat.le_refl _⟩, ⟨by (with_reducible repeat (first | apply Kd.N_alloc | apply Kd.N_drewN | apply Kd.N_drew)); exact HO_7.out⟩, ⟨by (with_reducible repeat (first | apply Kd.N_alloc | apply Kd.N_drewN | apply Kd.N_drew)); exact HO_8.out⟩, ⟨by (with_reducible repeat (first | apply Kd.R_alloc | apply Kd.R_drewN | apply Kd.R_drew)); exact HO_9.out⟩, ⟨by repeat (first | (with_reducible first | exact HB.out | apply below_alloc | apply pw_below_drewN | apply below_drew1) | exact HB.out)⟩⟩
          case round =>
           clear H'
           try clear c1
           try clear c2
           try clear p2
           try clear c3
           try clear c4
           try clear p4
           try clear q4
           try clear hx4
           try clear c5
           try clear c6
           try clear p6
           try clear q6
           try clear c7
           try clear q7
           try clear c24
           try clear c24b0
           try clear c25
           try clear c35
           try clear c46
           try clear p46
           try clear q46
           try clear hx46
           try clear c56
           try clear c57
           try clear c58
           try clear c58b0
           try clear c59
           try clear c60
           try clear c64
           try clear p64
           try clear q66
           try clear c67
           try clear q67
           try clear q70
           try clear c71
           try clear q71
           try clear c73
           try clear c73b0
           try clear hx461_0
           try clear hx462_0
           try clear hx468_0
           try clear p2
           try clear p4
           try clear p46
           try clear p461
           try clear p462
           try clear p468
           try clear p6
           try clear p64
           try clear q067
           try clear q071
           try clear q4
           try clear q46
           try clear q461
           try clear q462
           try clear q468
           try clear q6
           try clear q66
           try clear q67
           try clear q7
           try clear q70
           try clear q71
           obtain ⟨x19_4, x20_4, rfl, rfl, HA, HK4, HO_7, HO_8, HO_9, HB⟩ := hrel
           cases gk with
           | zero => exact absurd HA.out (by simp [worldmintlaw27_BidsApart.l6])
           | succ k4 =>
            have H := HA.out
            clear HA
            simp only [worldmintlaw27_BidsApart.l6] at H
            by_cases c74 : x20_4 < (t439.length : Int)
            ·rw [if_pos c74] at H
             have c74b0 : decide (x20_4 < (t439.length : Int)) = true := decide_eq_true c74
             clear c74
             by_cases c75 : 0 ≤ x20_4
             ·rw [if_pos c75] at H
              have c75b0 : decide (0 ≤ x20_4) = true := decide_eq_true c75
              clear c75
              replace H := Option.bind_eq_some_iff.mp H
              obtain ⟨t478, A760, H⟩ := H
              replace H : (if t478 = true then (worldmintlaw27_BidsApart.l6 k4 t436 t439 t444 x10_2 x11_2 x18_3 (wrap64 (x19_4 + 1)) (wrap64 (x20_4 + 1))) else (worldmintlaw27_BidsApart.l6 k4 t436 t439 t444 x10_2 x11_2 x18_3 x19_4 (wrap64 (x20_4 + 1)))) = some r := H
              have A76 := Aside0.mk A760
              clear A760
              by_cases c77 : t478 = true
              ·subst c77
               have H1 : (worldmintlaw27_BidsApart.l6 k4 t436 t439 t444 x10_2 x11_2 x18_3 (wrap64 (x19_4 + 1)) (wrap64 (x20_4 + 1))) = some r := by rw [if_pos rfl] at H; exact H
               clear H
               have H := H1
               clear H1
               have H' := Aside0.mk H
               clear H
               have p477 : 0 ≤ (x20_4 : Int) := of_decide_eq_true (by first | (with_reducible assumption) | assumption)
               have q477 : x20_4 < (t439.length : Int) := of_decide_eq_true (by first | (with_reducible assumption) | assumption)
               obtain ⟨ad477, A477_0, c477_0, e477, hx477_0, hl477_0, hi477_0⟩ := at_L1 (Kd.N_reads' HO_8.out).2.2 x20_4 p477 q477
               cases e477
               obtain ⟨ce477, hce477, hMe477, hcc477⟩ := Kd.N_get HO_8.out [] x20_4 p477 (by first | exact q477 | exact of_decide_eq_true (by first | (with_reducible assumption) | assumption) | (have e_ := (Kd.N_reads' HO_8.out).1; omega))
               obtain ⟨ua477_0, uc477_0, rfl, ul477_0, ge477_0⟩ := Kd.FK_slice_open hMe477
               have hv477_0 := hcc477 0 _ rfl
               rw [Nat.add_zero, show ((Kd.slice 3 (Kd.int .i64))).sz = 1 from rfl, Nat.mul_one] at hv477_0
               replace hv477_0 := Option.some.inj (hv477_0.symm.trans hx477_0)
               injection hv477_0 with hva_ hvn_ hvc_
               rw [hva_] at ge477_0
               rw [hvc_] at ul477_0
               have HL477_0 := Aside0.mk (show Kd.V (Kd.int .i64) 3 _ w.heap.size _ _ (rd_L1 t439 x20_4) from Kd.V_mk ul477_0 ge477_0)
               clear hva_ hvn_ hvc_ ge477_0 ul477_0
               clear hcc477 hce477
               have HR477_0 := Aside0.mk hi477_0
               have HC477_0 := Aside0.mk hl477_0
               clear hi477_0 hl477_0
               replace p477 := eq_true p477
               replace q477 := eq_true q477
               go_wp2_with (first | ((with_reducible refine gate_callee (f := 32) rfl ?_); refine goesL_ (some 154) rfl rfl Try.func32 (by kernel_rfl) rfl #[.slice A477_0 (rd_L1 t439 x20_4).length c477_0, .int .i64 x18_3] rfl (by (try simp only [List.map_toArray, List.map_cons, List.map_nil]); first | done | rfl | (simp only [List.length_drop, List.length_take]; rfl)) ?_; (with_reducible refine (worldmintref01_Has.calls k4 _ _ (rd_L1 t439 x20_4) x18_3 true _ ?side1 ?side2 A76.out).mono ?_); (case side1 => repeat (first | exact (by first | (with_reducible exact HR477_0.out) | (with_reducible exact Kd.C_drewN HR477_0.out _)) | (with_reducible refine Kd.C_alloc ?_ _) | (with_reducible refine Kd.C_drewN ?_ _) | (with_reducible refine Kd.C_drew ?_))); (case side2 => exact HC477_0.out); rintro e w' ⟨rfl, ⟨nd, rfl⟩⟩; refine ⟨_, rfl, ?_⟩))
               go_roundg k4
               case measure => have := HK1.out; have := HK2.out; have := HK3.out; have := HK4.out; omega
               case rel => exact ⟨(wrap64 (x19_4 + 1)), (wrap64 (x20_4 + 1)), (by first | rfl | (simp; done) | (simp [*]; done)), (by first | rfl | (simp; done) | (simp [*]; done)), H', ⟨by have := HK1.out; have := HK2.out; have := HK3.out; have := HK4.out; omega⟩, ⟨by (with_reducible repeat (first | apply Kd.N_alloc | apply Kd.N_drewN | apply Kd.N_drew)); exact HO_7.out⟩, ⟨by (with_reducible repeat (first | apply Kd.N_alloc | apply Kd.N_drewN | apply Kd.N_drew)); exact HO_8.out⟩, ⟨by (with_reducible repeat (first | apply Kd.R_alloc | apply Kd.R_drewN | apply Kd.R_drew)); exact HO_9.out⟩, ⟨by repeat (first | (with_reducible first | exact HB.out | apply below_alloc | apply pw_below_drewN | apply below_drew1) | exact HB.out)⟩⟩
              ·replace c77 := Bool.eq_false_iff.mpr c77
               subst c77
               have H1 : (worldmintlaw27_BidsApart.l6 k4 t436 t439 t444 x10_2 x11_2 x18_3 x19_4 (wrap64 (x20_4 + 1))) = some r := by rw [if_neg (show ¬ (false = true) by decide)] at H; exact H
               clear H
               have H := H1
               clear H1
               have H' := Aside0.mk H
               clear H
               have p477 : 0 ≤ (x20_4 : Int) := of_decide_eq_true (by first | (with_reducible assumption) | assumption)
               have q477 : x20_4 < (t439.length : Int) := of_decide_eq_true (by first | (with_reducible assumption) | assumption)
               obtain ⟨ad477, A477_0, c477_0, e477, hx477_0, hl477_0, hi477_0⟩ := at_L1 (Kd.N_reads' HO_8.out).2.2 x20_4 p477 q477
               cases e477
               obtain ⟨ce477, hce477, hMe477, hcc477⟩ := Kd.N_get HO_8.out [] x20_4 p477 (by first | exact q477 | exact of_decide_eq_true (by first | (with_reducible assumption) | assumption) | (have e_ := (Kd.N_reads' HO_8.out).1; omega))
               obtain ⟨ua477_0, uc477_0, rfl, ul477_0, ge477_0⟩ := Kd.FK_slice_open hMe477
               have hv477_0 := hcc477 0 _ rfl
               rw [Nat.add_zero, show ((Kd.slice 3 (Kd.int .i64))).sz = 1 from rfl, Nat.mul_one] at hv477_0
               replace hv477_0 := Option.some.inj (hv477_0.symm.trans hx477_0)
               injection hv477_0 with hva_ hvn_ hvc_
               rw [hva_] at ge477_0
               rw [hvc_] at ul477_0
               have HL477_0 := Aside0.mk (show Kd.V (Kd.int .i64) 3 _ w.heap.size _ _ (rd_L1 t439 x20_4) from Kd.V_mk ul477_0 ge477_0)
               clear hva_ hvn_ hvc_ ge477_0 ul477_0
               clear hcc477 hce477
               have HR477_0 := Aside0.mk hi477_0
               have HC477_0 := Aside0.mk hl477_0
               clear hi477_0 hl477_0
               replace p477 := eq_true p477
               replace q477 := eq_true q477
               go_wp2_with (first | ((with_reducible refine gate_callee (f := 32) rfl ?_); refine goesL_ (some 154) rfl rfl Try.func32 (by kernel_rfl) rfl #[.slice A477_0 (rd_L1 t439 x20_4).length c477_0, .int .i64 x18_3] rfl (by (try simp only [List.map_toArray, List.map_cons, List.map_nil]); first | done | rfl | (simp only [List.length_drop, List.length_take]; rfl)) ?_; (with_reducible refine (worldmintref01_Has.calls k4 _ _ (rd_L1 t439 x20_4) x18_3 false _ ?side1 ?side2 A76.out).mono ?_); (case side1 => repeat (first | exact (by first | (with_reducible exact HR477_0.out) | (with_reducible exact Kd.C_drewN HR477_0.out _)) | (with_reducible refine Kd.C_alloc ?_ _) | (with_reducible refine Kd.C_drewN ?_ _) | (with_reducible refine Kd.C_drew ?_))); (case side2 => exact HC477_0.out); rintro e w' ⟨rfl, ⟨nd, rfl⟩⟩; refine ⟨_, rfl, ?_⟩))
               go_roundg k4
               case measure => have := HK1.out; have := HK2.out; have := HK3.out; have := HK4.out; omega
               case rel => exact ⟨(x19_4), (wrap64 (x20_4 + 1)), (by first | rfl | (simp; done) | (simp [*]; done)), (by first | rfl | (simp; done) | (simp [*]; done)), H', ⟨by have := HK1.out; have := HK2.out; have := HK3.out; have := HK4.out; omega⟩, ⟨by (with_reducible repeat (first | apply Kd.N_alloc | apply Kd.N_drewN | apply Kd.N_drew)); exact HO_7.out⟩, ⟨by (with_reducible repeat (first | apply Kd.N_alloc | apply Kd.N_drewN | apply Kd.N_drew)); exact HO_8.out⟩, ⟨by (with_reducible repeat (first | apply Kd.R_alloc | apply Kd.R_drewN | apply Kd.R_drew)); exact HO_9.out⟩, ⟨by repeat (first | (with_reducible first | exact HB.out | apply below_alloc | apply pw_below_drewN | apply below_drew1) | exact HB.out)⟩⟩
             ·rw [if_neg c75] at H
              exact absurd H (by simp)
            ·rw [if_neg c74] at H
             have c74b0 : decide (x20_4 < (t439.length : Int)) = false := decide_eq_false c74
             clear c74
             by_cases c78 : x19_4 = 1
             ·rw [if_pos c78] at H
              have c78b0 : (x19_4 == 1) = true := beq_iff_eq.mpr c78
              have c78b1 : (x19_4 != 1) = false := bne_eq_false_iff_eq.mpr c78
              clear c78
              have H' := Aside0.mk H
              clear H
              go_wp2
              go_roundg k4
              case measure => have := HK1.out; have := HK2.out; have := HK3.out; have := HK4.out; omega
              case rel => exact ⟨(wrap64 (x18_3 + 1)), (by first | rfl | (simp; done) | (simp [*]; done)), H', ⟨by have := HK1.out; have := HK2.out; have := HK3.out; have := HK4.out; omega⟩, ⟨by (with_reducible repeat (first | apply Kd.N_alloc | apply Kd.N_drewN | apply Kd.N_drew)); exact HO_7.out⟩, ⟨by (with_reducible repeat (first | apply Kd.N_alloc | apply Kd.N_drewN | apply Kd.N_drew)); exact HO_8.out⟩, ⟨by (with_reducible repeat (first | apply Kd.R_alloc | apply Kd.R_drewN | apply Kd.R_drew)); exact HO_9.out⟩, ⟨by repeat (first | (with_reducible first | exact HB.out | apply below_alloc | apply pw_below_drewN | apply below_drew1) | exact HB.out)⟩⟩
             ·rw [if_neg c78] at H
              have c78b0 : (x19_4 == 1) = false := beq_eq_false_iff_ne.mpr c78
              have c78b1 : (x19_4 != 1) = true := bne_iff_ne.mpr c78
              obtain rfl := Option.some.inj H
              go_wp2
              go_ret
              exact ⟨by first | rfl | (simp [errW_none, errW_some] <;> rfl) | (simp [*, errW_none, errW_some] <;> rfl), by repeat (first | (with_reducible first | exact HB.out | apply below_alloc | apply pw_below_drewN | apply below_drew1) | exact HB.out)⟩
         ·rw [if_neg c73] at H
          have c73b0 : decide (x18_3 < (t436.length : Int)) = false := decide_eq_false c73
          clear c73
          by_cases c79 : x10_2 = (t436.length : Int)
          ·rw [if_pos c79] at H
           have c79b0 : (x10_2 == (t436.length : Int)) = true := beq_iff_eq.mpr c79
           have c79b1 : (x10_2 != (t436.length : Int)) = false := bne_eq_false_iff_eq.mpr c79
           clear c79
           replace H := Option.bind_eq_some_iff.mp H
           obtain ⟨t475, A800, H⟩ := H
           replace H : (if (x11_2 == t475) = true then ((worldmintlaw27_lives.f k3).bind fun t476 => (some t476)) else (some false)) = some r := H
           have A80 := Aside0.mk A800
           clear A800
           by_cases c81 : (x11_2 == t475) = true
           ·rw [if_pos c81] at H
            have c81b0 : (x11_2 == t475) = true := c81
            (try (have c81b1 : decide (x11_2 = t475) = true := by simpa using c81))
            (try (have c81b2 : (x11_2 == t475) = true := by simpa using c81))
            clear c81
            replace H := Option.bind_eq_some_iff.mp H
            obtain ⟨t476, A820, H⟩ := H
            replace H : (some t476) = some r := H
            have A82 := Aside0.mk A820
            clear A820
            obtain rfl := Option.some.inj H
            obtain ⟨Ao83, co83, eo83⟩ := Kd.R_slice HO_9.out
            subst eo83
            go_wp2_with (first | (go_at_call 21; (with_reducible refine (bids_Feasible.calls _ _ t436 _ _ t444 t475 _ ?side1 ?side2 ?side3 ?side4 A80.out).mono ?_); (case side1 => repeat (first | exact (Kd.N_reads' HO_7.out).2.2 | (with_reducible refine Kd.C_alloc ?_ _) | (with_reducible refine Kd.C_drewN ?_ _) | (with_reducible refine Kd.C_drew ?_))); (case side2 => exact (Kd.N_reads' HO_7.out).2.1); (case side3 => repeat (first | exact (Kd.R_reads' HO_9.out).2.2 | (with_reducible refine Kd.C_alloc ?_ _) | (with_reducible refine Kd.C_drewN ?_ _) | (with_reducible refine Kd.C_drew ?_))); (case side4 => exact (Kd.R_reads' HO_9.out).2.1); rintro e w84 ⟨rfl, hb⟩; have n0_ := Aside0.mk (Kd.N_below (by (with_reducible repeat (first | apply Kd.N_alloc | apply Kd.N_drewN | apply Kd.N_drew)); exact HO_7.out) hb); have n1_ := Aside0.mk (Kd.N_below (by (with_reducible repeat (first | apply Kd.N_alloc | apply Kd.N_drewN | apply Kd.N_drew)); exact HO_8.out) hb); have n2_ := Aside0.mk (Kd.R_below (by (with_reducible repeat (first | apply Kd.R_alloc | apply Kd.R_drewN | apply Kd.R_drew)); exact HO_9.out) hb); have n3_ := Aside0.mk (below_step (by repeat (first | (with_reducible first | exact HB.out | apply below_alloc | apply pw_below_drewN | apply below_drew1) | exact HB.out)) hb); clear HO_7; clear HO_8; clear HO_9; clear HB; have HO_7 := n0_; have HO_8 := n1_; have HO_9 := n2_; have HB := n3_; clear n0_ n1_ n2_ n3_; (try clear hb); (try clear hb2); (try clear hk); (try clear hi)) | (go_at_call 17; (with_reducible refine (worldmintlaw27_lives.calls k3  t476 _ A82.out).mono ?_); rintro e w85 ⟨rfl, hb⟩; have n0_ := Aside0.mk (Kd.N_below (by (with_reducible repeat (first | apply Kd.N_alloc | apply Kd.N_drewN | apply Kd.N_drew)); exact HO_7.out) hb); have n1_ := Aside0.mk (Kd.N_below (by (with_reducible repeat (first | apply Kd.N_alloc | apply Kd.N_drewN | apply Kd.N_drew)); exact HO_8.out) hb); have n2_ := Aside0.mk (Kd.R_below (by (with_reducible repeat (first | apply Kd.R_alloc | apply Kd.R_drewN | apply Kd.R_drew)); exact HO_9.out) hb); have n3_ := Aside0.mk (below_step (by repeat (first | (with_reducible first | exact HB.out | apply below_alloc | apply pw_below_drewN | apply below_drew1) | exact HB.out)) hb); clear HO_7; clear HO_8; clear HO_9; clear HB; have HO_7 := n0_; have HO_8 := n1_; have HO_9 := n2_; have HB := n3_; clear n0_ n1_ n2_ n3_; (try clear hb); (try clear hb2); (try clear hk); (try clear hi)))
            go_ret
            exact ⟨by first | rfl | (simp [errW_none, errW_some] <;> rfl) | (simp [*, errW_none, errW_some] <;> rfl), by repeat (first | (with_reducible first | exact HB.out | apply below_alloc | apply pw_below_drewN | apply below_drew1) | exact HB.out)⟩
           ·rw [if_neg c81] at H
            have c81b0 : (x11_2 == t475) = false := by simpa using c81
            (try (have c81b1 : decide (x11_2 = t475) = false := by simpa using c81))
            (try (have c81b2 : (x11_2 == t475) = false := by simpa using c81))
            (try (have c81b3 : ¬ (x11_2 = t475) := by simpa using c81))
            clear c81
            obtain rfl := Option.some.inj H
            obtain ⟨Ao86, co86, eo86⟩ := Kd.R_slice HO_9.out
            subst eo86
            go_wp2_with (first | (go_at_call 21; (with_reducible refine (bids_Feasible.calls _ _ t436 _ _ t444 t475 _ ?side1 ?side2 ?side3 ?side4 A80.out).mono ?_); (case side1 => repeat (first | exact (Kd.N_reads' HO_7.out).2.2 | (with_reducible refine Kd.C_alloc ?_ _) | (with_reducible refine Kd.C_drewN ?_ _) | (with_reducible refine Kd.C_drew ?_))); (case side2 => exact (Kd.N_reads' HO_7.out).2.1); (case side3 => repeat (first | exact (Kd.R_reads' HO_9.out).2.2 | (with_reducible refine Kd.C_alloc ?_ _) | (with_reducible refine Kd.C_drewN ?_ _) | (with_reducible refine Kd.C_drew ?_))); (case side4 => exact (Kd.R_reads' HO_9.out).2.1); rintro e w87 ⟨rfl, hb⟩; have n0_ := Aside0.mk (Kd.N_below (by (with_reducible repeat (first | apply Kd.N_alloc | apply Kd.N_drewN | apply Kd.N_drew)); exact HO_7.out) hb); have n1_ := Aside0.mk (Kd.N_below (by (with_reducible repeat (first | apply Kd.N_alloc | apply Kd.N_drewN | apply Kd.N_drew)); exact HO_8.out) hb); have n2_ := Aside0.mk (Kd.R_below (by (with_reducible repeat (first | apply Kd.R_alloc | apply Kd.R_drewN | apply Kd.R_drew)); exact HO_9.out) hb); have n3_ := Aside0.mk (below_step (by repeat (first | (with_reducible first | exact HB.out | apply below_alloc | apply pw_below_drewN | apply below_drew1) | exact HB.out)) hb); clear HO_7; clear HO_8; clear HO_9; clear HB; have HO_7 := n0_; have HO_8 := n1_; have HO_9 := n2_; have HB := n3_; clear n0_ n1_ n2_ n3_; (try clear hb); (try clear hb2); (try clear hk); (try clear hi)))
            go_ret
            exact ⟨by first | rfl | (simp [errW_none, errW_some] <;> rfl) | (simp [*, errW_none, errW_some] <;> rfl), by repeat (first | (with_reducible first | exact HB.out | apply below_alloc | apply pw_below_drewN | apply below_drew1) | exact HB.out)⟩
          ·rw [if_neg c79] at H
           have c79b0 : (x10_2 == (t436.length : Int)) = false := beq_eq_false_iff_ne.mpr c79
           have c79b1 : (x10_2 != (t436.length : Int)) = true := bne_iff_ne.mpr c79
           obtain rfl := Option.some.inj H
           go_wp2
           go_ret
           exact ⟨by first | rfl | (simp [errW_none, errW_some] <;> rfl) | (simp [*, errW_none, errW_some] <;> rfl), by repeat (first | (with_reducible first | exact HB.out | apply below_alloc | apply pw_below_drewN | apply below_drew1) | exact HB.out)⟩

/-- THE ONE PURE STATEMENT of worldmintlaw27_BidsApart: yours. -/
def worldmintlaw27_BidsApart.Pure : Prop := ∀ (a0 : Int) (l1 : List Int) (a2 : Int), (Lit.int .i64 a0).wf = true → l1.length ≤ maxLen → l1.length * 8 ≤ 140737488351232 → (∀ x ∈ l1, (Lit.int .i64 x).wf = true) → (Lit.int .i64 a2).wf = true → ∃ k, worldmintlaw27_BidsApart.f k a0 l1 a2 = some true
theorem worldmintlaw27_BidsApart.walk (P : worldmintlaw27_BidsApart.Pure) (a0 : Int) (a1 : Option Addr) (len1 cap1 : Nat) (z1 : List Int) (a2 : Int) (w : World) (w0 : (Lit.int .i64 a0).wf = true) (w1 : (a1 = none ∧ len1 = 0 ∧ cap1 = 0 ∧ z1 = []) ∨ ∃ x, a1 = some x ∧ len1 ≤ cap1 ∧ cap1 ≤ maxLen ∧ z1.length = cap1 ∧ (∀ i, i < z1.length → w.cell? (x.add i) = some (.int .i64 (z1.getD i 0))) ∧ ∀ n ∈ z1, (Lit.int .i64 n).wf = true) (y1 : len1 * 8 ≤ 140737488351232) (w2 : (Lit.int .i64 a2).wf = true) :
  Calls Try.prog 8 #[.int .i64 a0, .slice a1 len1 cap1, .int .i64 a2] w fun e w' => e = .returned (.bool true) ∧ Below w.heap.size w w' := by
 obtain ⟨l1, rfl, hr1, hm1, hw1, hc1⟩ := ReadsInt.ofRowC w1
 obtain ⟨k, h⟩ := P a0 l1 a2 w0 hm1 y1 hw1 w2
 refine (worldmintlaw27_BidsApart.calls k a0 _ _ l1 a2 true w (Kd.C_of_reads (d := (0 : Int)) (h1 := fun _ => rfl) hr1) hc1 h).mono ?_
 rintro e w' ⟨rfl, hd⟩
 exact ⟨rfl, hd⟩

end Go.Proofs.Ytdbpdkmnnlippaa.H
