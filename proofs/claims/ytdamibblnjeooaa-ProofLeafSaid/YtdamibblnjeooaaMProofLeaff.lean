/- Texts of this claim, one behind the other. -/
import Derived.Test.YtdamibblnjeooaaMProofLeafb
import Derived.Test.YtdamibblnjeooaaMProofLeafc
import Derived.Test.YtdamibblnjeooaaMProofLeafe
import Derived.Test.YtdamibblnjeooaaMProofLeafd

/- Written by a program of this session over the kit's printer: what the functions named below compute, and that the machine's calls compute it. Not trusted: Lean checks it. -/
namespace Go.Proofs.Ytdamibblnjeooaa.H
open Go.RowKit Go.Proofs.YtdamibblnjeooaaW.PrintWords Go.Proofs.YtdamibblnjeooaaW.PrintLast Go.Proofs.YtdamibblnjeooaaW.PrintMore
attribute [local go_sem] max2_int min2_int max_two min_two max_three min_three max_four min_four   -- for this text's walks alone
set_option linter.unusedVariables false
set_option linter.unusedSimpArgs false

/-! ### worldmintlaw29_ProofLeaf: function 5 -/
def worldmintlaw29_ProofLeaf.f (k : Nat) (a0 : Int) (l1 : List Int) (l2 : List Int) (a3 : Int) : Option (Bool) := (worldmintref27_Lots.f a0).bind fun t231 => ((worldmintref27_Bids.f k t231 l1 8).bind fun t232 => ((worldmintlaw29_given.f k t232).bind fun t235 => ((worldmintref29_Win.f k t231 t232 a3).bind fun t238 => ((worldmintref28_Lots.f k t231 l2).bind fun t241 => ((clear_Bound.f t231 t235 t241).bind fun bt244 => ((bids_Value.f k t235 t238).bind fun t246 => (if bt244.2 = 0 then ((proof_Check.f t231 t235 t238 t246 (([(⟨(-1), 0, 0, t241⟩ : S55)] : List (S55)))).bind fun t251 => (if ((t251 == 0) == (decide (bt244.1 ≤ t246))) = true then ((worldmintlaw29_lives.f).bind fun t252 => (some t252)) else (some false))) else (some false))))))))
def worldmintlaw29_ProofLeaf.T8 : Bool × List (List Nat × List Nat) := (true, [([], []), ([0], [0]), ([1], [1]), ([2], [2]), ([2], [2]), ([2], [2]), ([2], [2]), ([3, 4, 5, 6, 2, 2], [2, 3, 4, 5, 6]), ([7, 2], [2, 7]), ([2], [2]), ([2], [2]), ([10, 2], [2, 10]), ([9, 11, 2], [2, 9, 11]), ([8, 12, 2], [2, 8, 12]), ([2, 13], [2, 13]), ([14, 7], [14]), ([15, 15], [15]), ([15, 16], [15, 16]), ([17, 16, 0, 1, 2, 3, 4, 5, 6, 7, 8, 9, 10, 11, 12, 13, 14, 15, 16, 17], [17])])
def worldmintlaw29_ProofLeaf.B8 : List Nat := [0, 1, 3, 7, 7, 7, 7, 127, 255, 7, 7, 1031, 3591, 8191, 16383, 32767, 65535, 131071, 262143]
theorem worldmintlaw29_ProofLeaf.tab8 : rtab .any (opsOf Try.f5 8) = worldmintlaw29_ProofLeaf.T8 := by kernel_rfl
theorem worldmintlaw29_ProofLeaf.bits8 : waitsOk worldmintlaw29_ProofLeaf.T8.2 worldmintlaw29_ProofLeaf.B8 = true := by kernel_rfl
set_option maxHeartbeats 8000000 in
set_option maxRecDepth 100000 in
theorem worldmintlaw29_ProofLeaf.calls (k : Nat) (a0 : Int) (A1 : Option Addr) (c1 : Nat) (l1 : List Int) (A2 : Option Addr) (c2 : Nat) (l2 : List Int) (a3 : Int) (r : Bool) (w : World) (hr1 : Kd.C (Kd.int .i64) w A1 l1.length l1) (hc1 : l1.length ≤ c1) (hr2 : Kd.C (Kd.int .i64) w A2 l2.length l2) (hc2 : l2.length ≤ c2) (h : worldmintlaw29_ProofLeaf.f k a0 l1 l2 a3 = some r) :
  Calls Try.prog 5 #[.int .i64 a0, .slice A1 l1.length c1, .slice A2 l2.length c2, .int .i64 a3] w fun e w' => e = .returned (.bool r) ∧ Below w.heap.size w w' := by
 have hu55 := Try.underlying55
 have hu44 := Try.underlying44
 have HR1 := Aside0.mk hr1
 have HC1 := Aside0.mk hc1
 clear hr1 hc1
 have HR2 := Aside0.mk hr2
 have HC2 := Aside0.mk hc2
 clear hr2 hc2
 have HB := Aside0.mk (Below.refl w.heap.size w)
 have H : ((worldmintref27_Lots.f a0).bind fun t231 => ((worldmintref27_Bids.f k t231 l1 8).bind fun t232 => ((worldmintlaw29_given.f k t232).bind fun t235 => ((worldmintref29_Win.f k t231 t232 a3).bind fun t238 => ((worldmintref28_Lots.f k t231 l2).bind fun t241 => ((clear_Bound.f t231 t235 t241).bind fun bt244 => ((bids_Value.f k t235 t238).bind fun t246 => (if bt244.2 = 0 then ((proof_Check.f t231 t235 t238 t246 (([(⟨(-1), 0, 0, t241⟩ : S55)] : List (S55)))).bind fun t251 => (if ((t251 == 0) == (decide (bt244.1 ≤ t246))) = true then ((worldmintlaw29_lives.f).bind fun t252 => (some t252)) else (some false))) else (some false))))))))) = some r := h
 clear h
 replace H := Option.bind_eq_some_iff.mp H
 obtain ⟨t231, A50, H⟩ := H
 replace H : ((worldmintref27_Bids.f k t231 l1 8).bind fun t232 => ((worldmintlaw29_given.f k t232).bind fun t235 => ((worldmintref29_Win.f k t231 t232 a3).bind fun t238 => ((worldmintref28_Lots.f k t231 l2).bind fun t241 => ((clear_Bound.f t231 t235 t241).bind fun bt244 => ((bids_Value.f k t235 t238).bind fun t246 => (if bt244.2 = 0 then ((proof_Check.f t231 t235 t238 t246 (([(⟨(-1), 0, 0, t241⟩ : S55)] : List (S55)))).bind fun t251 => (if ((t251 == 0) == (decide (bt244.1 ≤ t246))) = true then ((worldmintlaw29_lives.f).bind fun t252 => (some t252)) else (some false))) else (some false)))))))) = some r := H
 have A5 := Aside0.mk A50
 clear A50
 replace H := Option.bind_eq_some_iff.mp H
 obtain ⟨t232, A60, H⟩ := H
 replace H : ((worldmintlaw29_given.f k t232).bind fun t235 => ((worldmintref29_Win.f k t231 t232 a3).bind fun t238 => ((worldmintref28_Lots.f k t231 l2).bind fun t241 => ((clear_Bound.f t231 t235 t241).bind fun bt244 => ((bids_Value.f k t235 t238).bind fun t246 => (if bt244.2 = 0 then ((proof_Check.f t231 t235 t238 t246 (([(⟨(-1), 0, 0, t241⟩ : S55)] : List (S55)))).bind fun t251 => (if ((t251 == 0) == (decide (bt244.1 ≤ t246))) = true then ((worldmintlaw29_lives.f).bind fun t252 => (some t252)) else (some false))) else (some false))))))) = some r := H
 have A6 := Aside0.mk A60
 clear A60
 replace H := Option.bind_eq_some_iff.mp H
 obtain ⟨t235, A70, H⟩ := H
 replace H : ((worldmintref29_Win.f k t231 t232 a3).bind fun t238 => ((worldmintref28_Lots.f k t231 l2).bind fun t241 => ((clear_Bound.f t231 t235 t241).bind fun bt244 => ((bids_Value.f k t235 t238).bind fun t246 => (if bt244.2 = 0 then ((proof_Check.f t231 t235 t238 t246 (([(⟨(-1), 0, 0, t241⟩ : S55)] : List (S55)))).bind fun t251 => (if ((t251 == 0) == (decide (bt244.1 ≤ t246))) = true then ((worldmintlaw29_lives.f).bind fun t252 => (some t252)) else (some false))) else (some false)))))) = some r := H
 have A7 := Aside0.mk A70
 clear A70
 replace H := Option.bind_eq_some_iff.mp H
 obtain ⟨t238, A80, H⟩ := H
 replace H : ((worldmintref28_Lots.f k t231 l2).bind fun t241 => ((clear_Bound.f t231 t235 t241).bind fun bt244 => ((bids_Value.f k t235 t238).bind fun t246 => (if bt244.2 = 0 then ((proof_Check.f t231 t235 t238 t246 (([(⟨(-1), 0, 0, t241⟩ : S55)] : List (S55)))).bind fun t251 => (if ((t251 == 0) == (decide (bt244.1 ≤ t246))) = true then ((worldmintlaw29_lives.f).bind fun t252 => (some t252)) else (some false))) else (some false))))) = some r := H
 have A8 := Aside0.mk A80
 clear A80
 replace H := Option.bind_eq_some_iff.mp H
 obtain ⟨t241, A90, H⟩ := H
 replace H : ((clear_Bound.f t231 t235 t241).bind fun bt244 => ((bids_Value.f k t235 t238).bind fun t246 => (if bt244.2 = 0 then ((proof_Check.f t231 t235 t238 t246 (([(⟨(-1), 0, 0, t241⟩ : S55)] : List (S55)))).bind fun t251 => (if ((t251 == 0) == (decide (bt244.1 ≤ t246))) = true then ((worldmintlaw29_lives.f).bind fun t252 => (some t252)) else (some false))) else (some false)))) = some r := H
 have A9 := Aside0.mk A90
 clear A90
 replace H := Option.bind_eq_some_iff.mp H
 obtain ⟨⟨t244, t245⟩, A100, H⟩ := H
 replace H : ((bids_Value.f k t235 t238).bind fun t246 => (if t245 = 0 then ((proof_Check.f t231 t235 t238 t246 (([(⟨(-1), 0, 0, t241⟩ : S55)] : List (S55)))).bind fun t251 => (if ((t251 == 0) == (decide (t244 ≤ t246))) = true then ((worldmintlaw29_lives.f).bind fun t252 => (some t252)) else (some false))) else (some false))) = some r := H
 have A10 := Aside0.mk A100
 clear A100
 replace H := Option.bind_eq_some_iff.mp H
 obtain ⟨t246, A110, H⟩ := H
 replace H : (if t245 = 0 then ((proof_Check.f t231 t235 t238 t246 (([(⟨(-1), 0, 0, t241⟩ : S55)] : List (S55)))).bind fun t251 => (if ((t251 == 0) == (decide (t244 ≤ t246))) = true then ((worldmintlaw29_lives.f).bind fun t252 => (some t252)) else (some false))) else (some false)) = some r := H
 have A11 := Aside0.mk A110
 clear A110
 obtain ⟨y247, hy247⟩ : ∃ y_ : List (S55), y_ = (([(⟨(-1), 0, 0, t241⟩ : S55)] : List (S55))) := ⟨_, rfl⟩
 replace H : (if t245 = 0 then ((proof_Check.f t231 t235 t238 t246 y247).bind fun t251 => (if ((t251 == 0) == (decide (t244 ≤ t246))) = true then ((worldmintlaw29_lives.f).bind fun t252 => (some t252)) else (some false))) else (some false)) = some r := by first | (rw [hy247]; with_reducible exact H) | (have H2_ := (Option.bind_some _ _).symm.trans H; rw [hy247]; with_reducible exact H2_) | (have H2_ := (Option.bind_some _ _).symm.trans H; with_reducible exact H2_) | with_reducible exact H | (rw [hy247]; exact H) | exact H
 have Ny247 := Aside0.mk hy247
 clear hy247
 by_cases c12 : t245 = 0
 ·rw [if_pos c12] at H
  have c12b0 : (t245 == 0) = true := beq_iff_eq.mpr c12
  have c12b1 : (t245 != 0) = false := bne_eq_false_iff_eq.mpr c12
  clear c12
  replace H := Option.bind_eq_some_iff.mp H
  obtain ⟨t251, A130, H⟩ := H
  replace H : (if ((t251 == 0) == (decide (t244 ≤ t246))) = true then ((worldmintlaw29_lives.f).bind fun t252 => (some t252)) else (some false)) = some r := H
  have A13 := Aside0.mk A130
  clear A130
  by_cases c14 : ((t251 == 0) == (decide (t244 ≤ t246))) = true
  ·rw [if_pos c14] at H
   have c14b0 : ((t251 == 0) == (decide (t244 ≤ t246))) = true := c14
   (try (have c14b1 : decide ((t251 == 0) = (decide (t244 ≤ t246))) = true := by simpa using c14))
   (try (have c14b2 : ((t251 == 0) == (decide (t244 ≤ t246))) = true := by simpa using c14))
   clear c14
   replace H := Option.bind_eq_some_iff.mp H
   obtain ⟨t252, A150, H⟩ := H
   replace H : (some t252) = some r := H
   have A15 := Aside0.mk A150
   clear A150
   obtain rfl := Option.some.inj H
   go_enter Try.func5, Try.ntmps5
   try go_wp2_with (first | ((with_reducible refine gate_callee (f := 10) rfl ?_); refine goesL_ (some 18) rfl rfl Try.func10 (by kernel_rfl) rfl #[.int .i64 a0] rfl (by (try simp only [List.map_toArray, List.map_cons, List.map_nil]); first | done | rfl | (simp only [List.length_drop, List.length_take]; rfl)) ?_; (with_reducible refine (worldmintref27_Lots.calls a0 t231 _ A5.out).mono ?_); rintro e w' ⟨rfl, ⟨nd, rfl⟩⟩; refine ⟨_, rfl, ?_⟩) | ((with_reducible refine gate_callee (f := 11) rfl ?_); refine goesL_ (some 21) rfl rfl Try.func11 (by kernel_rfl) rfl #[.int .i64 t231, .slice A1 l1.length c1, .int .i64 8] rfl (by (try simp only [List.map_toArray, List.map_cons, List.map_nil]); first | done | rfl | (simp only [List.length_drop, List.length_take]; rfl)) ?_; (with_reducible refine (worldmintref27_Bids.calls k t231 _ _ l1 8 t232 _ ?side1 ?side2 A6.out).mono ?_); (case side1 => repeat (first | exact HR1.out | (with_reducible refine Kd.C_alloc ?_ _) | (with_reducible refine Kd.C_drewN ?_ _) | (with_reducible refine Kd.C_drew ?_))); (case side2 => exact HC1.out); rintro e w16 ⟨v233, rfl, ho0, hb⟩; refine ⟨_, rfl, ?_⟩; have n0_ := Aside0.mk (Kd.N_lower (Kd.N_mono (ok' := fun k_ => True) (Kd.S_N (Kd.S_bound ho0)) (fun k_ hk_ => trivial)) (below_size (by repeat (first | (with_reducible first | exact HB.out | apply below_alloc | apply pw_below_drewN | apply below_drew1) | exact HB.out)))); have n1_ := Aside0.mk (below_step (by repeat (first | (with_reducible first | exact HB.out | apply below_alloc | apply pw_below_drewN | apply below_drew1) | exact HB.out)) hb); clear HB; have HO234 := n0_; have HB := n1_; clear n0_ n1_; (try clear hb); (try clear hb2); (try clear hk); (try clear hi); (try clear ho0); obtain ⟨Ao17, co17, eo17⟩ := Kd.N_slice HO234.out; subst eo17) | ((with_reducible refine gate_callee (f := 19) rfl ?_); refine goesL_ (some 23) rfl rfl Try.func19 (by kernel_rfl) rfl #[.slice Ao17 t232.length co17] rfl (by (try simp only [List.map_toArray, List.map_cons, List.map_nil]); first | done | rfl | (simp only [List.length_drop, List.length_take]; rfl)) ?_; (with_reducible refine (worldmintlaw29_given.calls k (fun k_ => True) _ _ t232 t235 _ ?side1 A7.out).mono ?_); (case side1 => exact Kd.N_V (HO234.out)); rintro e w18 ⟨v236, rfl, ho0, hb⟩; refine ⟨_, rfl, ?_⟩; have n0_ := Aside0.mk (Kd.N_elder' (by (with_reducible repeat (first | apply Kd.N_alloc | apply Kd.N_drewN | apply Kd.N_drew)); exact HO234.out) (by first | exact Kd.N_base ho0 | exact Kd.N_base (Kd.S_N ho0)) hb); have n1_ := Aside0.mk (Kd.N_lower (Kd.N_mono (ok' := fun k_ => True) ho0 (fun k_ hk_ => trivial)) (below_size (by repeat (first | (with_reducible first | exact HB.out | apply below_alloc | apply pw_below_drewN | apply below_drew1) | exact HB.out)))); have n2_ := Aside0.mk (below_step (by repeat (first | (with_reducible first | exact HB.out | apply below_alloc | apply pw_below_drewN | apply below_drew1) | exact HB.out)) hb); clear HO234; clear HB; have HO234 := n0_; have HO237 := n1_; have HB := n2_; clear n0_ n1_ n2_; (try clear hb); (try clear hb2); (try clear hk); (try clear hi); (try clear ho0)) | ((with_reducible refine gate_callee (f := 12) rfl ?_); refine goesL_ (some 27) rfl rfl Try.func12 (by kernel_rfl) rfl #[.int .i64 t231, .slice Ao17 t232.length co17, .int .i64 a3] rfl (by (try simp only [List.map_toArray, List.map_cons, List.map_nil]); first | done | rfl | (simp only [List.length_drop, List.length_take]; rfl)) ?_; (with_reducible refine (worldmintref29_Win.calls k t231 _ _ t232 a3 t238 _ ?side1 ?side2 A8.out).mono ?_); (case side1 => repeat (first | exact (Kd.N_reads' HO234.out).2.2 | (with_reducible refine Kd.C_alloc ?_ _) | (with_reducible refine Kd.C_drewN ?_ _) | (with_reducible refine Kd.C_drew ?_))); (case side2 => exact (Kd.N_reads' HO234.out).2.1); rintro e w19 ⟨v239, rfl, ho0, hb⟩; refine ⟨_, rfl, ?_⟩; have n0_ := Aside0.mk (Kd.N_elder' (by (with_reducible repeat (first | apply Kd.N_alloc | apply Kd.N_drewN | apply Kd.N_drew)); exact HO234.out) (Kd.R_base ho0) hb); have n1_ := Aside0.mk (Kd.N_elder' (by (with_reducible repeat (first | apply Kd.N_alloc | apply Kd.N_drewN | apply Kd.N_drew)); exact HO237.out) (Kd.R_base ho0) hb); have n2_ := Aside0.mk (Kd.R_lower ho0 (below_size (by repeat (first | (with_reducible first | exact HB.out | apply below_alloc | apply pw_below_drewN | apply below_drew1) | exact HB.out)))); have n3_ := Aside0.mk (below_step (by repeat (first | (with_reducible first | exact HB.out | apply below_alloc | apply pw_below_drewN | apply below_drew1) | exact HB.out)) hb); clear HO234; clear HO237; clear HB; have HO234 := n0_; have HO237 := n1_; have HO240 := n2_; have HB := n3_; clear n0_ n1_ n2_ n3_; (try clear hb); (try clear hb2); (try clear hk); (try clear hi); (try clear ho0)) | ((with_reducible refine gate_callee (f := 15) rfl ?_); refine goesL_ (some 30) rfl rfl Try.func15 (by kernel_rfl) rfl #[.int .i64 t231, .slice A2 l2.length c2] rfl (by (try simp only [List.map_toArray, List.map_cons, List.map_nil]); first | done | rfl | (simp only [List.length_drop, List.length_take]; rfl)) ?_; (with_reducible refine (worldmintref28_Lots.calls k t231 _ _ l2 t241 _ ?side1 ?side2 A9.out).mono ?_); (case side1 => repeat (first | exact (Kd.C_below HR2.out HB.out) | (with_reducible refine Kd.C_alloc ?_ _) | (with_reducible refine Kd.C_drewN ?_ _) | (with_reducible refine Kd.C_drew ?_))); (case side2 => exact HC2.out); rintro e w20 ⟨v242, rfl, ho0, hb⟩; refine ⟨_, rfl, ?_⟩; have n0_ := Aside0.mk (Kd.N_elder' (by (with_reducible repeat (first | apply Kd.N_alloc | apply Kd.N_drewN | apply Kd.N_drew)); exact HO234.out) (Kd.R_base ho0) hb); have n1_ := Aside0.mk (Kd.N_elder' (by (with_reducible repeat (first | apply Kd.N_alloc | apply Kd.N_drewN | apply Kd.N_drew)); exact HO237.out) (Kd.R_base ho0) hb); have n2_ := Aside0.mk (Kd.R_elder' (by (with_reducible repeat (first | apply Kd.R_alloc | apply Kd.R_drewN | apply Kd.R_drew)); exact HO240.out) (Kd.R_base ho0) hb); have n3_ := Aside0.mk (Kd.R_lower (Kd.R_new' ho0 (Kd.R_lt (by (with_reducible repeat (first | apply Kd.R_alloc | apply Kd.R_drewN | apply Kd.R_drew)); exact HO240.out))) (below_size (by repeat (first | (with_reducible first | exact HB.out | apply below_alloc | apply pw_below_drewN | apply below_drew1) | exact HB.out)))); have n4_ := Aside0.mk (below_step (by repeat (first | (with_reducible first | exact HB.out | apply below_alloc | apply pw_below_drewN | apply below_drew1) | exact HB.out)) hb); clear HO234; clear HO237; clear HO240; clear HB; have HO234 := n0_; have HO237 := n1_; have HO240 := n2_; have HO243 := n3_; have HB := n4_; clear n0_ n1_ n2_ n3_ n4_; (try clear hb); (try clear hb2); (try clear hk); (try clear hi); (try clear ho0); obtain ⟨Ao21, co21, eo21⟩ := Kd.N_slice HO237.out; subst eo21; obtain ⟨Ao22, co22, eo22⟩ := Kd.R_slice HO243.out; subst eo22) | ((with_reducible refine gate_callee (f := 25) rfl ?_); refine goesL_ (some 35) rfl rfl Try.func25 (by kernel_rfl) rfl #[.int .i64 t231, .slice Ao21 t235.length co21, .slice Ao22 t241.length co22] rfl (by (try simp only [List.map_toArray, List.map_cons, List.map_nil]); first | done | rfl | (simp only [List.length_drop, List.length_take]; rfl)) ?_; (with_reducible refine (clear_Bound.calls t231 _ _ t235 _ _ t241 t244 t245 _ ?side1 ?side2 ?side3 ?side4 A10.out).mono ?_); (case side1 => repeat (first | exact (Kd.N_reads' HO237.out).2.2 | (with_reducible refine Kd.C_alloc ?_ _) | (with_reducible refine Kd.C_drewN ?_ _) | (with_reducible refine Kd.C_drew ?_))); (case side2 => exact (Kd.N_reads' HO237.out).2.1); (case side3 => repeat (first | exact (Kd.R_reads' HO243.out).2.2 | (with_reducible refine Kd.C_alloc ?_ _) | (with_reducible refine Kd.C_drewN ?_ _) | (with_reducible refine Kd.C_drew ?_))); (case side4 => exact (Kd.R_reads' HO243.out).2.1); rintro e w23 ⟨rfl, hb⟩; refine ⟨_, rfl, ?_⟩; have n0_ := Aside0.mk (Kd.N_below (by (with_reducible repeat (first | apply Kd.N_alloc | apply Kd.N_drewN | apply Kd.N_drew)); exact HO234.out) hb); have n1_ := Aside0.mk (Kd.N_below (by (with_reducible repeat (first | apply Kd.N_alloc | apply Kd.N_drewN | apply Kd.N_drew)); exact HO237.out) hb); have n2_ := Aside0.mk (Kd.R_below (by (with_reducible repeat (first | apply Kd.R_alloc | apply Kd.R_drewN | apply Kd.R_drew)); exact HO240.out) hb); have n3_ := Aside0.mk (Kd.R_below (by (with_reducible repeat (first | apply Kd.R_alloc | apply Kd.R_drewN | apply Kd.R_drew)); exact HO243.out) hb); have n4_ := Aside0.mk (below_step (by repeat (first | (with_reducible first | exact HB.out | apply below_alloc | apply pw_below_drewN | apply below_drew1) | exact HB.out)) hb); clear HO234; clear HO237; clear HO240; clear HO243; clear HB; have HO234 := n0_; have HO237 := n1_; have HO240 := n2_; have HO243 := n3_; have HB := n4_; clear n0_ n1_ n2_ n3_ n4_; (try clear hb); (try clear hb2); (try clear hk); (try clear hi); obtain ⟨Ao24, co24, eo24⟩ := Kd.R_slice HO240.out; subst eo24) | ((with_reducible refine gate_callee (f := 26) rfl ?_); refine goesL_ (some 40) rfl rfl Try.func26 (by kernel_rfl) rfl #[.slice Ao21 t235.length co21, .slice Ao24 t238.length co24] rfl (by (try simp only [List.map_toArray, List.map_cons, List.map_nil]); first | done | rfl | (simp only [List.length_drop, List.length_take]; rfl)) ?_; (with_reducible refine (bids_Value.calls k _ _ t235 _ _ t238 t246 _ ?side1 ?side2 ?side3 ?side4 A11.out).mono ?_); (case side1 => repeat (first | exact (Kd.N_reads' HO237.out).2.2 | (with_reducible refine Kd.C_alloc ?_ _) | (with_reducible refine Kd.C_drewN ?_ _) | (with_reducible refine Kd.C_drew ?_))); (case side2 => exact (Kd.N_reads' HO237.out).2.1); (case side3 => repeat (first | exact (Kd.R_reads' HO240.out).2.2 | (with_reducible refine Kd.C_alloc ?_ _) | (with_reducible refine Kd.C_drewN ?_ _) | (with_reducible refine Kd.C_drew ?_))); (case side4 => exact (Kd.R_reads' HO240.out).2.1); rintro e w' ⟨rfl, ⟨nd, rfl⟩⟩; refine ⟨_, rfl, ?_⟩; (try (rw [drewN_self w23]; generalize hq_ : World.drewN w23 _ = w23; have n0_ : Aside0 (Kd.N k85 85 w23 w.heap.size (fun k_ => some k_ ≠ (.slice Ao21 t235.length co21 : Value).ownBlock ∧ some k_ ≠ (.slice Ao24 t238.length co24 : Value).ownBlock ∧ some k_ ≠ (.slice Ao22 t241.length co22 : Value).ownBlock) (.slice Ao17 t232.length co17) t232) := ⟨by rw [← hq_]; exact (by (with_reducible repeat (first | apply Kd.N_alloc | apply Kd.N_drewN | apply Kd.N_drew)); exact Kd.N_mono HO234.out (fun k_ hk => by first | exact ⟨hk.1.1.2, ⟨hk.1.2, hk.2⟩⟩ | ((try dsimp only at hk ⊢); (try simp only [ne_eq] at hk ⊢); simp only [hk, not_false_eq_true, and_self])))⟩; have n1_ : Aside0 (Kd.N k82 82 w23 w.heap.size (fun k_ => some k_ ≠ (.slice Ao24 t238.length co24 : Value).ownBlock ∧ some k_ ≠ (.slice Ao22 t241.length co22 : Value).ownBlock) (.slice Ao21 t235.length co21) t235) := ⟨by rw [← hq_]; exact (by (with_reducible repeat (first | apply Kd.N_alloc | apply Kd.N_drewN | apply Kd.N_drew)); exact Kd.N_mono HO237.out (fun k_ hk => by first | exact ⟨hk.1.2, hk.2⟩ | ((try dsimp only at hk ⊢); (try simp only [ne_eq] at hk ⊢); simp only [hk, not_false_eq_true, and_self])))⟩; have n2_ : Aside0 (Kd.R (Kd.int .i64) 3 w23 w.heap.size (fun k_ => some k_ ≠ (.slice Ao22 t241.length co22 : Value).ownBlock) (.slice Ao24 t238.length co24) t238) := ⟨by rw [← hq_]; exact (by (with_reducible repeat (first | apply Kd.R_alloc | apply Kd.R_drewN | apply Kd.R_drew)); exact Kd.R_mono HO240.out (fun k_ hk => by first | exact hk.2 | ((try dsimp only at hk ⊢); (try simp only [ne_eq] at hk ⊢); simp only [hk, not_false_eq_true, and_self])))⟩; have n3_ : Aside0 (Kd.R (Kd.int .i64) 3 w23 w.heap.size (fun k_ => some k_ ≠ (.slice Ao24 t238.length co24 : Value).ownBlock) (.slice Ao22 t241.length co22) t241) := ⟨by rw [← hq_]; exact (by (with_reducible repeat (first | apply Kd.R_alloc | apply Kd.R_drewN | apply Kd.R_drew)); exact Kd.R_mono HO243.out (fun k_ hk => by first | exact hk.2 | ((try dsimp only at hk ⊢); (try simp only [ne_eq] at hk ⊢); simp only [hk, not_false_eq_true, and_self])))⟩; have n4_ : Aside0 (Below w.heap.size w w23) := ⟨by rw [← hq_]; exact (by repeat (first | (with_reducible first | exact HB.out | apply below_alloc | apply pw_below_drewN | apply below_drew1) | exact HB.out))⟩; clear HO234 HO237 HO240 HO243 HB hq_; have HO234 := n0_; have HO237 := n1_; have HO240 := n2_; have HO243 := n3_; have HB := n4_; clear n0_ n1_ n2_ n3_ n4_))) | ((with_reducible refine gate_dst (N := 43) rfl ?_); refine Kd.N_lit k55 _ 55 ?hg (N' := 43) ?hd (xs := ([(⟨(-1), 0, 0, t241⟩ : S55)] : List (S55))) (inner := [.int .i64 (-1), .int .i64 0, .int .i64 0, .slice Ao22 t241.length co22]) (ok := (fun k_ => some k_ ≠ (.slice Ao17 t232.length co17 : Value).ownBlock ∧ some k_ ≠ (.slice Ao21 t235.length co21 : Value).ownBlock ∧ some k_ ≠ (.slice Ao24 t238.length co24 : Value).ownBlock)) (okp := (fun k_ => some k_ ≠ (.slice Ao17 t232.length co17 : Value).ownBlock ∧ some k_ ≠ (.slice Ao21 t235.length co21 : Value).ownBlock ∧ some k_ ≠ (.slice Ao24 t238.length co24 : Value).ownBlock)) ?hr ?hp (fun _ hk => hk) ((show ∀ k_, w23.heap.size ≤ k_ → (fun k_ => some k_ ≠ (.slice Ao17 t232.length co17 : Value).ownBlock ∧ some k_ ≠ (.slice Ao21 t235.length co21 : Value).ownBlock ∧ some k_ ≠ (.slice Ao24 t238.length co24 : Value).ownBlock) k_ from fun k_ hk => ⟨Kd.fresh' (Kd.N_lt (by (with_reducible repeat (first | apply Kd.N_alloc | apply Kd.N_drewN | apply Kd.N_drew)); exact HO234.out)) k_ hk, Kd.fresh' (Kd.N_lt (by (with_reducible repeat (first | apply Kd.N_alloc | apply Kd.N_drewN | apply Kd.N_drew)); exact HO237.out)) k_ hk, Kd.fresh' (Kd.R_lt (by (with_reducible repeat (first | apply Kd.R_alloc | apply Kd.R_drewN | apply Kd.R_drew)); exact HO240.out)) k_ hk⟩) _ (Nat.le_refl _)) (Below.refl _ _) (Nat.le_refl _) (by simp) ?_; (case hd => rfl); (case hg => rfl); (case hr => first | (go_simp; done) | (go_simp; rfl)); (case hp => exact (Reps.c4 (show Kd.FK k55 _ _ (⟨(-1), 0, 0, t241⟩ : S55) [.int .i64 (-1), .int .i64 0, .int .i64 0, .slice Ao22 t241.length co22] from (k55_mkF _ _ (⟨(-1), 0, 0, t241⟩ : S55) (Kd.R_reads' (Kd.R_mono (ok' := (fun k_ => some k_ ≠ (.slice Ao17 t232.length co17 : Value).ownBlock ∧ some k_ ≠ (.slice Ao21 t235.length co21 : Value).ownBlock ∧ some k_ ≠ (.slice Ao24 t238.length co24 : Value).ownBlock)) (Kd.R_apart' (Kd.R_apart' (HO243.out) (Kd.N_typed HO234.out) (by decide)) (Kd.N_typed HO237.out) (by decide)) (fun k_ hk => by first | exact ⟨hk.1.2, ⟨hk.2, hk.1.1.2⟩⟩ | ((try dsimp only at hk ⊢); (try simp only [ne_eq] at hk ⊢); simp only [hk, not_false_eq_true, and_self])))).2.1 (Kd.R_F (Kd.R_mono (ok' := (fun k_ => some k_ ≠ (.slice Ao17 t232.length co17 : Value).ownBlock ∧ some k_ ≠ (.slice Ao21 t235.length co21 : Value).ownBlock ∧ some k_ ≠ (.slice Ao24 t238.length co24 : Value).ownBlock)) (Kd.R_apart' (Kd.R_apart' (HO243.out) (Kd.N_typed HO234.out) (by decide)) (Kd.N_typed HO237.out) (by decide)) (fun k_ hk => by first | exact ⟨hk.1.2, ⟨hk.2, hk.1.1.2⟩⟩ | ((try dsimp only at hk ⊢); (try simp only [ne_eq] at hk ⊢); simp only [hk, not_false_eq_true, and_self])))))) (Reps.none _ _))); intro v248 w25 ho26 hb hg_ hnew_; clear hg_ hnew_; (first | rw [← Ny247.out] at ho26 | (simp only [Int.reduceToNat] at ho26; rw [← Ny247.out] at ho26)); have n0_ := Aside0.mk (Kd.N_elder' (by (with_reducible repeat (first | apply Kd.N_alloc | apply Kd.N_drewN | apply Kd.N_drew)); exact HO234.out) (Kd.N_base ho26) hb); have n1_ := Aside0.mk (Kd.N_elder' (by (with_reducible repeat (first | apply Kd.N_alloc | apply Kd.N_drewN | apply Kd.N_drew)); exact HO237.out) (Kd.N_base ho26) hb); have n2_ := Aside0.mk (Kd.R_below (by (with_reducible repeat (first | apply Kd.R_alloc | apply Kd.R_drewN | apply Kd.R_drew)); exact HO240.out) hb); have n3_ := Aside0.mk (Kd.N_lower ho26 (below_size (by repeat (first | (with_reducible first | exact HB.out | apply below_alloc | apply pw_below_drewN | apply below_drew1) | exact HB.out)))); have n4_ := Aside0.mk (below_step (by repeat (first | (with_reducible first | exact HB.out | apply below_alloc | apply pw_below_drewN | apply below_drew1) | exact HB.out)) hb); clear HO234; clear HO237; clear HO240; clear HB; clear HO243; have HO234 := n0_; have HO237 := n1_; have HO240 := n2_; have HO249 := n3_; have HB := n4_; clear n0_ n1_ n2_ n3_ n4_; clear hb ho26; obtain ⟨Ao27, co27, eo27⟩ := Kd.N_slice HO249.out; subst eo27) | ((with_reducible refine gate_dst (N := 16) rfl ?_); refine box_event ?hg (N := 16) ?hd (cs := #[.int .i64 0, .slice none 0 0]) (t := 44) ?hr ?_; (case hd => rfl); (case hg => rfl); (case hr => first | (go_simp; done) | (go_simp; rfl)); intro gb250 hg w28 hbox hb; have n0_ := Aside0.mk (Kd.N_below (Kd.N_elderB (by (with_reducible repeat (first | apply Kd.N_alloc | apply Kd.N_drewN | apply Kd.N_drew)); exact HO234.out) gb250 (Nat.le_of_eq hg.symm)) hb); have n1_ := Aside0.mk (Kd.N_below (Kd.N_elderB (by (with_reducible repeat (first | apply Kd.N_alloc | apply Kd.N_drewN | apply Kd.N_drew)); exact HO237.out) gb250 (Nat.le_of_eq hg.symm)) hb); have n2_ := Aside0.mk (Kd.R_below (by (with_reducible repeat (first | apply Kd.R_alloc | apply Kd.R_drewN | apply Kd.R_drew)); exact HO240.out) hb); have n3_ := Aside0.mk (Kd.N_below (Kd.N_elderB (by (with_reducible repeat (first | apply Kd.N_alloc | apply Kd.N_drewN | apply Kd.N_drew)); exact HO249.out) gb250 (Nat.le_of_eq hg.symm)) hb); have n4_ := Aside0.mk (below_step (by repeat (first | (with_reducible first | exact HB.out | apply below_alloc | apply pw_below_drewN | apply below_drew1) | exact HB.out)) hb); have n5_ := Aside0.mk (hbox); have n6_ := Aside0.mk ((by rw [hg]; exact (below_size (by repeat (first | (with_reducible first | exact HB.out | apply below_alloc | apply pw_below_drewN | apply below_drew1) | exact HB.out))) : w.heap.size ≤ gb250)); have n7_ := Aside0.mk ((by rw [hg]; exact (below_size (by repeat (first | (with_reducible first | exact HB.out | apply below_alloc | apply pw_below_drewN | apply below_drew1) | exact HB.out))) : w.heap.size ≤ gb250)); clear HO234; clear HO237; clear HO240; clear HO249; clear HB; have HO234 := n0_; have HO237 := n1_; have HO240 := n2_; have HO249 := n3_; have HB := n4_; have BK250 := n5_; have GW250 := n6_; have GE250 := n7_; clear n0_ n1_ n2_ n3_ n4_ n5_ n6_ n7_; clear hb hbox hg; have hcz29_0 : w28.cell? ⟨gb250, 0, none⟩ = some (.int .i64 0) := (blk_cell BK250.out 0).trans rfl; have hcz29_1 : w28.cell? ⟨gb250, 1, none⟩ = some (.slice none 0 0) := (blk_cell BK250.out 1).trans rfl; have hfz29_0 := blk_frozen BK250.out 0; have hfz29_1 := blk_frozen BK250.out 1))
   have n0_ : Aside0 (Kd.N k85 85 ((w28.setCell ⟨gb250, 0, none⟩ (.int .i64 t246)).setCell ⟨gb250, 1, none⟩ (.slice Ao27 y247.length co27)) w.heap.size (fun k_ => some k_ ≠ (.slice Ao21 t235.length co21 : Value).ownBlock ∧ some k_ ≠ (.slice Ao24 t238.length co24 : Value).ownBlock ∧ some k_ ≠ (.slice Ao27 y247.length co27 : Value).ownBlock ∧ k_ ≠ gb250) (.slice Ao17 t232.length co17) t232) := ⟨by (with_reducible repeat (first | apply Kd.N_alloc | apply Kd.N_drewN | apply Kd.N_drew)); exact Kd.N_mono (Kd.N_far (p := ⟨gb250, 1, none⟩) (Kd.N_far (p := ⟨gb250, 0, none⟩) (Kd.N_mono HO234.out (fun k_ hk => (⟨hk, hk.2⟩ : _ ∧ k_ ≠ gb250))) (fun k_ hk => by first | exact hk.2 | ((try dsimp only at hk ⊢); (try simp only [ne_eq] at hk ⊢); simp only [hk, not_false_eq_true, and_self])) (.int .i64 t246)) (fun k_ hk => by first | exact hk.2 | ((try dsimp only at hk ⊢); (try simp only [ne_eq] at hk ⊢); simp only [hk, not_false_eq_true, and_self])) (.slice Ao27 y247.length co27)) (fun k_ hk => by first | exact ⟨hk.1.1.1.1.1.2, ⟨hk.1.1.1.1.2, ⟨hk.1.1.2, hk.1.2⟩⟩⟩ | ((try dsimp only at hk ⊢); (try simp only [ne_eq] at hk ⊢); simp only [hk, not_false_eq_true, and_self]))⟩
   have n1_ : Aside0 (Kd.N k82 82 ((w28.setCell ⟨gb250, 0, none⟩ (.int .i64 t246)).setCell ⟨gb250, 1, none⟩ (.slice Ao27 y247.length co27)) w.heap.size (fun k_ => some k_ ≠ (.slice Ao24 t238.length co24 : Value).ownBlock ∧ some k_ ≠ (.slice Ao27 y247.length co27 : Value).ownBlock ∧ k_ ≠ gb250) (.slice Ao21 t235.length co21) t235) := ⟨by (with_reducible repeat (first | apply Kd.N_alloc | apply Kd.N_drewN | apply Kd.N_drew)); exact Kd.N_mono (Kd.N_far (p := ⟨gb250, 1, none⟩) (Kd.N_far (p := ⟨gb250, 0, none⟩) (Kd.N_mono HO237.out (fun k_ hk => (⟨hk, hk.2⟩ : _ ∧ k_ ≠ gb250))) (fun k_ hk => by first | exact hk.2 | ((try dsimp only at hk ⊢); (try simp only [ne_eq] at hk ⊢); simp only [hk, not_false_eq_true, and_self])) (.int .i64 t246)) (fun k_ hk => by first | exact hk.2 | ((try dsimp only at hk ⊢); (try simp only [ne_eq] at hk ⊢); simp only [hk, not_false_eq_true, and_self])) (.slice Ao27 y247.length co27)) (fun k_ hk => by first | exact ⟨hk.1.1.1.1.2, ⟨hk.1.1.2, hk.1.2⟩⟩ | ((try dsimp only at hk ⊢); (try simp only [ne_eq] at hk ⊢); simp only [hk, not_false_eq_true, and_self]))⟩
   have n2_ : Aside0 (Kd.R (Kd.int .i64) 3 ((w28.setCell ⟨gb250, 0, none⟩ (.int .i64 t246)).setCell ⟨gb250, 1, none⟩ (.slice Ao27 y247.length co27)) w.heap.size (fun _ => True) (.slice Ao24 t238.length co24) t238) := ⟨by (with_reducible repeat (first | apply Kd.R_alloc | apply Kd.R_drewN | apply Kd.R_drew)); exact Kd.R_mono (Kd.R_far (p := ⟨gb250, 1, none⟩) (Kd.R_far (p := ⟨gb250, 0, none⟩) (Kd.R_types HO240.out BK250.out (by decide)) (fun k_ hk => by first | exact hk.2 | ((try dsimp only at hk ⊢); (try simp only [ne_eq] at hk ⊢); simp only [hk, not_false_eq_true, and_self])) (.int .i64 t246)) (fun k_ hk => by first | exact hk.2 | ((try dsimp only at hk ⊢); (try simp only [ne_eq] at hk ⊢); simp only [hk, not_false_eq_true, and_self])) (.slice Ao27 y247.length co27)) (fun _ hk => trivial)⟩
   have n3_ : Aside0 (Kd.N k55 55 ((w28.setCell ⟨gb250, 0, none⟩ (.int .i64 t246)).setCell ⟨gb250, 1, none⟩ (.slice Ao27 y247.length co27)) w.heap.size (fun k_ => some k_ ≠ (.slice Ao17 t232.length co17 : Value).ownBlock ∧ some k_ ≠ (.slice Ao21 t235.length co21 : Value).ownBlock ∧ some k_ ≠ (.slice Ao24 t238.length co24 : Value).ownBlock ∧ k_ ≠ gb250) (.slice Ao27 y247.length co27) y247) := ⟨by (with_reducible repeat (first | apply Kd.N_alloc | apply Kd.N_drewN | apply Kd.N_drew)); exact Kd.N_mono (Kd.N_far (p := ⟨gb250, 1, none⟩) (Kd.N_far (p := ⟨gb250, 0, none⟩) (Kd.N_mono HO249.out (fun k_ hk => (⟨hk, hk.2⟩ : _ ∧ k_ ≠ gb250))) (fun k_ hk => by first | exact hk.2 | ((try dsimp only at hk ⊢); (try simp only [ne_eq] at hk ⊢); simp only [hk, not_false_eq_true, and_self])) (.int .i64 t246)) (fun k_ hk => by first | exact hk.2 | ((try dsimp only at hk ⊢); (try simp only [ne_eq] at hk ⊢); simp only [hk, not_false_eq_true, and_self])) (.slice Ao27 y247.length co27)) (fun k_ hk => by first | exact ⟨hk.1.1.1, ⟨hk.1.1.2.1, ⟨hk.1.1.2.2, hk.1.2⟩⟩⟩ | ((try dsimp only at hk ⊢); (try simp only [ne_eq] at hk ⊢); simp only [hk, not_false_eq_true, and_self]))⟩
   have n4_ : Aside0 (((w28.setCell ⟨gb250, 0, none⟩ (.int .i64 t246)).setCell ⟨gb250, 1, none⟩ (.slice Ao27 y247.length co27)).heap[gb250]? = some (.cells #[.int .i64 t246, .slice Ao27 y247.length co27] 44 (0, 0))) := ⟨by (with_reducible repeat (first | refine blk_drewN ?_ _ | refine blk_drew ?_ | refine blk_alloc ?_ _)); refine blk_put (cs := #[.int .i64 t246, .slice none 0 0]) ?_ 1 _ rfl; (with_reducible repeat (first | refine blk_drewN ?_ _ | refine blk_drew ?_ | refine blk_alloc ?_ _)); refine blk_put (cs := #[.int .i64 0, .slice none 0 0]) ?_ 0 _ rfl; (with_reducible repeat (first | refine blk_drewN ?_ _ | refine blk_drew ?_ | refine blk_alloc ?_ _)); exact BK250.out⟩
   have n5_ : Aside0 (Below w.heap.size w ((w28.setCell ⟨gb250, 0, none⟩ (.int .i64 t246)).setCell ⟨gb250, 1, none⟩ (.slice Ao27 y247.length co27))) := ⟨by repeat (first | (with_reducible first | exact HB.out | apply below_alloc | apply pw_below_drewN | apply below_drew1 | refine below_set ?_ GE250.out) | exact HB.out)⟩
   (try clear HO234)
   (try clear HO237)
   (try clear HO240)
   (try clear HO249)
   (try clear BK250)
   (try clear HB)
   generalize ((w28.setCell ⟨gb250, 0, none⟩ (.int .i64 t246)).setCell ⟨gb250, 1, none⟩ (.slice Ao27 y247.length co27)) = w30 at n0_ n1_ n2_ n3_ n4_ n5_ ⊢
   have HO234 := n0_
   have HO237 := n1_
   have HO240 := n2_
   have HO249 := n3_
   have BK250 := n4_
   have HB := n5_
   clear n0_ n1_ n2_ n3_ n4_ n5_
   have n0_ := Aside0.mk (Kd.N_drew HO234.out)
   have n1_ := Aside0.mk (Kd.N_drew HO237.out)
   have n2_ := Aside0.mk (Kd.R_drew HO240.out)
   have n3_ := Aside0.mk (Kd.N_drew HO249.out)
   have n4_ := Aside0.mk (blk_drew BK250.out)
   have n5_ := Aside0.mk (below_drew1 HB.out)
   clear HO234
   clear HO237
   clear HO240
   clear HO249
   clear BK250
   clear HB
   have HO234 := n0_
   have HO237 := n1_
   have HO240 := n2_
   have HO249 := n3_
   have BK250 := n4_
   have HB := n5_
   clear n0_ n1_ n2_ n3_ n4_ n5_
   refine start_ (n := 19) (S := fun w' => w'.cell? ⟨gb250, 0, none⟩ = some (.int .i64 t246) ∧ w'.cell? ⟨gb250, 1, none⟩ = some (.slice Ao27 y247.length co27)) (ds := []) #[false, false, false, false, false, false, false, false, false, false, false, false, false, false, false, false, false, false, false] (by kernel_rfl) rfl rfl ⟨(blk_cell BK250.out 0).trans rfl, (blk_cell BK250.out 1).trans rfl⟩ (fun hHeld => ?_); refine with_tabW worldmintlaw29_ProofLeaf.tab8 worldmintlaw29_ProofLeaf.bits8 (fun HT_ HW_ => ?_)
   generalize w30.drew = w31 at HO234 HO237 HO240 HO249 BK250 HB hHeld ⊢
   refine pure_ (i := 0) (N := some 45) (v := ?_) (a' := ?_) #[true, false, false, false, false, false, false, false, false, false, false, false, false, false, false, false, false, false, false] rfl rfl (any_of HT_.out (by kernel_rfl)) (fun _ _ _ h => h) (Or.inl ⟨by rfl, ?_⟩) ?_ ?_
   rotate_left
   ·intro w'
    go_simp
    with_reducible rfl
   rotate_left
   ·simp only [Act.put, List.setIfInBounds_toArray, List.set_cons_zero, List.set_cons_succ, i64_w, i32_w]
    rfl
   refine pure_ (i := 1) (N := some 46) (v := ?_) (a' := ?_) #[true, true, false, false, false, false, false, false, false, false, false, false, false, false, false, false, false, false, false] rfl rfl (any_of HT_.out (by kernel_rfl)) (fun _ _ _ h => h) (Or.inl ⟨by rfl, ?_⟩) ?_ ?_
   rotate_left
   ·intro w'
    go_simp
    with_reducible rfl
   rotate_left
   ·simp only [Act.put, List.setIfInBounds_toArray, List.set_cons_zero, List.set_cons_succ, i64_w, i32_w]
    rfl
   refine pure_ (i := 2) (N := some 47) (v := ?_) (a' := ?_) #[true, true, true, false, false, false, false, false, false, false, false, false, false, false, false, false, false, false, false] rfl rfl (any_of HT_.out (by kernel_rfl)) (fun _ _ _ h => h) (Or.inl ⟨by rfl, ?_⟩) ?_ ?_
   rotate_left
   ·intro w'
    go_simp
    with_reducible rfl
   rotate_left
   ·simp only [Act.put, List.setIfInBounds_toArray, List.set_cons_zero, List.set_cons_succ, i64_w, i32_w]
    rfl
   refine pure_ (i := 3) (N := some 48) (v := ?_) (a' := ?_) #[true, true, true, true, false, false, false, false, false, false, false, false, false, false, false, false, false, false, false] rfl rfl (any_of HT_.out (by kernel_rfl)) (fun _ _ _ h => h) (Or.inl ⟨by rfl, ?_⟩) ?_ ?_
   rotate_left
   ·intro w'
    go_simp
    with_reducible rfl
   rotate_left
   ·simp only [Act.put, List.setIfInBounds_toArray, List.set_cons_zero, List.set_cons_succ, i64_w, i32_w]
    rfl
   refine pure_ (i := 4) (N := some 49) (v := ?_) (a' := ?_) #[true, true, true, true, true, false, false, false, false, false, false, false, false, false, false, false, false, false, false] rfl rfl (any_of HT_.out (by kernel_rfl)) (fun _ _ _ h => h) (Or.inl ⟨by rfl, ?_⟩) ?_ ?_
   rotate_left
   ·intro w'
    go_simp
    with_reducible rfl
   rotate_left
   ·simp only [Act.put, List.setIfInBounds_toArray, List.set_cons_zero, List.set_cons_succ, i64_w, i32_w]
    rfl
   refine pure_ (i := 5) (N := some 50) (v := ?_) (a' := ?_) #[true, true, true, true, true, true, false, false, false, false, false, false, false, false, false, false, false, false, false] rfl rfl (any_of HT_.out (by kernel_rfl)) (fun _ _ _ h => h) (Or.inl ⟨by rfl, ?_⟩) ?_ ?_
   rotate_left
   ·intro w'
    go_simp
    with_reducible rfl
   rotate_left
   ·simp only [Act.put, List.setIfInBounds_toArray, List.set_cons_zero, List.set_cons_succ, i64_w, i32_w]
    rfl
   refine pure_ (i := 9) (N := some 54) (v := ?_) (a' := ?_) #[true, true, true, true, true, true, false, false, false, true, false, false, false, false, false, false, false, false, false] rfl rfl (any_of HT_.out (by kernel_rfl)) (fun _ _ _ h => h) (Or.inl ⟨by rfl, ?_⟩) ?_ ?_
   rotate_left
   ·intro w'
    go_simp
    with_reducible rfl
   rotate_left
   ·simp only [Act.put, List.setIfInBounds_toArray, List.set_cons_zero, List.set_cons_succ, i64_w, i32_w]
    rfl
   refine pure_ (i := 10) (N := some 55) (v := ?_) (a' := ?_) #[true, true, true, true, true, true, false, false, false, true, true, false, false, false, false, false, false, false, false] rfl rfl (any_of HT_.out (by kernel_rfl)) (fun _ _ _ h => h) (Or.inl ⟨by rfl, ?_⟩) ?_ ?_
   rotate_left
   ·intro w'
    go_simp
    with_reducible rfl
   rotate_left
   ·simp only [Act.put, List.setIfInBounds_toArray, List.set_cons_zero, List.set_cons_succ, i64_w, i32_w]
    rfl
   refine take_ (i := 6) (N := some 51) (v := ?_) (a' := ?_) #[true, true, true, true, true, true, true, false, false, true, true, false, false, false, false, false, false, false, false] rfl rfl (take_ofW HT_.out HW_.out (by kernel_rfl)) (fun _ _ _ h => h) (Or.inl ⟨by rfl, ?_⟩) hHeld ?_ ?_
   rotate_left
   ·rintro w' ⟨s0, s1⟩
    go_simp
    with_reducible rfl
   rotate_left
   ·simp only [Act.put, List.setIfInBounds_toArray, List.set_cons_zero, List.set_cons_succ, i64_w, i32_w]
    rfl
   refine take_ (i := 11) (N := some 56) (v := ?_) (a' := ?_) #[true, true, true, true, true, true, true, false, false, true, true, true, false, false, false, false, false, false, false] rfl rfl (take_ofW HT_.out HW_.out (by kernel_rfl)) (fun _ _ _ h => h) (Or.inl ⟨by rfl, ?_⟩) hHeld ?_ ?_
   rotate_left
   ·rintro w' ⟨s0, s1⟩
    go_simp
    with_reducible rfl
   rotate_left
   ·simp only [Act.put, List.setIfInBounds_toArray, List.set_cons_zero, List.set_cons_succ, i64_w, i32_w]
    rfl
   refine pure_ (i := 12) (N := some 57) (v := ?_) (a' := ?_) #[true, true, true, true, true, true, true, false, false, true, true, true, true, false, false, false, false, false, false] rfl rfl (any_of HT_.out (by kernel_rfl)) (fun _ _ _ h => h) (Or.inl ⟨by rfl, ?_⟩) ?_ ?_
   rotate_left
   ·intro w'
    go_simp
    with_reducible rfl
   rotate_left
   ·simp only [Act.put, List.setIfInBounds_toArray, List.set_cons_zero, List.set_cons_succ, i64_w, i32_w]
    rfl
   refine one_ (i := 7) (N := some 52) #[true, true, true, true, true, true, true, true, false, true, true, true, true, false, false, false, false, false, false] rfl rfl (one_of HT_.out (by kernel_rfl)) (by decide) (fun K hK => ?_)
   refine goes_ Try.func18 (by kernel_rfl) rfl #[.int .i64 t231, .slice Ao21 t235.length co21, .slice Ao24 t238.length co24, .agg #[.int .i64 t246, .slice Ao27 y247.length co27]] (by rfl) rfl rfl (by (try simp only [List.map_toArray, List.map_cons, List.map_nil]); first | done | rfl | (simp only [List.length_drop, List.length_take]; rfl)) ?_
   with_reducible refine (proof_Check.calls t231 _ _ t235 _ _ t238 t246 _ _ y247 t251 _ ?side1 ?side2 ?side3 ?side4 ?side5 ?side6 A13.out).mono ?_
   (case side1 => repeat (first | exact (Kd.N_reads' HO237.out).2.2 | (with_reducible refine Kd.C_alloc ?_ _) | (with_reducible refine Kd.C_drewN ?_ _) | (with_reducible refine Kd.C_drew ?_)))
   (case side2 => exact (Kd.N_reads' HO237.out).2.1)
   (case side3 => repeat (first | exact (Kd.R_reads' HO240.out).2.2 | (with_reducible refine Kd.C_alloc ?_ _) | (with_reducible refine Kd.C_drewN ?_ _) | (with_reducible refine Kd.C_drew ?_)))
   (case side4 => exact (Kd.R_reads' HO240.out).2.1)
   (case side5 => repeat (first | exact (Kd.N_reads' HO249.out).2.2 | (with_reducible refine Kd.C_alloc ?_ _) | (with_reducible refine Kd.C_drewN ?_ _) | (with_reducible refine Kd.C_drew ?_)))
   (case side6 => exact (Kd.N_reads' HO249.out).2.1)
   rintro e w32 ⟨rfl, hb⟩
   refine ⟨_, rfl, ?_⟩
   have n0_ := Aside0.mk (Kd.N_below (by (with_reducible repeat (first | apply Kd.N_alloc | apply Kd.N_drewN | apply Kd.N_drew)); exact HO234.out) hb)
   have n1_ := Aside0.mk (Kd.N_below (by (with_reducible repeat (first | apply Kd.N_alloc | apply Kd.N_drewN | apply Kd.N_drew)); exact HO237.out) hb)
   have n2_ := Aside0.mk (Kd.R_below (by (with_reducible repeat (first | apply Kd.R_alloc | apply Kd.R_drewN | apply Kd.R_drew)); exact HO240.out) hb)
   have n3_ := Aside0.mk (Kd.N_below (by (with_reducible repeat (first | apply Kd.N_alloc | apply Kd.N_drewN | apply Kd.N_drew)); exact HO249.out) hb)
   have n4_ := Aside0.mk (blk_below (g := gb250) (o := .cells #[.int .i64 t246, .slice Ao27 y247.length co27] 44 (0, 0)) (by (with_reducible repeat (first | refine blk_drewN ?_ _ | refine blk_drew ?_ | refine blk_alloc ?_ _)); exact BK250.out) hb)
   have n5_ := Aside0.mk (below_step (by repeat (first | (with_reducible first | exact HB.out | apply below_alloc | apply pw_below_drewN | apply below_drew1 | refine below_set ?_ GE250.out) | exact HB.out)) hb)
   clear HO234
   clear HO237
   clear HO240
   clear HO249
   clear BK250
   clear HB
   have HO234 := n0_
   have HO237 := n1_
   have HO240 := n2_
   have HO249 := n3_
   have BK250 := n4_
   have HB := n5_
   clear n0_ n1_ n2_ n3_ n4_ n5_
   (try clear hb)
   (try clear hb2)
   (try clear hk)
   (try clear hi)
   refine hK.out _ _ ⟨(blk_cell BK250.out 0).trans rfl, (blk_cell BK250.out 1).trans rfl⟩ (fun hHeld => ?_)
   clear hK K
   refine norm_ (a' := ?_) ?_ ?_
   rotate_left
   ·show Act.put _ (some 52) _ = _
    simp only [Act.put, List.setIfInBounds_toArray, List.set_cons_zero, List.set_cons_succ, i64_w, i32_w]
    rfl
   refine pure_ (i := 8) (N := some 53) (v := ?_) (a' := ?_) #[true, true, true, true, true, true, true, true, true, true, true, true, true, false, false, false, false, false, false] rfl rfl (any_of HT_.out (by kernel_rfl)) (fun _ _ _ h => h) (Or.inl ⟨by rfl, ?_⟩) ?_ ?_
   rotate_left
   ·intro w'
    go_simp
    with_reducible rfl
   rotate_left
   ·simp only [Act.put, List.setIfInBounds_toArray, List.set_cons_zero, List.set_cons_succ, i64_w, i32_w]
    rfl
   refine pure_ (i := 13) (N := some 58) (v := ?_) (a' := ?_) #[true, true, true, true, true, true, true, true, true, true, true, true, true, true, false, false, false, false, false] rfl rfl (any_of HT_.out (by kernel_rfl)) (fun _ _ _ h => h) (Or.inl ⟨by rfl, ?_⟩) ?_ ?_
   rotate_left
   ·intro w'
    go_simp
    with_reducible rfl
   rotate_left
   ·simp only [Act.put, List.setIfInBounds_toArray, List.set_cons_zero, List.set_cons_succ, i64_w, i32_w]
    rfl
   refine pure_ (i := 14) (N := some 59) (v := ?_) (a' := ?_) #[true, true, true, true, true, true, true, true, true, true, true, true, true, true, true, false, false, false, false] rfl rfl (any_of HT_.out (by kernel_rfl)) (fun _ _ _ h => h) (Or.inl ⟨by rfl, ?_⟩) ?_ ?_
   rotate_left
   ·intro w'
    go_simp
    with_reducible rfl
   rotate_left
   ·simp only [Act.put, List.setIfInBounds_toArray, List.set_cons_zero, List.set_cons_succ, i64_w, i32_w]
    rfl
   refine pure_ (i := 15) (N := some 60) (v := ?_) (a' := ?_) #[true, true, true, true, true, true, true, true, true, true, true, true, true, true, true, true, false, false, false] rfl rfl (any_of HT_.out (by kernel_rfl)) (fun _ _ _ h => h) (Or.inl ⟨by rfl, ?_⟩) ?_ ?_
   rotate_left
   ·intro w'
    go_simp
    with_reducible rfl
   rotate_left
   ·simp only [Act.put, List.setIfInBounds_toArray, List.set_cons_zero, List.set_cons_succ, i64_w, i32_w]
    rfl
   refine one_ (i := 16) (N := some 61) #[true, true, true, true, true, true, true, true, true, true, true, true, true, true, true, true, true, false, false] rfl rfl (one_of HT_.out (by kernel_rfl)) (by decide) (fun K hK => ?_)
   refine goes_ Try.func22 (by kernel_rfl) rfl #[] (by rfl) rfl rfl (by (try simp only [List.map_toArray, List.map_cons, List.map_nil]); first | done | rfl | (simp only [List.length_drop, List.length_take]; rfl)) ?_
   with_reducible refine (worldmintlaw29_lives.calls  t252 _ A15.out).mono ?_
   rintro e w33 ⟨rfl, hb⟩
   refine ⟨_, rfl, ?_⟩
   have n0_ := Aside0.mk (Kd.N_below (by (with_reducible repeat (first | apply Kd.N_alloc | apply Kd.N_drewN | apply Kd.N_drew)); exact HO234.out) hb)
   have n1_ := Aside0.mk (Kd.N_below (by (with_reducible repeat (first | apply Kd.N_alloc | apply Kd.N_drewN | apply Kd.N_drew)); exact HO237.out) hb)
   have n2_ := Aside0.mk (Kd.R_below (by (with_reducible repeat (first | apply Kd.R_alloc | apply Kd.R_drewN | apply Kd.R_drew)); exact HO240.out) hb)
   have n3_ := Aside0.mk (Kd.N_below (by (with_reducible repeat (first | apply Kd.N_alloc | apply Kd.N_drewN | apply Kd.N_drew)); exact HO249.out) hb)
   have n4_ := Aside0.mk (blk_below (g := gb250) (o := .cells #[.int .i64 t246, .slice Ao27 y247.length co27] 44 (0, 0)) (by (with_reducible repeat (first | refine blk_drewN ?_ _ | refine blk_drew ?_ | refine blk_alloc ?_ _)); exact BK250.out) hb)
   have n5_ := Aside0.mk (below_step (by repeat (first | (with_reducible first | exact HB.out | apply below_alloc | apply pw_below_drewN | apply below_drew1 | refine below_set ?_ GE250.out) | exact HB.out)) hb)
   clear HO234
   clear HO237
   clear HO240
   clear HO249
   clear BK250
   clear HB
   have HO234 := n0_
   have HO237 := n1_
   have HO240 := n2_
   have HO249 := n3_
   have BK250 := n4_
   have HB := n5_
   clear n0_ n1_ n2_ n3_ n4_ n5_
   (try clear hb)
   (try clear hb2)
   (try clear hk)
   (try clear hi)
   refine hK.out _ _ ⟨(blk_cell BK250.out 0).trans rfl, (blk_cell BK250.out 1).trans rfl⟩ (fun hHeld => ?_)
   clear hK K
   refine norm_ (a' := ?_) ?_ ?_
   rotate_left
   ·show Act.put _ (some 61) _ = _
    simp only [Act.put, List.setIfInBounds_toArray, List.set_cons_zero, List.set_cons_succ, i64_w, i32_w]
    rfl
   refine pure_ (i := 17) (N := some 62) (v := ?_) (a' := ?_) #[true, true, true, true, true, true, true, true, true, true, true, true, true, true, true, true, true, true, false] rfl rfl (any_of HT_.out (by kernel_rfl)) (fun _ _ _ h => h) (Or.inl ⟨by rfl, ?_⟩) ?_ ?_
   rotate_left
   ·intro w'
    go_simp
    with_reducible rfl
   rotate_left
   ·simp only [Act.put, List.setIfInBounds_toArray, List.set_cons_zero, List.set_cons_succ, i64_w, i32_w]
    rfl
   refine pure_ (i := 18) (N := some 8) (v := ?_) (a' := ?_) #[true, true, true, true, true, true, true, true, true, true, true, true, true, true, true, true, true, true, true] rfl rfl (any_of HT_.out (by kernel_rfl)) (fun _ _ _ h => h) (Or.inl ⟨by rfl, ?_⟩) ?_ ?_
   rotate_left
   ·intro w'
    go_simp
    with_reducible rfl
   rotate_left
   ·simp only [Act.put, List.setIfInBounds_toArray, List.set_cons_zero, List.set_cons_succ, i64_w, i32_w]
    rfl
   refine done_ (done_of HT_.out (by kernel_rfl)) ?_
   try go_wp2
   go_ret
   exact ⟨by first | rfl | (simp [errW_none, errW_some] <;> rfl) | (simp [*, errW_none, errW_some] <;> rfl), by repeat (first | (with_reducible first | exact HB.out | apply below_alloc | apply pw_below_drewN | apply below_drew1 | refine below_set ?_ GE250.out) | exact HB.out)⟩
  ·rw [if_neg c14] at H
   have c14b0 : ((t251 == 0) == (decide (t244 ≤ t246))) = false := by simpa using c14
   (try (have c14b1 : decide ((t251 == 0) = (decide (t244 ≤ t246))) = false := by simpa using c14))
   (try (have c14b2 : ((t251 == 0) == (decide (t244 ≤ t246))) = false := by simpa using c14))
   (try (have c14b3 : ¬ ((t251 == 0) = (decide (t244 ≤ t246))) := by simpa using c14))
   clear c14
   obtain rfl := Option.some.inj H
   go_enter Try.func5, Try.ntmps5
   try go_wp2_with (first | ((with_reducible refine gate_callee (f := 10) rfl ?_); refine goesL_ (some 18) rfl rfl Try.func10 (by kernel_rfl) rfl #[.int .i64 a0] rfl (by (try simp only [List.map_toArray, List.map_cons, List.map_nil]); first | done | rfl | (simp only [List.length_drop, List.length_take]; rfl)) ?_; (with_reducible refine (worldmintref27_Lots.calls a0 t231 _ A5.out).mono ?_); rintro e w' ⟨rfl, ⟨nd, rfl⟩⟩; refine ⟨_, rfl, ?_⟩) | ((with_reducible refine gate_callee (f := 11) rfl ?_); refine goesL_ (some 21) rfl rfl Try.func11 (by kernel_rfl) rfl #[.int .i64 t231, .slice A1 l1.length c1, .int .i64 8] rfl (by (try simp only [List.map_toArray, List.map_cons, List.map_nil]); first | done | rfl | (simp only [List.length_drop, List.length_take]; rfl)) ?_; (with_reducible refine (worldmintref27_Bids.calls k t231 _ _ l1 8 t232 _ ?side1 ?side2 A6.out).mono ?_); (case side1 => repeat (first | exact HR1.out | (with_reducible refine Kd.C_alloc ?_ _) | (with_reducible refine Kd.C_drewN ?_ _) | (with_reducible refine Kd.C_drew ?_))); (case side2 => exact HC1.out); rintro e w34 ⟨v233, rfl, ho0, hb⟩; refine ⟨_, rfl, ?_⟩; have n0_ := Aside0.mk (Kd.N_lower (Kd.N_mono (ok' := fun k_ => True) (Kd.S_N (Kd.S_bound ho0)) (fun k_ hk_ => trivial)) (below_size (by repeat (first | (with_reducible first | exact HB.out | apply below_alloc | apply pw_below_drewN | apply below_drew1) | exact HB.out)))); have n1_ := Aside0.mk (below_step (by repeat (first | (with_reducible first | exact HB.out | apply below_alloc | apply pw_below_drewN | apply below_drew1) | exact HB.out)) hb); clear HB; have HO234 := n0_; have HB := n1_; clear n0_ n1_; (try clear hb); (try clear hb2); (try clear hk); (try clear hi); (try clear ho0); obtain ⟨Ao35, co35, eo35⟩ := Kd.N_slice HO234.out; subst eo35) | ((with_reducible refine gate_callee (f := 19) rfl ?_); refine goesL_ (some 23) rfl rfl Try.func19 (by kernel_rfl) rfl #[.slice Ao35 t232.length co35] rfl (by (try simp only [List.map_toArray, List.map_cons, List.map_nil]); first | done | rfl | (simp only [List.length_drop, List.length_take]; rfl)) ?_; (with_reducible refine (worldmintlaw29_given.calls k (fun k_ => True) _ _ t232 t235 _ ?side1 A7.out).mono ?_); (case side1 => exact Kd.N_V (HO234.out)); rintro e w36 ⟨v236, rfl, ho0, hb⟩; refine ⟨_, rfl, ?_⟩; have n0_ := Aside0.mk (Kd.N_elder' (by (with_reducible repeat (first | apply Kd.N_alloc | apply Kd.N_drewN | apply Kd.N_drew)); exact HO234.out) (by first | exact Kd.N_base ho0 | exact Kd.N_base (Kd.S_N ho0)) hb); have n1_ := Aside0.mk (Kd.N_lower (Kd.N_mono (ok' := fun k_ => True) ho0 (fun k_ hk_ => trivial)) (below_size (by repeat (first | (with_reducible first | exact HB.out | apply below_alloc | apply pw_below_drewN | apply below_drew1) | exact HB.out)))); have n2_ := Aside0.mk (below_step (by repeat (first | (with_reducible first | exact HB.out | apply below_alloc | apply pw_below_drewN | apply below_drew1) | exact HB.out)) hb); clear HO234; clear HB; have HO234 := n0_; have HO237 := n1_; have HB := n2_; clear n0_ n1_ n2_; (try clear hb); (try clear hb2); (try clear hk); (try clear hi); (try clear ho0)) | ((with_reducible refine gate_callee (f := 12) rfl ?_); refine goesL_ (some 27) rfl rfl Try.func12 (by kernel_rfl) rfl #[.int .i64 t231, .slice Ao35 t232.length co35, .int .i64 a3] rfl (by (try simp only [List.map_toArray, List.map_cons, List.map_nil]); first | done | rfl | (simp only [List.length_drop, List.length_take]; rfl)) ?_; (with_reducible refine (worldmintref29_Win.calls k t231 _ _ t232 a3 t238 _ ?side1 ?side2 A8.out).mono ?_); (case side1 => repeat (first | exact (Kd.N_reads' HO234.out).2.2 | (with_reducible refine Kd.C_alloc ?_ _) | (with_reducible refine Kd.C_drewN ?_ _) | (with_reducible refine Kd.C_drew ?_))); (case side2 => exact (Kd.N_reads' HO234.out).2.1); rintro e w37 ⟨v239, rfl, ho0, hb⟩; refine ⟨_, rfl, ?_⟩; have n0_ := Aside0.mk (Kd.N_elder' (by (with_reducible repeat (first | apply Kd.N_alloc | apply Kd.N_drewN | apply Kd.N_drew)); exact HO234.out) (Kd.R_base ho0) hb); have n1_ := Aside0.mk (Kd.N_elder' (by (with_reducible repeat (first | apply Kd.N_alloc | apply Kd.N_drewN | apply Kd.N_drew)); exact HO237.out) (Kd.R_base ho0) hb); have n2_ := Aside0.mk (Kd.R_lower ho0 (below_size (by repeat (first | (with_reducible first | exact HB.out | apply below_alloc | apply pw_below_drewN | apply below_drew1) | exact HB.out)))); have n3_ := Aside0.mk (below_step (by repeat (first | (with_reducible first | exact HB.out | apply below_alloc | apply pw_below_drewN | apply below_drew1) | exact HB.out)) hb); clear HO234; clear HO237; clear HB; have HO234 := n0_; have HO237 := n1_; have HO240 := n2_; have HB := n3_; clear n0_ n1_ n2_ n3_; (try clear hb); (try clear hb2); (try clear hk); (try clear hi); (try clear ho0)) | ((with_reducible refine gate_callee (f := 15) rfl ?_); refine goesL_ (some 30) rfl rfl Try.func15 (by kernel_rfl) rfl #[.int .i64 t231, .slice A2 l2.length c2] rfl (by (try simp only [List.map_toArray, List.map_cons, List.map_nil]); first | done | rfl | (simp only [List.length_drop, List.length_take]; rfl)) ?_; (with_reducible refine (worldmintref28_Lots.calls k t231 _ _ l2 t241 _ ?side1 ?side2 A9.out).mono ?_); (case side1 => repeat (first | exact (Kd.C_below HR2.out HB.out) | (with_reducible refine Kd.C_alloc ?_ _) | (with_reducible refine Kd.C_drewN ?_ _) | (with_reducible refine Kd.C_drew ?_))); (case side2 => exact HC2.out); rintro e w38 ⟨v242, rfl, ho0, hb⟩; refine ⟨_, rfl, ?_⟩; have n0_ := Aside0.mk (Kd.N_elder' (by (with_reducible repeat (first | apply Kd.N_alloc | apply Kd.N_drewN | apply Kd.N_drew)); exact HO234.out) (Kd.R_base ho0) hb); have n1_ := Aside0.mk (Kd.N_elder' (by (with_reducible repeat (first | apply Kd.N_alloc | apply Kd.N_drewN | apply Kd.N_drew)); exact HO237.out) (Kd.R_base ho0) hb); have n2_ := Aside0.mk (Kd.R_elder' (by (with_reducible repeat (first | apply Kd.R_alloc | apply Kd.R_drewN | apply Kd.R_drew)); exact HO240.out) (Kd.R_base ho0) hb); have n3_ := Aside0.mk (Kd.R_lower (Kd.R_new' ho0 (Kd.R_lt (by (with_reducible repeat (first | apply Kd.R_alloc | apply Kd.R_drewN | apply Kd.R_drew)); exact HO240.out))) (below_size (by repeat (first | (with_reducible first | exact HB.out | apply below_alloc | apply pw_below_drewN | apply below_drew1) | exact HB.out)))); have n4_ := Aside0.mk (below_step (by repeat (first | (with_reducible first | exact HB.out | apply below_alloc | apply pw_below_drewN | apply below_drew1) | exact HB.out)) hb); clear HO234; clear HO237; clear HO240; clear HB; have HO234 := n0_; have HO237 := n1_; have HO240 := n2_; have HO243 := n3_; have HB := n4_; clear n0_ n1_ n2_ n3_ n4_; (try clear hb); (try clear hb2); (try clear hk); (try clear hi); (try clear ho0); obtain ⟨Ao39, co39, eo39⟩ := Kd.N_slice HO237.out; subst eo39; obtain ⟨Ao40, co40, eo40⟩ := Kd.R_slice HO243.out; subst eo40) | ((with_reducible refine gate_callee (f := 25) rfl ?_); refine goesL_ (some 35) rfl rfl Try.func25 (by kernel_rfl) rfl #[.int .i64 t231, .slice Ao39 t235.length co39, .slice Ao40 t241.length co40] rfl (by (try simp only [List.map_toArray, List.map_cons, List.map_nil]); first | done | rfl | (simp only [List.length_drop, List.length_take]; rfl)) ?_; (with_reducible refine (clear_Bound.calls t231 _ _ t235 _ _ t241 t244 t245 _ ?side1 ?side2 ?side3 ?side4 A10.out).mono ?_); (case side1 => repeat (first | exact (Kd.N_reads' HO237.out).2.2 | (with_reducible refine Kd.C_alloc ?_ _) | (with_reducible refine Kd.C_drewN ?_ _) | (with_reducible refine Kd.C_drew ?_))); (case side2 => exact (Kd.N_reads' HO237.out).2.1); (case side3 => repeat (first | exact (Kd.R_reads' HO243.out).2.2 | (with_reducible refine Kd.C_alloc ?_ _) | (with_reducible refine Kd.C_drewN ?_ _) | (with_reducible refine Kd.C_drew ?_))); (case side4 => exact (Kd.R_reads' HO243.out).2.1); rintro e w41 ⟨rfl, hb⟩; refine ⟨_, rfl, ?_⟩; have n0_ := Aside0.mk (Kd.N_below (by (with_reducible repeat (first | apply Kd.N_alloc | apply Kd.N_drewN | apply Kd.N_drew)); exact HO234.out) hb); have n1_ := Aside0.mk (Kd.N_below (by (with_reducible repeat (first | apply Kd.N_alloc | apply Kd.N_drewN | apply Kd.N_drew)); exact HO237.out) hb); have n2_ := Aside0.mk (Kd.R_below (by (with_reducible repeat (first | apply Kd.R_alloc | apply Kd.R_drewN | apply Kd.R_drew)); exact HO240.out) hb); have n3_ := Aside0.mk (Kd.R_below (by (with_reducible repeat (first | apply Kd.R_alloc | apply Kd.R_drewN | apply Kd.R_drew)); exact HO243.out) hb); have n4_ := Aside0.mk (below_step (by repeat (first | (with_reducible first | exact HB.out | apply below_alloc | apply pw_below_drewN | apply below_drew1) | exact HB.out)) hb); clear HO234; clear HO237; clear HO240; clear HO243; clear HB; have HO234 := n0_; have HO237 := n1_; have HO240 := n2_; have HO243 := n3_; have HB := n4_; clear n0_ n1_ n2_ n3_ n4_; (try clear hb); (try clear hb2); (try clear hk); (try clear hi); obtain ⟨Ao42, co42, eo42⟩ := Kd.R_slice HO240.out; subst eo42) | ((with_reducible refine gate_callee (f := 26) rfl ?_); refine goesL_ (some 40) rfl rfl Try.func26 (by kernel_rfl) rfl #[.slice Ao39 t235.length co39, .slice Ao42 t238.length co42] rfl (by (try simp only [List.map_toArray, List.map_cons, List.map_nil]); first | done | rfl | (simp only [List.length_drop, List.length_take]; rfl)) ?_; (with_reducible refine (bids_Value.calls k _ _ t235 _ _ t238 t246 _ ?side1 ?side2 ?side3 ?side4 A11.out).mono ?_); (case side1 => repeat (first | exact (Kd.N_reads' HO237.out).2.2 | (with_reducible refine Kd.C_alloc ?_ _) | (with_reducible refine Kd.C_drewN ?_ _) | (with_reducible refine Kd.C_drew ?_))); (case side2 => exact (Kd.N_reads' HO237.out).2.1); (case side3 => repeat (first | exact (Kd.R_reads' HO240.out).2.2 | (with_reducible refine Kd.C_alloc ?_ _) | (with_reducible refine Kd.C_drewN ?_ _) | (with_reducible refine Kd.C_drew ?_))); (case side4 => exact (Kd.R_reads' HO240.out).2.1); rintro e w' ⟨rfl, ⟨nd, rfl⟩⟩; refine ⟨_, rfl, ?_⟩; (try (rw [drewN_self w41]; generalize hq_ : World.drewN w41 _ = w41; have n0_ : Aside0 (Kd.N k85 85 w41 w.heap.size (fun k_ => some k_ ≠ (.slice Ao39 t235.length co39 : Value).ownBlock ∧ some k_ ≠ (.slice Ao42 t238.length co42 : Value).ownBlock ∧ some k_ ≠ (.slice Ao40 t241.length co40 : Value).ownBlock) (.slice Ao35 t232.length co35) t232) := ⟨by rw [← hq_]; exact (by (with_reducible repeat (first | apply Kd.N_alloc | apply Kd.N_drewN | apply Kd.N_drew)); exact Kd.N_mono HO234.out (fun k_ hk => by first | exact ⟨hk.1.1.2, ⟨hk.1.2, hk.2⟩⟩ | ((try dsimp only at hk ⊢); (try simp only [ne_eq] at hk ⊢); simp only [hk, not_false_eq_true, and_self])))⟩; have n1_ : Aside0 (Kd.N k82 82 w41 w.heap.size (fun k_ => some k_ ≠ (.slice Ao42 t238.length co42 : Value).ownBlock ∧ some k_ ≠ (.slice Ao40 t241.length co40 : Value).ownBlock) (.slice Ao39 t235.length co39) t235) := ⟨by rw [← hq_]; exact (by (with_reducible repeat (first | apply Kd.N_alloc | apply Kd.N_drewN | apply Kd.N_drew)); exact Kd.N_mono HO237.out (fun k_ hk => by first | exact ⟨hk.1.2, hk.2⟩ | ((try dsimp only at hk ⊢); (try simp only [ne_eq] at hk ⊢); simp only [hk, not_false_eq_true, and_self])))⟩; have n2_ : Aside0 (Kd.R (Kd.int .i64) 3 w41 w.heap.size (fun k_ => some k_ ≠ (.slice Ao40 t241.length co40 : Value).ownBlock) (.slice Ao42 t238.length co42) t238) := ⟨by rw [← hq_]; exact (by (with_reducible repeat (first | apply Kd.R_alloc | apply Kd.R_drewN | apply Kd.R_drew)); exact Kd.R_mono HO240.out (fun k_ hk => by first | exact hk.2 | ((try dsimp only at hk ⊢); (try simp only [ne_eq] at hk ⊢); simp only [hk, not_false_eq_true, and_self])))⟩; have n3_ : Aside0 (Kd.R (Kd.int .i64) 3 w41 w.heap.size (fun k_ => some k_ ≠ (.slice Ao42 t238.length co42 : Value).ownBlock) (.slice Ao40 t241.length co40) t241) := ⟨by rw [← hq_]; exact (by (with_reducible repeat (first | apply Kd.R_alloc | apply Kd.R_drewN | apply Kd.R_drew)); exact Kd.R_mono HO243.out (fun k_ hk => by first | exact hk.2 | ((try dsimp only at hk ⊢); (try simp only [ne_eq] at hk ⊢); simp only [hk, not_false_eq_true, and_self])))⟩; have n4_ : Aside0 (Below w.heap.size w w41) := ⟨by rw [← hq_]; exact (by repeat (first | (with_reducible first | exact HB.out | apply below_alloc | apply pw_below_drewN | apply below_drew1) | exact HB.out))⟩; clear HO234 HO237 HO240 HO243 HB hq_; have HO234 := n0_; have HO237 := n1_; have HO240 := n2_; have HO243 := n3_; have HB := n4_; clear n0_ n1_ n2_ n3_ n4_))) | ((with_reducible refine gate_dst (N := 43) rfl ?_); refine Kd.N_lit k55 _ 55 ?hg (N' := 43) ?hd (xs := ([(⟨(-1), 0, 0, t241⟩ : S55)] : List (S55))) (inner := [.int .i64 (-1), .int .i64 0, .int .i64 0, .slice Ao40 t241.length co40]) (ok := (fun k_ => some k_ ≠ (.slice Ao35 t232.length co35 : Value).ownBlock ∧ some k_ ≠ (.slice Ao39 t235.length co39 : Value).ownBlock ∧ some k_ ≠ (.slice Ao42 t238.length co42 : Value).ownBlock)) (okp := (fun k_ => some k_ ≠ (.slice Ao35 t232.length co35 : Value).ownBlock ∧ some k_ ≠ (.slice Ao39 t235.length co39 : Value).ownBlock ∧ some k_ ≠ (.slice Ao42 t238.length co42 : Value).ownBlock)) ?hr ?hp (fun _ hk => hk) ((show ∀ k_, w41.heap.size ≤ k_ → (fun k_ => some k_ ≠ (.slice Ao35 t232.length co35 : Value).ownBlock ∧ some k_ ≠ (.slice Ao39 t235.length co39 : Value).ownBlock ∧ some k_ ≠ (.slice Ao42 t238.length co42 : Value).ownBlock) k_ from fun k_ hk => ⟨Kd.fresh' (Kd.N_lt (by (with_reducible repeat (first | apply Kd.N_alloc | apply Kd.N_drewN | apply Kd.N_drew)); exact HO234.out)) k_ hk, Kd.fresh' (Kd.N_lt (by (with_reducible repeat (first | apply Kd.N_alloc | apply Kd.N_drewN | apply Kd.N_drew)); exact HO237.out)) k_ hk, Kd.fresh' (Kd.R_lt (by (with_reducible repeat (first | apply Kd.R_alloc | apply Kd.R_drewN | apply Kd.R_drew)); exact HO240.out)) k_ hk⟩) _ (Nat.le_refl _)) (Below.refl _ _) (Nat.le_refl _) (by simp) ?_; (case hd => rfl); (case hg => rfl); (case hr => first | (go_simp; done) | (go_simp; rfl)); (case hp => exact (Reps.c4 (show Kd.FK k55 _ _ (⟨(-1), 0, 0, t241⟩ : S55) [.int .i64 (-1), .int .i64 0, .int .i64 0, .slice Ao40 t241.length co40] from (k55_mkF _ _ (⟨(-1), 0, 0, t241⟩ : S55) (Kd.R_reads' (Kd.R_mono (ok' := (fun k_ => some k_ ≠ (.slice Ao35 t232.length co35 : Value).ownBlock ∧ some k_ ≠ (.slice Ao39 t235.length co39 : Value).ownBlock ∧ some k_ ≠ (.slice Ao42 t238.length co42 : Value).ownBlock)) (Kd.R_apart' (Kd.R_apart' (HO243.out) (Kd.N_typed HO234.out) (by decide)) (Kd.N_typed HO237.out) (by decide)) (fun k_ hk => by first | exact ⟨hk.1.2, ⟨hk.2, hk.1.1.2⟩⟩ | ((try dsimp only at hk ⊢); (try simp only [ne_eq] at hk ⊢); simp only [hk, not_false_eq_true, and_self])))).2.1 (Kd.R_F (Kd.R_mono (ok' := (fun k_ => some k_ ≠ (.slice Ao35 t232.length co35 : Value).ownBlock ∧ some k_ ≠ (.slice Ao39 t235.length co39 : Value).ownBlock ∧ some k_ ≠ (.slice Ao42 t238.length co42 : Value).ownBlock)) (Kd.R_apart' (Kd.R_apart' (HO243.out) (Kd.N_typed HO234.out) (by decide)) (Kd.N_typed HO237.out) (by decide)) (fun k_ hk => by first | exact ⟨hk.1.2, ⟨hk.2, hk.1.1.2⟩⟩ | ((try dsimp only at hk ⊢); (try simp only [ne_eq] at hk ⊢); simp only [hk, not_false_eq_true, and_self])))))) (Reps.none _ _))); intro v248 w43 ho44 hb hg_ hnew_; clear hg_ hnew_; (first | rw [← Ny247.out] at ho44 | (simp only [Int.reduceToNat] at ho44; rw [← Ny247.out] at ho44)); have n0_ := Aside0.mk (Kd.N_elder' (by (with_reducible repeat (first | apply Kd.N_alloc | apply Kd.N_drewN | apply Kd.N_drew)); exact HO234.out) (Kd.N_base ho44) hb); have n1_ := Aside0.mk (Kd.N_elder' (by (with_reducible repeat (first | apply Kd.N_alloc | apply Kd.N_drewN | apply Kd.N_drew)); exact HO237.out) (Kd.N_base ho44) hb); have n2_ := Aside0.mk (Kd.R_below (by (with_reducible repeat (first | apply Kd.R_alloc | apply Kd.R_drewN | apply Kd.R_drew)); exact HO240.out) hb); have n3_ := Aside0.mk (Kd.N_lower ho44 (below_size (by repeat (first | (with_reducible first | exact HB.out | apply below_alloc | apply pw_below_drewN | apply below_drew1) | exact HB.out)))); have n4_ := Aside0.mk (below_step (by repeat (first | (with_reducible first | exact HB.out | apply below_alloc | apply pw_below_drewN | apply below_drew1) | exact HB.out)) hb); clear HO234; clear HO237; clear HO240; clear HB; clear HO243; have HO234 := n0_; have HO237 := n1_; have HO240 := n2_; have HO249 := n3_; have HB := n4_; clear n0_ n1_ n2_ n3_ n4_; clear hb ho44; obtain ⟨Ao45, co45, eo45⟩ := Kd.N_slice HO249.out; subst eo45) | ((with_reducible refine gate_dst (N := 16) rfl ?_); refine box_event ?hg (N := 16) ?hd (cs := #[.int .i64 0, .slice none 0 0]) (t := 44) ?hr ?_; (case hd => rfl); (case hg => rfl); (case hr => first | (go_simp; done) | (go_simp; rfl)); intro gb250 hg w46 hbox hb; have n0_ := Aside0.mk (Kd.N_below (Kd.N_elderB (by (with_reducible repeat (first | apply Kd.N_alloc | apply Kd.N_drewN | apply Kd.N_drew)); exact HO234.out) gb250 (Nat.le_of_eq hg.symm)) hb); have n1_ := Aside0.mk (Kd.N_below (Kd.N_elderB (by (with_reducible repeat (first | apply Kd.N_alloc | apply Kd.N_drewN | apply Kd.N_drew)); exact HO237.out) gb250 (Nat.le_of_eq hg.symm)) hb); have n2_ := Aside0.mk (Kd.R_below (by (with_reducible repeat (first | apply Kd.R_alloc | apply Kd.R_drewN | apply Kd.R_drew)); exact HO240.out) hb); have n3_ := Aside0.mk (Kd.N_below (Kd.N_elderB (by (with_reducible repeat (first | apply Kd.N_alloc | apply Kd.N_drewN | apply Kd.N_drew)); exact HO249.out) gb250 (Nat.le_of_eq hg.symm)) hb); have n4_ := Aside0.mk (below_step (by repeat (first | (with_reducible first | exact HB.out | apply below_alloc | apply pw_below_drewN | apply below_drew1) | exact HB.out)) hb); have n5_ := Aside0.mk (hbox); have n6_ := Aside0.mk ((by rw [hg]; exact (below_size (by repeat (first | (with_reducible first | exact HB.out | apply below_alloc | apply pw_below_drewN | apply below_drew1) | exact HB.out))) : w.heap.size ≤ gb250)); have n7_ := Aside0.mk ((by rw [hg]; exact (below_size (by repeat (first | (with_reducible first | exact HB.out | apply below_alloc | apply pw_below_drewN | apply below_drew1) | exact HB.out))) : w.heap.size ≤ gb250)); clear HO234; clear HO237; clear HO240; clear HO249; clear HB; have HO234 := n0_; have HO237 := n1_; have HO240 := n2_; have HO249 := n3_; have HB := n4_; have BK250 := n5_; have GW250 := n6_; have GE250 := n7_; clear n0_ n1_ n2_ n3_ n4_ n5_ n6_ n7_; clear hb hbox hg; have hcz47_0 : w46.cell? ⟨gb250, 0, none⟩ = some (.int .i64 0) := (blk_cell BK250.out 0).trans rfl; have hcz47_1 : w46.cell? ⟨gb250, 1, none⟩ = some (.slice none 0 0) := (blk_cell BK250.out 1).trans rfl; have hfz47_0 := blk_frozen BK250.out 0; have hfz47_1 := blk_frozen BK250.out 1))
   have n0_ : Aside0 (Kd.N k85 85 ((w46.setCell ⟨gb250, 0, none⟩ (.int .i64 t246)).setCell ⟨gb250, 1, none⟩ (.slice Ao45 y247.length co45)) w.heap.size (fun k_ => some k_ ≠ (.slice Ao39 t235.length co39 : Value).ownBlock ∧ some k_ ≠ (.slice Ao42 t238.length co42 : Value).ownBlock ∧ some k_ ≠ (.slice Ao45 y247.length co45 : Value).ownBlock ∧ k_ ≠ gb250) (.slice Ao35 t232.length co35) t232) := ⟨by (with_reducible repeat (first | apply Kd.N_alloc | apply Kd.N_drewN | apply Kd.N_drew)); exact Kd.N_mono (Kd.N_far (p := ⟨gb250, 1, none⟩) (Kd.N_far (p := ⟨gb250, 0, none⟩) (Kd.N_mono HO234.out (fun k_ hk => (⟨hk, hk.2⟩ : _ ∧ k_ ≠ gb250))) (fun k_ hk => by first | exact hk.2 | ((try dsimp only at hk ⊢); (try simp only [ne_eq] at hk ⊢); simp only [hk, not_false_eq_true, and_self])) (.int .i64 t246)) (fun k_ hk => by first | exact hk.2 | ((try dsimp only at hk ⊢); (try simp only [ne_eq] at hk ⊢); simp only [hk, not_false_eq_true, and_self])) (.slice Ao45 y247.length co45)) (fun k_ hk => by first | exact ⟨hk.1.1.1.1.1.2, ⟨hk.1.1.1.1.2, ⟨hk.1.1.2, hk.1.2⟩⟩⟩ | ((try dsimp only at hk ⊢); (try simp only [ne_eq] at hk ⊢); simp only [hk, not_false_eq_true, and_self]))⟩
   have n1_ : Aside0 (Kd.N k82 82 ((w46.setCell ⟨gb250, 0, none⟩ (.int .i64 t246)).setCell ⟨gb250, 1, none⟩ (.slice Ao45 y247.length co45)) w.heap.size (fun k_ => some k_ ≠ (.slice Ao42 t238.length co42 : Value).ownBlock ∧ some k_ ≠ (.slice Ao45 y247.length co45 : Value).ownBlock ∧ k_ ≠ gb250) (.slice Ao39 t235.length co39) t235) := ⟨by (with_reducible repeat (first | apply Kd.N_alloc | apply Kd.N_drewN | apply Kd.N_drew)); exact Kd.N_mono (Kd.N_far (p := ⟨gb250, 1, none⟩) (Kd.N_far (p := ⟨gb250, 0, none⟩) (Kd.N_mono HO237.out (fun k_ hk => (⟨hk, hk.2⟩ : _ ∧ k_ ≠ gb250))) (fun k_ hk => by first | exact hk.2 | ((try dsimp only at hk ⊢); (try simp only [ne_eq] at hk ⊢); simp only [hk, not_false_eq_true, and_self])) (.int .i64 t246)) (fun k_ hk => by first | exact hk.2 | ((try dsimp only at hk ⊢); (try simp only [ne_eq] at hk ⊢); simp only [hk, not_false_eq_true, and_self])) (.slice Ao45 y247.length co45)) (fun k_ hk => by first | exact ⟨hk.1.1.1.1.2, ⟨hk.1.1.2, hk.1.2⟩⟩ | ((try dsimp only at hk ⊢); (try simp only [ne_eq] at hk ⊢); simp only [hk, not_false_eq_true, and_self]))⟩
   have n2_ : Aside0 (Kd.R (Kd.int .i64) 3 ((w46.setCell ⟨gb250, 0, none⟩ (.int .i64 t246)).setCell ⟨gb250, 1, none⟩ (.slice Ao45 y247.length co45)) w.heap.size (fun _ => True) (.slice Ao42 t238.length co42) t238) := ⟨by (with_reducible repeat (first | apply Kd.R_alloc | apply Kd.R_drewN | apply Kd.R_drew)); exact Kd.R_mono (Kd.R_far (p := ⟨gb250, 1, none⟩) (Kd.R_far (p := ⟨gb250, 0, none⟩) (Kd.R_types HO240.out BK250.out (by decide)) (fun k_ hk => by first | exact hk.2 | ((try dsimp only at hk ⊢); (try simp only [ne_eq] at hk ⊢); simp only [hk, not_false_eq_true, and_self])) (.int .i64 t246)) (fun k_ hk => by first | exact hk.2 | ((try dsimp only at hk ⊢); (try simp only [ne_eq] at hk ⊢); simp only [hk, not_false_eq_true, and_self])) (.slice Ao45 y247.length co45)) (fun _ hk => trivial)⟩
   have n3_ : Aside0 (Kd.N k55 55 ((w46.setCell ⟨gb250, 0, none⟩ (.int .i64 t246)).setCell ⟨gb250, 1, none⟩ (.slice Ao45 y247.length co45)) w.heap.size (fun k_ => some k_ ≠ (.slice Ao35 t232.length co35 : Value).ownBlock ∧ some k_ ≠ (.slice Ao39 t235.length co39 : Value).ownBlock ∧ some k_ ≠ (.slice Ao42 t238.length co42 : Value).ownBlock ∧ k_ ≠ gb250) (.slice Ao45 y247.length co45) y247) := ⟨by (with_reducible repeat (first | apply Kd.N_alloc | apply Kd.N_drewN | apply Kd.N_drew)); exact Kd.N_mono (Kd.N_far (p := ⟨gb250, 1, none⟩) (Kd.N_far (p := ⟨gb250, 0, none⟩) (Kd.N_mono HO249.out (fun k_ hk => (⟨hk, hk.2⟩ : _ ∧ k_ ≠ gb250))) (fun k_ hk => by first | exact hk.2 | ((try dsimp only at hk ⊢); (try simp only [ne_eq] at hk ⊢); simp only [hk, not_false_eq_true, and_self])) (.int .i64 t246)) (fun k_ hk => by first | exact hk.2 | ((try dsimp only at hk ⊢); (try simp only [ne_eq] at hk ⊢); simp only [hk, not_false_eq_true, and_self])) (.slice Ao45 y247.length co45)) (fun k_ hk => by first | exact ⟨hk.1.1.1, ⟨hk.1.1.2.1, ⟨hk.1.1.2.2, hk.1.2⟩⟩⟩ | ((try dsimp only at hk ⊢); (try simp only [ne_eq] at hk ⊢); simp only [hk, not_false_eq_true, and_self]))⟩
   have n4_ : Aside0 (((w46.setCell ⟨gb250, 0, none⟩ (.int .i64 t246)).setCell ⟨gb250, 1, none⟩ (.slice Ao45 y247.length co45)).heap[gb250]? = some (.cells #[.int .i64 t246, .slice Ao45 y247.length co45] 44 (0, 0))) := ⟨by (with_reducible repeat (first | refine blk_drewN ?_ _ | refine blk_drew ?_ | refine blk_alloc ?_ _)); refine blk_put (cs := #[.int .i64 t246, .slice none 0 0]) ?_ 1 _ rfl; (with_reducible repeat (first | refine blk_drewN ?_ _ | refine blk_drew ?_ | refine blk_alloc ?_ _)); refine blk_put (cs := #[.int .i64 0, .slice none 0 0]) ?_ 0 _ rfl; (with_reducible repeat (first | refine blk_drewN ?_ _ | refine blk_drew ?_ | refine blk_alloc ?_ _)); exact BK250.out⟩
   have n5_ : Aside0 (Below w.heap.size w ((w46.setCell ⟨gb250, 0, none⟩ (.int .i64 t246)).setCell ⟨gb250, 1, none⟩ (.slice Ao45 y247.length co45))) := ⟨by repeat (first | (with_reducible first | exact HB.out | apply below_alloc | apply pw_below_drewN | apply below_drew1 | refine below_set ?_ GE250.out) | exact HB.out)⟩
   (try clear HO234)
   (try clear HO237)
   (try clear HO240)
   (try clear HO249)
   (try clear BK250)
   (try clear HB)
   generalize ((w46.setCell ⟨gb250, 0, none⟩ (.int .i64 t246)).setCell ⟨gb250, 1, none⟩ (.slice Ao45 y247.length co45)) = w48 at n0_ n1_ n2_ n3_ n4_ n5_ ⊢
   have HO234 := n0_
   have HO237 := n1_
   have HO240 := n2_
   have HO249 := n3_
   have BK250 := n4_
   have HB := n5_
   clear n0_ n1_ n2_ n3_ n4_ n5_
   have n0_ := Aside0.mk (Kd.N_drew HO234.out)
   have n1_ := Aside0.mk (Kd.N_drew HO237.out)
   have n2_ := Aside0.mk (Kd.R_drew HO240.out)
   have n3_ := Aside0.mk (Kd.N_drew HO249.out)
   have n4_ := Aside0.mk (blk_drew BK250.out)
   have n5_ := Aside0.mk (below_drew1 HB.out)
   clear HO234
   clear HO237
   clear HO240
   clear HO249
   clear BK250
   clear HB
   have HO234 := n0_
   have HO237 := n1_
   have HO240 := n2_
   have HO249 := n3_
   have BK250 := n4_
   have HB := n5_
   clear n0_ n1_ n2_ n3_ n4_ n5_
   refine start_ (n := 19) (S := fun w' => w'.cell? ⟨gb250, 0, none⟩ = some (.int .i64 t246) ∧ w'.cell? ⟨gb250, 1, none⟩ = some (.slice Ao45 y247.length co45)) (ds := []) #[false, false, false, false, false, false, false, false, false, false, false, false, false, false, false, false, false, false, false] (by kernel_rfl) rfl rfl ⟨(blk_cell BK250.out 0).trans rfl, (blk_cell BK250.out 1).trans rfl⟩ (fun hHeld => ?_); refine with_tabW worldmintlaw29_ProofLeaf.tab8 worldmintlaw29_ProofLeaf.bits8 (fun HT_ HW_ => ?_)
   generalize w48.drew = w49 at HO234 HO237 HO240 HO249 BK250 HB hHeld ⊢
   refine pure_ (i := 0) (N := some 45) (v := ?_) (a' := ?_) #[true, false, false, false, false, false, false, false, false, false, false, false, false, false, false, false, false, false, false] rfl rfl (any_of HT_.out (by kernel_rfl)) (fun _ _ _ h => h) (Or.inl ⟨by rfl, ?_⟩) ?_ ?_
   rotate_left
   ·intro w'
    go_simp
    with_reducible rfl
   rotate_left
   ·simp only [Act.put, List.setIfInBounds_toArray, List.set_cons_zero, List.set_cons_succ, i64_w, i32_w]
    rfl
   refine pure_ (i := 1) (N := some 46) (v := ?_) (a' := ?_) #[true, true, false, false, false, false, false, false, false, false, false, false, false, false, false, false, false, false, false] rfl rfl (any_of HT_.out (by kernel_rfl)) (fun _ _ _ h => h) (Or.inl ⟨by rfl, ?_⟩) ?_ ?_
   rotate_left
   ·intro w'
    go_simp
    with_reducible rfl
   rotate_left
   ·simp only [Act.put, List.setIfInBounds_toArray, List.set_cons_zero, List.set_cons_succ, i64_w, i32_w]
    rfl
   refine pure_ (i := 2) (N := some 47) (v := ?_) (a' := ?_) #[true, true, true, false, false, false, false, false, false, false, false, false, false, false, false, false, false, false, false] rfl rfl (any_of HT_.out (by kernel_rfl)) (fun _ _ _ h => h) (Or.inl ⟨by rfl, ?_⟩) ?_ ?_
   rotate_left
   ·intro w'
    go_simp
    with_reducible rfl
   rotate_left
   ·simp only [Act.put, List.setIfInBounds_toArray, List.set_cons_zero, List.set_cons_succ, i64_w, i32_w]
    rfl
   refine pure_ (i := 3) (N := some 48) (v := ?_) (a' := ?_) #[true, true, true, true, false, false, false, false, false, false, false, false, false, false, false, false, false, false, false] rfl rfl (any_of HT_.out (by kernel_rfl)) (fun _ _ _ h => h) (Or.inl ⟨by rfl, ?_⟩) ?_ ?_
   rotate_left
   ·intro w'
    go_simp
    with_reducible rfl
   rotate_left
   ·simp only [Act.put, List.setIfInBounds_toArray, List.set_cons_zero, List.set_cons_succ, i64_w, i32_w]
    rfl
   refine pure_ (i := 4) (N := some 49) (v := ?_) (a' := ?_) #[true, true, true, true, true, false, false, false, false, false, false, false, false, false, false, false, false, false, false] rfl rfl (any_of HT_.out (by kernel_rfl)) (fun _ _ _ h => h) (Or.inl ⟨by rfl, ?_⟩) ?_ ?_
   rotate_left
   ·intro w'
    go_simp
    with_reducible rfl
   rotate_left
   ·simp only [Act.put, List.setIfInBounds_toArray, List.set_cons_zero, List.set_cons_succ, i64_w, i32_w]
    rfl
   refine pure_ (i := 5) (N := some 50) (v := ?_) (a' := ?_) #[true, true, true, true, true, true, false, false, false, false, false, false, false, false, false, false, false, false, false] rfl rfl (any_of HT_.out (by kernel_rfl)) (fun _ _ _ h => h) (Or.inl ⟨by rfl, ?_⟩) ?_ ?_
   rotate_left
   ·intro w'
    go_simp
    with_reducible rfl
   rotate_left
   ·simp only [Act.put, List.setIfInBounds_toArray, List.set_cons_zero, List.set_cons_succ, i64_w, i32_w]
    rfl
   refine pure_ (i := 9) (N := some 54) (v := ?_) (a' := ?_) #[true, true, true, true, true, true, false, false, false, true, false, false, false, false, false, false, false, false, false] rfl rfl (any_of HT_.out (by kernel_rfl)) (fun _ _ _ h => h) (Or.inl ⟨by rfl, ?_⟩) ?_ ?_
   rotate_left
   ·intro w'
    go_simp
    with_reducible rfl
   rotate_left
   ·simp only [Act.put, List.setIfInBounds_toArray, List.set_cons_zero, List.set_cons_succ, i64_w, i32_w]
    rfl
   refine pure_ (i := 10) (N := some 55) (v := ?_) (a' := ?_) #[true, true, true, true, true, true, false, false, false, true, true, false, false, false, false, false, false, false, false] rfl rfl (any_of HT_.out (by kernel_rfl)) (fun _ _ _ h => h) (Or.inl ⟨by rfl, ?_⟩) ?_ ?_
   rotate_left
   ·intro w'
    go_simp
    with_reducible rfl
   rotate_left
   ·simp only [Act.put, List.setIfInBounds_toArray, List.set_cons_zero, List.set_cons_succ, i64_w, i32_w]
    rfl
   refine take_ (i := 6) (N := some 51) (v := ?_) (a' := ?_) #[true, true, true, true, true, true, true, false, false, true, true, false, false, false, false, false, false, false, false] rfl rfl (take_ofW HT_.out HW_.out (by kernel_rfl)) (fun _ _ _ h => h) (Or.inl ⟨by rfl, ?_⟩) hHeld ?_ ?_
   rotate_left
   ·rintro w' ⟨s0, s1⟩
    go_simp
    with_reducible rfl
   rotate_left
   ·simp only [Act.put, List.setIfInBounds_toArray, List.set_cons_zero, List.set_cons_succ, i64_w, i32_w]
    rfl
   refine take_ (i := 11) (N := some 56) (v := ?_) (a' := ?_) #[true, true, true, true, true, true, true, false, false, true, true, true, false, false, false, false, false, false, false] rfl rfl (take_ofW HT_.out HW_.out (by kernel_rfl)) (fun _ _ _ h => h) (Or.inl ⟨by rfl, ?_⟩) hHeld ?_ ?_
   rotate_left
   ·rintro w' ⟨s0, s1⟩
    go_simp
    with_reducible rfl
   rotate_left
   ·simp only [Act.put, List.setIfInBounds_toArray, List.set_cons_zero, List.set_cons_succ, i64_w, i32_w]
    rfl
   refine pure_ (i := 12) (N := some 57) (v := ?_) (a' := ?_) #[true, true, true, true, true, true, true, false, false, true, true, true, true, false, false, false, false, false, false] rfl rfl (any_of HT_.out (by kernel_rfl)) (fun _ _ _ h => h) (Or.inl ⟨by rfl, ?_⟩) ?_ ?_
   rotate_left
   ·intro w'
    go_simp
    with_reducible rfl
   rotate_left
   ·simp only [Act.put, List.setIfInBounds_toArray, List.set_cons_zero, List.set_cons_succ, i64_w, i32_w]
    rfl
   refine one_ (i := 7) (N := some 52) #[true, true, true, true, true, true, true, true, false, true, true, true, true, false, false, false, false, false, false] rfl rfl (one_of HT_.out (by kernel_rfl)) (by decide) (fun K hK => ?_)
   refine goes_ Try.func18 (by kernel_rfl) rfl #[.int .i64 t231, .slice Ao39 t235.length co39, .slice Ao42 t238.length co42, .agg #[.int .i64 t246, .slice Ao45 y247.length co45]] (by rfl) rfl rfl (by (try simp only [List.map_toArray, List.map_cons, List.map_nil]); first | done | rfl | (simp only [List.length_drop, List.length_take]; rfl)) ?_
   with_reducible refine (proof_Check.calls t231 _ _ t235 _ _ t238 t246 _ _ y247 t251 _ ?side1 ?side2 ?side3 ?side4 ?side5 ?side6 A13.out).mono ?_
   (case side1 => repeat (first | exact (Kd.N_reads' HO237.out).2.2 | (with_reducible refine Kd.C_alloc ?_ _) | (with_reducible refine Kd.C_drewN ?_ _) | (with_reducible refine Kd.C_drew ?_)))
   (case side2 => exact (Kd.N_reads' HO237.out).2.1)
   (case side3 => repeat (first | exact (Kd.R_reads' HO240.out).2.2 | (with_reducible refine Kd.C_alloc ?_ _) | (with_reducible refine Kd.C_drewN ?_ _) | (with_reducible refine Kd.C_drew ?_)))
   (case side4 => exact (Kd.R_reads' HO240.out).2.1)
   (case side5 => repeat (first | exact (Kd.N_reads' HO249.out).2.2 | (with_reducible refine Kd.C_alloc ?_ _) | (with_reducible refine Kd.C_drewN ?_ _) | (with_reducible refine Kd.C_drew ?_)))
   (case side6 => exact (Kd.N_reads' HO249.out).2.1)
   rintro e w50 ⟨rfl, hb⟩
   refine ⟨_, rfl, ?_⟩
   have n0_ := Aside0.mk (Kd.N_below (by (with_reducible repeat (first | apply Kd.N_alloc | apply Kd.N_drewN | apply Kd.N_drew)); exact HO234.out) hb)
   have n1_ := Aside0.mk (Kd.N_below (by (with_reducible repeat (first | apply Kd.N_alloc | apply Kd.N_drewN | apply Kd.N_drew)); exact HO237.out) hb)
   have n2_ := Aside0.mk (Kd.R_below (by (with_reducible repeat (first | apply Kd.R_alloc | apply Kd.R_drewN | apply Kd.R_drew)); exact HO240.out) hb)
   have n3_ := Aside0.mk (Kd.N_below (by (with_reducible repeat (first | apply Kd.N_alloc | apply Kd.N_drewN | apply Kd.N_drew)); exact HO249.out) hb)
   have n4_ := Aside0.mk (blk_below (g := gb250) (o := .cells #[.int .i64 t246, .slice Ao45 y247.length co45] 44 (0, 0)) (by (with_reducible repeat (first | refine blk_drewN ?_ _ | refine blk_drew ?_ | refine blk_alloc ?_ _)); exact BK250.out) hb)
   have n5_ := Aside0.mk (below_step (by repeat (first | (with_reducible first | exact HB.out | apply below_alloc | apply pw_below_drewN | apply below_drew1 | refine below_set ?_ GE250.out) | exact HB.out)) hb)
   clear HO234
   clear HO237
   clear HO240
   clear HO249
   clear BK250
   clear HB
   have HO234 := n0_
   have HO237 := n1_
   have HO240 := n2_
   have HO249 := n3_
   have BK250 := n4_
   have HB := n5_
   clear n0_ n1_ n2_ n3_ n4_ n5_
   (try clear hb)
   (try clear hb2)
   (try clear hk)
   (try clear hi)
   refine hK.out _ _ ⟨(blk_cell BK250.out 0).trans rfl, (blk_cell BK250.out 1).trans rfl⟩ (fun hHeld => ?_)
   clear hK K
   refine norm_ (a' := ?_) ?_ ?_
   rotate_left
   ·show Act.put _ (some 52) _ = _
    simp only [Act.put, List.setIfInBounds_toArray, List.set_cons_zero, List.set_cons_succ, i64_w, i32_w]
    rfl
   refine pure_ (i := 8) (N := some 53) (v := ?_) (a' := ?_) #[true, true, true, true, true, true, true, true, true, true, true, true, true, false, false, false, false, false, false] rfl rfl (any_of HT_.out (by kernel_rfl)) (fun _ _ _ h => h) (Or.inl ⟨by rfl, ?_⟩) ?_ ?_
   rotate_left
   ·intro w'
    go_simp
    with_reducible rfl
   rotate_left
   ·simp only [Act.put, List.setIfInBounds_toArray, List.set_cons_zero, List.set_cons_succ, i64_w, i32_w]
    rfl
   refine pure_ (i := 13) (N := some 58) (v := ?_) (a' := ?_) #[true, true, true, true, true, true, true, true, true, true, true, true, true, true, false, false, false, false, false] rfl rfl (any_of HT_.out (by kernel_rfl)) (fun _ _ _ h => h) (Or.inl ⟨by rfl, ?_⟩) ?_ ?_
   rotate_left
   ·intro w'
    go_simp
    with_reducible rfl
   rotate_left
   ·simp only [Act.put, List.setIfInBounds_toArray, List.set_cons_zero, List.set_cons_succ, i64_w, i32_w]
    rfl
   refine pure_ (i := 14) (N := some 59) (v := ?_) (a' := ?_) #[true, true, true, true, true, true, true, true, true, true, true, true, true, true, true, false, false, false, false] rfl rfl (any_of HT_.out (by kernel_rfl)) (fun _ _ _ h => h) (Or.inl ⟨by rfl, ?_⟩) ?_ ?_
   rotate_left
   ·intro w'
    go_simp
    with_reducible rfl
   rotate_left
   ·simp only [Act.put, List.setIfInBounds_toArray, List.set_cons_zero, List.set_cons_succ, i64_w, i32_w]
    rfl
   refine pure_ (i := 15) (N := some 60) (v := ?_) (a' := ?_) #[true, true, true, true, true, true, true, true, true, true, true, true, true, true, true, true, false, false, false] rfl rfl (any_of HT_.out (by kernel_rfl)) (fun _ _ _ h => h) (Or.inl ⟨by rfl, ?_⟩) ?_ ?_
   rotate_left
   ·intro w'
    go_simp
    with_reducible rfl
   rotate_left
   ·simp only [Act.put, List.setIfInBounds_toArray, List.set_cons_zero, List.set_cons_succ, i64_w, i32_w]
    rfl
   refine pure_ (i := 16) (N := some 61) (v := undef) (a' := ?_) #[true, true, true, true, true, true, true, true, true, true, true, true, true, true, true, true, true, false, false] rfl rfl (any_of HT_.out (by kernel_rfl)) (fun _ _ _ h => h) (Or.inr ⟨by rfl, rfl⟩) ?_ ?_
   rotate_left
   ·simp only [Act.put, List.setIfInBounds_toArray, List.set_cons_zero, List.set_cons_succ, i64_w, i32_w]
    rfl
   refine pure_ (i := 17) (N := some 62) (v := ?_) (a' := ?_) #[true, true, true, true, true, true, true, true, true, true, true, true, true, true, true, true, true, true, false] rfl rfl (any_of HT_.out (by kernel_rfl)) (fun _ _ _ h => h) (Or.inl ⟨by rfl, ?_⟩) ?_ ?_
   rotate_left
   ·intro w'
    go_simp
    with_reducible rfl
   rotate_left
   ·simp only [Act.put, List.setIfInBounds_toArray, List.set_cons_zero, List.set_cons_succ, i64_w, i32_w]
    rfl
   refine pure_ (i := 18) (N := some 8) (v := ?_) (a' := ?_) #[true, true, true, true, true, true, true, true, true, true, true, true, true, true, true, true, true, true, true] rfl rfl (any_of HT_.out (by kernel_rfl)) (fun _ _ _ h => h) (Or.inl ⟨by rfl, ?_⟩) ?_ ?_
   rotate_left
   ·intro w'
    go_simp
    with_reducible rfl
   rotate_left
   ·simp only [Act.put, List.setIfInBounds_toArray, List.set_cons_zero, List.set_cons_succ, i64_w, i32_w]
    rfl
   refine done_ (done_of HT_.out (by kernel_rfl)) ?_
   try go_wp2
   go_ret
   exact ⟨by first | rfl | (simp [errW_none, errW_some] <;> rfl) | (simp [*, errW_none, errW_some] <;> rfl), by repeat (first | (with_reducible first | exact HB.out | apply below_alloc | apply pw_below_drewN | apply below_drew1 | refine below_set ?_ GE250.out) | exact HB.out)⟩
 ·rw [if_neg c12] at H
  have c12b0 : (t245 == 0) = false := beq_eq_false_iff_ne.mpr c12
  have c12b1 : (t245 != 0) = true := bne_iff_ne.mpr c12
  obtain rfl := Option.some.inj H
  go_enter Try.func5, Try.ntmps5
  try go_wp2_with (first | ((with_reducible refine gate_callee (f := 10) rfl ?_); refine goesL_ (some 18) rfl rfl Try.func10 (by kernel_rfl) rfl #[.int .i64 a0] rfl (by (try simp only [List.map_toArray, List.map_cons, List.map_nil]); first | done | rfl | (simp only [List.length_drop, List.length_take]; rfl)) ?_; (with_reducible refine (worldmintref27_Lots.calls a0 t231 _ A5.out).mono ?_); rintro e w' ⟨rfl, ⟨nd, rfl⟩⟩; refine ⟨_, rfl, ?_⟩) | ((with_reducible refine gate_callee (f := 11) rfl ?_); refine goesL_ (some 21) rfl rfl Try.func11 (by kernel_rfl) rfl #[.int .i64 t231, .slice A1 l1.length c1, .int .i64 8] rfl (by (try simp only [List.map_toArray, List.map_cons, List.map_nil]); first | done | rfl | (simp only [List.length_drop, List.length_take]; rfl)) ?_; (with_reducible refine (worldmintref27_Bids.calls k t231 _ _ l1 8 t232 _ ?side1 ?side2 A6.out).mono ?_); (case side1 => repeat (first | exact HR1.out | (with_reducible refine Kd.C_alloc ?_ _) | (with_reducible refine Kd.C_drewN ?_ _) | (with_reducible refine Kd.C_drew ?_))); (case side2 => exact HC1.out); rintro e w51 ⟨v233, rfl, ho0, hb⟩; refine ⟨_, rfl, ?_⟩; have n0_ := Aside0.mk (Kd.N_lower (Kd.N_mono (ok' := fun k_ => True) (Kd.S_N (Kd.S_bound ho0)) (fun k_ hk_ => trivial)) (below_size (by repeat (first | (with_reducible first | exact HB.out | apply below_alloc | apply pw_below_drewN | apply below_drew1) | exact HB.out)))); have n1_ := Aside0.mk (below_step (by repeat (first | (with_reducible first | exact HB.out | apply below_alloc | apply pw_below_drewN | apply below_drew1) | exact HB.out)) hb); clear HB; have HO234 := n0_; have HB := n1_; clear n0_ n1_; (try clear hb); (try clear hb2); (try clear hk); (try clear hi); (try clear ho0); obtain ⟨Ao52, co52, eo52⟩ := Kd.N_slice HO234.out; subst eo52) | ((with_reducible refine gate_callee (f := 19) rfl ?_); refine goesL_ (some 23) rfl rfl Try.func19 (by kernel_rfl) rfl #[.slice Ao52 t232.length co52] rfl (by (try simp only [List.map_toArray, List.map_cons, List.map_nil]); first | done | rfl | (simp only [List.length_drop, List.length_take]; rfl)) ?_; (with_reducible refine (worldmintlaw29_given.calls k (fun k_ => True) _ _ t232 t235 _ ?side1 A7.out).mono ?_); (case side1 => exact Kd.N_V (HO234.out)); rintro e w53 ⟨v236, rfl, ho0, hb⟩; refine ⟨_, rfl, ?_⟩; have n0_ := Aside0.mk (Kd.N_elder' (by (with_reducible repeat (first | apply Kd.N_alloc | apply Kd.N_drewN | apply Kd.N_drew)); exact HO234.out) (by first | exact Kd.N_base ho0 | exact Kd.N_base (Kd.S_N ho0)) hb); have n1_ := Aside0.mk (Kd.N_lower (Kd.N_mono (ok' := fun k_ => True) ho0 (fun k_ hk_ => trivial)) (below_size (by repeat (first | (with_reducible first | exact HB.out | apply below_alloc | apply pw_below_drewN | apply below_drew1) | exact HB.out)))); have n2_ := Aside0.mk (below_step (by repeat (first | (with_reducible first | exact HB.out | apply below_alloc | apply pw_below_drewN | apply below_drew1) | exact HB.out)) hb); clear HO234; clear HB; have HO234 := n0_; have HO237 := n1_; have HB := n2_; clear n0_ n1_ n2_; (try clear hb); (try clear hb2); (try clear hk); (try clear hi); (try clear ho0)) | ((with_reducible refine gate_callee (f := 12) rfl ?_); refine goesL_ (some 27) rfl rfl Try.func12 (by kernel_rfl) rfl #[.int .i64 t231, .slice Ao52 t232.length co52, .int .i64 a3] rfl (by (try simp only [List.map_toArray, List.map_cons, List.map_nil]); first | done | rfl | (simp only [List.length_drop, List.length_take]; rfl)) ?_; (with_reducible refine (worldmintref29_Win.calls k t231 _ _ t232 a3 t238 _ ?side1 ?side2 A8.out).mono ?_); (case side1 => repeat (first | exact (Kd.N_reads' HO234.out).2.2 | (with_reducible refine Kd.C_alloc ?_ _) | (with_reducible refine Kd.C_drewN ?_ _) | (with_reducible refine Kd.C_drew ?_))); (case side2 => exact (Kd.N_reads' HO234.out).2.1); rintro e w54 ⟨v239, rfl, ho0, hb⟩; refine ⟨_, rfl, ?_⟩; have n0_ := Aside0.mk (Kd.N_elder' (by (with_reducible repeat (first | apply Kd.N_alloc | apply Kd.N_drewN | apply Kd.N_drew)); exact HO234.out) (Kd.R_base ho0) hb); have n1_ := Aside0.mk (Kd.N_elder' (by (with_reducible repeat (first | apply Kd.N_alloc | apply Kd.N_drewN | apply Kd.N_drew)); exact HO237.out) (Kd.R_base ho0) hb); have n2_ := Aside0.mk (Kd.R_lower ho0 (below_size (by repeat (first | (with_reducible first | exact HB.out | apply below_alloc | apply pw_below_drewN | apply below_drew1) | exact HB.out)))); have n3_ := Aside0.mk (below_step (by repeat (first | (with_reducible first | exact HB.out | apply below_alloc | apply pw_below_drewN | apply below_drew1) | exact HB.out)) hb); clear HO234; clear HO237; clear HB; have HO234 := n0_; have HO237 := n1_; have HO240 := n2_; have HB := n3_; clear n0_ n1_ n2_ n3_; (try clear hb); (try clear hb2); (try clear hk); (try clear hi); (try clear ho0)) | ((with_reducible refine gate_callee (f := 15) rfl ?_); refine goesL_ (some 30) rfl rfl Try.func15 (by kernel_rfl) rfl #[.int .i64 t231, .slice A2 l2.length c2] rfl (by (try simp only [List.map_toArray, List.map_cons, List.map_nil]); first | done | rfl | (simp only [List.length_drop, List.length_take]; rfl)) ?_; (with_reducible refine (worldmintref28_Lots.calls k t231 _ _ l2 t241 _ ?side1 ?side2 A9.out).mono ?_); (case side1 => repeat (first | exact (Kd.C_below HR2.out HB.out) | (with_reducible refine Kd.C_alloc ?_ _) | (with_reducible refine Kd.C_drewN ?_ _) | (with_reducible refine Kd.C_drew ?_))); (case side2 => exact HC2.out); rintro e w55 ⟨v242, rfl, ho0, hb⟩; refine ⟨_, rfl, ?_⟩; have n0_ := Aside0.mk (Kd.N_elder' (by (with_reducible repeat (first | apply Kd.N_alloc | apply Kd.N_drewN | apply Kd.N_drew)); exact HO234.out) (Kd.R_base ho0) hb); have n1_ := Aside0.mk (Kd.N_elder' (by (with_reducible repeat (first | apply Kd.N_alloc | apply Kd.N_drewN | apply Kd.N_drew)); exact HO237.out) (Kd.R_base ho0) hb); have n2_ := Aside0.mk (Kd.R_elder' (by (with_reducible repeat (first | apply Kd.R_alloc | apply Kd.R_drewN | apply Kd.R_drew)); exact HO240.out) (Kd.R_base ho0) hb); have n3_ := Aside0.mk (Kd.R_lower (Kd.R_new' ho0 (Kd.R_lt (by (with_reducible repeat (first | apply Kd.R_alloc | apply Kd.R_drewN | apply Kd.R_drew)); exact HO240.out))) (below_size (by repeat (first | (with_reducible first | exact HB.out | apply below_alloc | apply pw_below_drewN | apply below_drew1) | exact HB.out)))); have n4_ := Aside0.mk (below_step (by repeat (first | (with_reducible first | exact HB.out | apply below_alloc | apply pw_below_drewN | apply below_drew1) | exact HB.out)) hb); clear HO234; clear HO237; clear HO240; clear HB; have HO234 := n0_; have HO237 := n1_; have HO240 := n2_; have HO243 := n3_; have HB := n4_; clear n0_ n1_ n2_ n3_ n4_; (try clear hb); (try clear hb2); (try clear hk); (try clear hi); (try clear ho0); obtain ⟨Ao56, co56, eo56⟩ := Kd.N_slice HO237.out; subst eo56; obtain ⟨Ao57, co57, eo57⟩ := Kd.R_slice HO243.out; subst eo57) | ((with_reducible refine gate_callee (f := 25) rfl ?_); refine goesL_ (some 35) rfl rfl Try.func25 (by kernel_rfl) rfl #[.int .i64 t231, .slice Ao56 t235.length co56, .slice Ao57 t241.length co57] rfl (by (try simp only [List.map_toArray, List.map_cons, List.map_nil]); first | done | rfl | (simp only [List.length_drop, List.length_take]; rfl)) ?_; (with_reducible refine (clear_Bound.calls t231 _ _ t235 _ _ t241 t244 t245 _ ?side1 ?side2 ?side3 ?side4 A10.out).mono ?_); (case side1 => repeat (first | exact (Kd.N_reads' HO237.out).2.2 | (with_reducible refine Kd.C_alloc ?_ _) | (with_reducible refine Kd.C_drewN ?_ _) | (with_reducible refine Kd.C_drew ?_))); (case side2 => exact (Kd.N_reads' HO237.out).2.1); (case side3 => repeat (first | exact (Kd.R_reads' HO243.out).2.2 | (with_reducible refine Kd.C_alloc ?_ _) | (with_reducible refine Kd.C_drewN ?_ _) | (with_reducible refine Kd.C_drew ?_))); (case side4 => exact (Kd.R_reads' HO243.out).2.1); rintro e w58 ⟨rfl, hb⟩; refine ⟨_, rfl, ?_⟩; have n0_ := Aside0.mk (Kd.N_below (by (with_reducible repeat (first | apply Kd.N_alloc | apply Kd.N_drewN | apply Kd.N_drew)); exact HO234.out) hb); have n1_ := Aside0.mk (Kd.N_below (by (with_reducible repeat (first | apply Kd.N_alloc | apply Kd.N_drewN | apply Kd.N_drew)); exact HO237.out) hb); have n2_ := Aside0.mk (Kd.R_below (by (with_reducible repeat (first | apply Kd.R_alloc | apply Kd.R_drewN | apply Kd.R_drew)); exact HO240.out) hb); have n3_ := Aside0.mk (Kd.R_below (by (with_reducible repeat (first | apply Kd.R_alloc | apply Kd.R_drewN | apply Kd.R_drew)); exact HO243.out) hb); have n4_ := Aside0.mk (below_step (by repeat (first | (with_reducible first | exact HB.out | apply below_alloc | apply pw_below_drewN | apply below_drew1) | exact HB.out)) hb); clear HO234; clear HO237; clear HO240; clear HO243; clear HB; have HO234 := n0_; have HO237 := n1_; have HO240 := n2_; have HO243 := n3_; have HB := n4_; clear n0_ n1_ n2_ n3_ n4_; (try clear hb); (try clear hb2); (try clear hk); (try clear hi); obtain ⟨Ao59, co59, eo59⟩ := Kd.R_slice HO240.out; subst eo59) | ((with_reducible refine gate_callee (f := 26) rfl ?_); refine goesL_ (some 40) rfl rfl Try.func26 (by kernel_rfl) rfl #[.slice Ao56 t235.length co56, .slice Ao59 t238.length co59] rfl (by (try simp only [List.map_toArray, List.map_cons, List.map_nil]); first | done | rfl | (simp only [List.length_drop, List.length_take]; rfl)) ?_; (with_reducible refine (bids_Value.calls k _ _ t235 _ _ t238 t246 _ ?side1 ?side2 ?side3 ?side4 A11.out).mono ?_); (case side1 => repeat (first | exact (Kd.N_reads' HO237.out).2.2 | (with_reducible refine Kd.C_alloc ?_ _) | (with_reducible refine Kd.C_drewN ?_ _) | (with_reducible refine Kd.C_drew ?_))); (case side2 => exact (Kd.N_reads' HO237.out).2.1); (case side3 => repeat (first | exact (Kd.R_reads' HO240.out).2.2 | (with_reducible refine Kd.C_alloc ?_ _) | (with_reducible refine Kd.C_drewN ?_ _) | (with_reducible refine Kd.C_drew ?_))); (case side4 => exact (Kd.R_reads' HO240.out).2.1); rintro e w' ⟨rfl, ⟨nd, rfl⟩⟩; refine ⟨_, rfl, ?_⟩; (try (rw [drewN_self w58]; generalize hq_ : World.drewN w58 _ = w58; have n0_ : Aside0 (Kd.N k85 85 w58 w.heap.size (fun k_ => some k_ ≠ (.slice Ao56 t235.length co56 : Value).ownBlock ∧ some k_ ≠ (.slice Ao59 t238.length co59 : Value).ownBlock ∧ some k_ ≠ (.slice Ao57 t241.length co57 : Value).ownBlock) (.slice Ao52 t232.length co52) t232) := ⟨by rw [← hq_]; exact (by (with_reducible repeat (first | apply Kd.N_alloc | apply Kd.N_drewN | apply Kd.N_drew)); exact Kd.N_mono HO234.out (fun k_ hk => by first | exact ⟨hk.1.1.2, ⟨hk.1.2, hk.2⟩⟩ | ((try dsimp only at hk ⊢); (try simp only [ne_eq] at hk ⊢); simp only [hk, not_false_eq_true, and_self])))⟩; have n1_ : Aside0 (Kd.N k82 82 w58 w.heap.size (fun k_ => some k_ ≠ (.slice Ao59 t238.length co59 : Value).ownBlock ∧ some k_ ≠ (.slice Ao57 t241.length co57 : Value).ownBlock) (.slice Ao56 t235.length co56) t235) := ⟨by rw [← hq_]; exact (by (with_reducible repeat (first | apply Kd.N_alloc | apply Kd.N_drewN | apply Kd.N_drew)); exact Kd.N_mono HO237.out (fun k_ hk => by first | exact ⟨hk.1.2, hk.2⟩ | ((try dsimp only at hk ⊢); (try simp only [ne_eq] at hk ⊢); simp only [hk, not_false_eq_true, and_self])))⟩; have n2_ : Aside0 (Kd.R (Kd.int .i64) 3 w58 w.heap.size (fun k_ => some k_ ≠ (.slice Ao57 t241.length co57 : Value).ownBlock) (.slice Ao59 t238.length co59) t238) := ⟨by rw [← hq_]; exact (by (with_reducible repeat (first | apply Kd.R_alloc | apply Kd.R_drewN | apply Kd.R_drew)); exact Kd.R_mono HO240.out (fun k_ hk => by first | exact hk.2 | ((try dsimp only at hk ⊢); (try simp only [ne_eq] at hk ⊢); simp only [hk, not_false_eq_true, and_self])))⟩; have n3_ : Aside0 (Kd.R (Kd.int .i64) 3 w58 w.heap.size (fun k_ => some k_ ≠ (.slice Ao59 t238.length co59 : Value).ownBlock) (.slice Ao57 t241.length co57) t241) := ⟨by rw [← hq_]; exact (by (with_reducible repeat (first | apply Kd.R_alloc | apply Kd.R_drewN | apply Kd.R_drew)); exact Kd.R_mono HO243.out (fun k_ hk => by first | exact hk.2 | ((try dsimp only at hk ⊢); (try simp only [ne_eq] at hk ⊢); simp only [hk, not_false_eq_true, and_self])))⟩; have n4_ : Aside0 (Below w.heap.size w w58) := ⟨by rw [← hq_]; exact (by repeat (first | (with_reducible first | exact HB.out | apply below_alloc | apply pw_below_drewN | apply below_drew1) | exact HB.out))⟩; clear HO234 HO237 HO240 HO243 HB hq_; have HO234 := n0_; have HO237 := n1_; have HO240 := n2_; have HO243 := n3_; have HB := n4_; clear n0_ n1_ n2_ n3_ n4_))) | ((with_reducible refine gate_dst (N := 43) rfl ?_); refine Kd.N_lit k55 _ 55 ?hg (N' := 43) ?hd (xs := ([(⟨(-1), 0, 0, t241⟩ : S55)] : List (S55))) (inner := [.int .i64 (-1), .int .i64 0, .int .i64 0, .slice Ao57 t241.length co57]) (ok := (fun k_ => some k_ ≠ (.slice Ao52 t232.length co52 : Value).ownBlock ∧ some k_ ≠ (.slice Ao56 t235.length co56 : Value).ownBlock ∧ some k_ ≠ (.slice Ao59 t238.length co59 : Value).ownBlock)) (okp := (fun k_ => some k_ ≠ (.slice Ao52 t232.length co52 : Value).ownBlock ∧ some k_ ≠ (.slice Ao56 t235.length co56 : Value).ownBlock ∧ some k_ ≠ (.slice Ao59 t238.length co59 : Value).ownBlock)) ?hr ?hp (fun _ hk => hk) ((show ∀ k_, w58.heap.size ≤ k_ → (fun k_ => some k_ ≠ (.slice Ao52 t232.length co52 : Value).ownBlock ∧ some k_ ≠ (.slice Ao56 t235.length co56 : Value).ownBlock ∧ some k_ ≠ (.slice Ao59 t238.length co59 : Value).ownBlock) k_ from fun k_ hk => ⟨Kd.fresh' (Kd.N_lt (by (with_reducible repeat (first | apply Kd.N_alloc | apply Kd.N_drewN | apply Kd.N_drew)); exact HO234.out)) k_ hk, Kd.fresh' (Kd.N_lt (by (with_reducible repeat (first | apply Kd.N_alloc | apply Kd.N_drewN | apply Kd.N_drew)); exact HO237.out)) k_ hk, Kd.fresh' (Kd.R_lt (by (with_reducible repeat (first | apply Kd.R_alloc | apply Kd.R_drewN | apply Kd.R_drew)); exact HO240.out)) k_ hk⟩) _ (Nat.le_refl _)) (Below.refl _ _) (Nat.le_refl _) (by simp) ?_; (case hd => rfl); (case hg => rfl); (case hr => first | (go_simp; done) | (go_simp; rfl)); (case hp => exact (Reps.c4 (show Kd.FK k55 _ _ (⟨(-1), 0, 0, t241⟩ : S55) [.int .i64 (-1), .int .i64 0, .int .i64 0, .slice Ao57 t241.length co57] from (k55_mkF _ _ (⟨(-1), 0, 0, t241⟩ : S55) (Kd.R_reads' (Kd.R_mono (ok' := (fun k_ => some k_ ≠ (.slice Ao52 t232.length co52 : Value).ownBlock ∧ some k_ ≠ (.slice Ao56 t235.length co56 : Value).ownBlock ∧ some k_ ≠ (.slice Ao59 t238.length co59 : Value).ownBlock)) (Kd.R_apart' (Kd.R_apart' (HO243.out) (Kd.N_typed HO234.out) (by decide)) (Kd.N_typed HO237.out) (by decide)) (fun k_ hk => by first | exact ⟨hk.1.2, ⟨hk.2, hk.1.1.2⟩⟩ | ((try dsimp only at hk ⊢); (try simp only [ne_eq] at hk ⊢); simp only [hk, not_false_eq_true, and_self])))).2.1 (Kd.R_F (Kd.R_mono (ok' := (fun k_ => some k_ ≠ (.slice Ao52 t232.length co52 : Value).ownBlock ∧ some k_ ≠ (.slice Ao56 t235.length co56 : Value).ownBlock ∧ some k_ ≠ (.slice Ao59 t238.length co59 : Value).ownBlock)) (Kd.R_apart' (Kd.R_apart' (HO243.out) (Kd.N_typed HO234.out) (by decide)) (Kd.N_typed HO237.out) (by decide)) (fun k_ hk => by first | exact ⟨hk.1.2, ⟨hk.2, hk.1.1.2⟩⟩ | ((try dsimp only at hk ⊢); (try simp only [ne_eq] at hk ⊢); simp only [hk, not_false_eq_true, and_self])))))) (Reps.none _ _))); intro v248 w60 ho61 hb hg_ hnew_; clear hg_ hnew_; (first | rw [← Ny247.out] at ho61 | (simp only [Int.reduceToNat] at ho61; rw [← Ny247.out] at ho61)); have n0_ := Aside0.mk (Kd.N_elder' (by (with_reducible repeat (first | apply Kd.N_alloc | apply Kd.N_drewN | apply Kd.N_drew)); exact HO234.out) (Kd.N_base ho61) hb); have n1_ := Aside0.mk (Kd.N_elder' (by (with_reducible repeat (first | apply Kd.N_alloc | apply Kd.N_drewN | apply Kd.N_drew)); exact HO237.out) (Kd.N_base ho61) hb); have n2_ := Aside0.mk (Kd.R_below (by (with_reducible repeat (first | apply Kd.R_alloc | apply Kd.R_drewN | apply Kd.R_drew)); exact HO240.out) hb); have n3_ := Aside0.mk (Kd.N_lower ho61 (below_size (by repeat (first | (with_reducible first | exact HB.out | apply below_alloc | apply pw_below_drewN | apply below_drew1) | exact HB.out)))); have n4_ := Aside0.mk (below_step (by repeat (first | (with_reducible first | exact HB.out | apply below_alloc | apply pw_below_drewN | apply below_drew1) | exact HB.out)) hb); clear HO234; clear HO237; clear HO240; clear HB; clear HO243; have HO234 := n0_; have HO237 := n1_; have HO240 := n2_; have HO249 := n3_; have HB := n4_; clear n0_ n1_ n2_ n3_ n4_; clear hb ho61; obtain ⟨Ao62, co62, eo62⟩ := Kd.N_slice HO249.out; subst eo62) | ((with_reducible refine gate_dst (N := 16) rfl ?_); refine box_event ?hg (N := 16) ?hd (cs := #[.int .i64 0, .slice none 0 0]) (t := 44) ?hr ?_; (case hd => rfl); (case hg => rfl); (case hr => first | (go_simp; done) | (go_simp; rfl)); intro gb250 hg w63 hbox hb; have n0_ := Aside0.mk (Kd.N_below (Kd.N_elderB (by (with_reducible repeat (first | apply Kd.N_alloc | apply Kd.N_drewN | apply Kd.N_drew)); exact HO234.out) gb250 (Nat.le_of_eq hg.symm)) hb); have n1_ := Aside0.mk (Kd.N_below (Kd.N_elderB (by (with_reducible repeat (first | apply Kd.N_alloc | apply Kd.N_drewN | apply Kd.N_drew)); exact HO237.out) gb250 (Nat.le_of_eq hg.symm)) hb); have n2_ := Aside0.mk (Kd.R_below (by (with_reducible repeat (first | apply Kd.R_alloc | apply Kd.R_drewN | apply Kd.R_drew)); exact HO240.out) hb); have n3_ := Aside0.mk (Kd.N_below (Kd.N_elderB (by (with_reducible repeat (first | apply Kd.N_alloc | apply Kd.N_drewN | apply Kd.N_drew)); exact HO249.out) gb250 (Nat.le_of_eq hg.symm)) hb); have n4_ := Aside0.mk (below_step (by repeat (first | (with_reducible first | exact HB.out | apply below_alloc | apply pw_below_drewN | apply below_drew1) | exact HB.out)) hb); have n5_ := Aside0.mk (hbox); have n6_ := Aside0.mk ((by rw [hg]; exact (below_size (by repeat (first | (with_reducible first | exact HB.out | apply below_alloc | apply pw_below_drewN | apply below_drew1) | exact HB.out))) : w.heap.size ≤ gb250)); have n7_ := Aside0.mk ((by rw [hg]; exact (below_size (by repeat (first | (with_reducible first | exact HB.out | apply below_alloc | apply pw_below_drewN | apply below_drew1) | exact HB.out))) : w.heap.size ≤ gb250)); clear HO234; clear HO237; clear HO240; clear HO249; clear HB; have HO234 := n0_; have HO237 := n1_; have HO240 := n2_; have HO249 := n3_; have HB := n4_; have BK250 := n5_; have GW250 := n6_; have GE250 := n7_; clear n0_ n1_ n2_ n3_ n4_ n5_ n6_ n7_; clear hb hbox hg; have hcz64_0 : w63.cell? ⟨gb250, 0, none⟩ = some (.int .i64 0) := (blk_cell BK250.out 0).trans rfl; have hcz64_1 : w63.cell? ⟨gb250, 1, none⟩ = some (.slice none 0 0) := (blk_cell BK250.out 1).trans rfl; have hfz64_0 := blk_frozen BK250.out 0; have hfz64_1 := blk_frozen BK250.out 1))
  have n0_ : Aside0 (Kd.N k85 85 ((w63.setCell ⟨gb250, 0, none⟩ (.int .i64 t246)).setCell ⟨gb250, 1, none⟩ (.slice Ao62 y247.length co62)) w.heap.size (fun k_ => some k_ ≠ (.slice Ao56 t235.length co56 : Value).ownBlock ∧ some k_ ≠ (.slice Ao59 t238.length co59 : Value).ownBlock ∧ some k_ ≠ (.slice Ao62 y247.length co62 : Value).ownBlock ∧ k_ ≠ gb250) (.slice Ao52 t232.length co52) t232) := ⟨by (with_reducible repeat (first | apply Kd.N_alloc | apply Kd.N_drewN | apply Kd.N_drew)); exact Kd.N_mono (Kd.N_far (p := ⟨gb250, 1, none⟩) (Kd.N_far (p := ⟨gb250, 0, none⟩) (Kd.N_mono HO234.out (fun k_ hk => (⟨hk, hk.2⟩ : _ ∧ k_ ≠ gb250))) (fun k_ hk => by first | exact hk.2 | ((try dsimp only at hk ⊢); (try simp only [ne_eq] at hk ⊢); simp only [hk, not_false_eq_true, and_self])) (.int .i64 t246)) (fun k_ hk => by first | exact hk.2 | ((try dsimp only at hk ⊢); (try simp only [ne_eq] at hk ⊢); simp only [hk, not_false_eq_true, and_self])) (.slice Ao62 y247.length co62)) (fun k_ hk => by first | exact ⟨hk.1.1.1.1.1.2, ⟨hk.1.1.1.1.2, ⟨hk.1.1.2, hk.1.2⟩⟩⟩ | ((try dsimp only at hk ⊢); (try simp only [ne_eq] at hk ⊢); simp only [hk, not_false_eq_true, and_self]))⟩
  have n1_ : Aside0 (Kd.N k82 82 ((w63.setCell ⟨gb250, 0, none⟩ (.int .i64 t246)).setCell ⟨gb250, 1, none⟩ (.slice Ao62 y247.length co62)) w.heap.size (fun k_ => some k_ ≠ (.slice Ao59 t238.length co59 : Value).ownBlock ∧ some k_ ≠ (.slice Ao62 y247.length co62 : Value).ownBlock ∧ k_ ≠ gb250) (.slice Ao56 t235.length co56) t235) := ⟨by (with_reducible repeat (first | apply Kd.N_alloc | apply Kd.N_drewN | apply Kd.N_drew)); exact Kd.N_mono (Kd.N_far (p := ⟨gb250, 1, none⟩) (Kd.N_far (p := ⟨gb250, 0, none⟩) (Kd.N_mono HO237.out (fun k_ hk => (⟨hk, hk.2⟩ : _ ∧ k_ ≠ gb250))) (fun k_ hk => by first | exact hk.2 | ((try dsimp only at hk ⊢); (try simp only [ne_eq] at hk ⊢); simp only [hk, not_false_eq_true, and_self])) (.int .i64 t246)) (fun k_ hk => by first | exact hk.2 | ((try dsimp only at hk ⊢); (try simp only [ne_eq] at hk ⊢); simp only [hk, not_false_eq_true, and_self])) (.slice Ao62 y247.length co62)) (fun k_ hk => by first | exact ⟨hk.1.1.1.1.2, ⟨hk.1.1.2, hk.1.2⟩⟩ | ((try dsimp only at hk ⊢); (try simp only [ne_eq] at hk ⊢); simp only [hk, not_false_eq_true, and_self]))⟩
  have n2_ : Aside0 (Kd.R (Kd.int .i64) 3 ((w63.setCell ⟨gb250, 0, none⟩ (.int .i64 t246)).setCell ⟨gb250, 1, none⟩ (.slice Ao62 y247.length co62)) w.heap.size (fun _ => True) (.slice Ao59 t238.length co59) t238) := ⟨by (with_reducible repeat (first | apply Kd.R_alloc | apply Kd.R_drewN | apply Kd.R_drew)); exact Kd.R_mono (Kd.R_far (p := ⟨gb250, 1, none⟩) (Kd.R_far (p := ⟨gb250, 0, none⟩) (Kd.R_types HO240.out BK250.out (by decide)) (fun k_ hk => by first | exact hk.2 | ((try dsimp only at hk ⊢); (try simp only [ne_eq] at hk ⊢); simp only [hk, not_false_eq_true, and_self])) (.int .i64 t246)) (fun k_ hk => by first | exact hk.2 | ((try dsimp only at hk ⊢); (try simp only [ne_eq] at hk ⊢); simp only [hk, not_false_eq_true, and_self])) (.slice Ao62 y247.length co62)) (fun _ hk => trivial)⟩
  have n3_ : Aside0 (Kd.N k55 55 ((w63.setCell ⟨gb250, 0, none⟩ (.int .i64 t246)).setCell ⟨gb250, 1, none⟩ (.slice Ao62 y247.length co62)) w.heap.size (fun k_ => some k_ ≠ (.slice Ao52 t232.length co52 : Value).ownBlock ∧ some k_ ≠ (.slice Ao56 t235.length co56 : Value).ownBlock ∧ some k_ ≠ (.slice Ao59 t238.length co59 : Value).ownBlock ∧ k_ ≠ gb250) (.slice Ao62 y247.length co62) y247) := ⟨by (with_reducible repeat (first | apply Kd.N_alloc | apply Kd.N_drewN | apply Kd.N_drew)); exact Kd.N_mono (Kd.N_far (p := ⟨gb250, 1, none⟩) (Kd.N_far (p := ⟨gb250, 0, none⟩) (Kd.N_mono HO249.out (fun k_ hk => (⟨hk, hk.2⟩ : _ ∧ k_ ≠ gb250))) (fun k_ hk => by first | exact hk.2 | ((try dsimp only at hk ⊢); (try simp only [ne_eq] at hk ⊢); simp only [hk, not_false_eq_true, and_self])) (.int .i64 t246)) (fun k_ hk => by first | exact hk.2 | ((try dsimp only at hk ⊢); (try simp only [ne_eq] at hk ⊢); simp only [hk, not_false_eq_true, and_self])) (.slice Ao62 y247.length co62)) (fun k_ hk => by first | exact ⟨hk.1.1.1, ⟨hk.1.1.2.1, ⟨hk.1.1.2.2, hk.1.2⟩⟩⟩ | ((try dsimp only at hk ⊢); (try simp only [ne_eq] at hk ⊢); simp only [hk, not_false_eq_true, and_self]))⟩
  have n4_ : Aside0 (((w63.setCell ⟨gb250, 0, none⟩ (.int .i64 t246)).setCell ⟨gb250, 1, none⟩ (.slice Ao62 y247.length co62)).heap[gb250]? = some (.cells #[.int .i64 t246, .slice Ao62 y247.length co62] 44 (0, 0))) := ⟨by (with_reducible repeat (first | refine blk_drewN ?_ _ | refine blk_drew ?_ | refine blk_alloc ?_ _)); refine blk_put (cs := #[.int .i64 t246, .slice none 0 0]) ?_ 1 _ rfl; (with_reducible repeat (first | refine blk_drewN ?_ _ | refine blk_drew ?_ | refine blk_alloc ?_ _)); refine blk_put (cs := #[.int .i64 0, .slice none 0 0]) ?_ 0 _ rfl; (with_reducible repeat (first | refine blk_drewN ?_ _ | refine blk_drew ?_ | refine blk_alloc ?_ _)); exact BK250.out⟩
  have n5_ : Aside0 (Below w.heap.size w ((w63.setCell ⟨gb250, 0, none⟩ (.int .i64 t246)).setCell ⟨gb250, 1, none⟩ (.slice Ao62 y247.length co62))) := ⟨by repeat (first | (with_reducible first | exact HB.out | apply below_alloc | apply pw_below_drewN | apply below_drew1 | refine below_set ?_ GE250.out) | exact HB.out)⟩
  (try clear HO234)
  (try clear HO237)
  (try clear HO240)
  (try clear HO249)
  (try clear BK250)
  (try clear HB)
  generalize ((w63.setCell ⟨gb250, 0, none⟩ (.int .i64 t246)).setCell ⟨gb250, 1, none⟩ (.slice Ao62 y247.length co62)) = w65 at n0_ n1_ n2_ n3_ n4_ n5_ ⊢
  have HO234 := n0_
  have HO237 := n1_
  have HO240 := n2_
  have HO249 := n3_
  have BK250 := n4_
  have HB := n5_
  clear n0_ n1_ n2_ n3_ n4_ n5_
  have n0_ := Aside0.mk (Kd.N_drew HO234.out)
  have n1_ := Aside0.mk (Kd.N_drew HO237.out)
  have n2_ := Aside0.mk (Kd.R_drew HO240.out)
  have n3_ := Aside0.mk (Kd.N_drew HO249.out)
  have n4_ := Aside0.mk (blk_drew BK250.out)
  have n5_ := Aside0.mk (below_drew1 HB.out)
  clear HO234
  clear HO237
  clear HO240
  clear HO249
  clear BK250
  clear HB
  have HO234 := n0_
  have HO237 := n1_
  have HO240 := n2_
  have HO249 := n3_
  have BK250 := n4_
  have HB := n5_
  clear n0_ n1_ n2_ n3_ n4_ n5_
  refine start_ (n := 19) (S := fun w' => True) (ds := []) #[false, false, false, false, false, false, false, false, false, false, false, false, false, false, false, false, false, false, false] (by kernel_rfl) rfl rfl trivial (fun hHeld => ?_); refine with_tabW worldmintlaw29_ProofLeaf.tab8 worldmintlaw29_ProofLeaf.bits8 (fun HT_ HW_ => ?_)
  generalize w65.drew = w66 at HO234 HO237 HO240 HO249 BK250 HB hHeld ⊢
  refine pure_ (i := 0) (N := some 45) (v := ?_) (a' := ?_) #[true, false, false, false, false, false, false, false, false, false, false, false, false, false, false, false, false, false, false] rfl rfl (any_of HT_.out (by kernel_rfl)) (fun _ _ _ h => h) (Or.inl ⟨by rfl, ?_⟩) ?_ ?_
  rotate_left
  ·intro w'
   go_simp
   with_reducible rfl
  rotate_left
  ·simp only [Act.put, List.setIfInBounds_toArray, List.set_cons_zero, List.set_cons_succ, i64_w, i32_w]
   rfl
  refine pure_ (i := 1) (N := some 46) (v := ?_) (a' := ?_) #[true, true, false, false, false, false, false, false, false, false, false, false, false, false, false, false, false, false, false] rfl rfl (any_of HT_.out (by kernel_rfl)) (fun _ _ _ h => h) (Or.inl ⟨by rfl, ?_⟩) ?_ ?_
  rotate_left
  ·intro w'
   go_simp
   with_reducible rfl
  rotate_left
  ·simp only [Act.put, List.setIfInBounds_toArray, List.set_cons_zero, List.set_cons_succ, i64_w, i32_w]
   rfl
  refine pure_ (i := 2) (N := some 47) (v := ?_) (a' := ?_) #[true, true, true, false, false, false, false, false, false, false, false, false, false, false, false, false, false, false, false] rfl rfl (any_of HT_.out (by kernel_rfl)) (fun _ _ _ h => h) (Or.inl ⟨by rfl, ?_⟩) ?_ ?_
  rotate_left
  ·intro w'
   go_simp
   with_reducible rfl
  rotate_left
  ·simp only [Act.put, List.setIfInBounds_toArray, List.set_cons_zero, List.set_cons_succ, i64_w, i32_w]
   rfl
  refine pure_ (i := 3) (N := some 48) (v := undef) (a' := ?_) #[true, true, true, true, false, false, false, false, false, false, false, false, false, false, false, false, false, false, false] rfl rfl (any_of HT_.out (by kernel_rfl)) (fun _ _ _ h => h) (Or.inr ⟨by rfl, rfl⟩) ?_ ?_
  rotate_left
  ·simp only [Act.put, List.setIfInBounds_toArray, List.set_cons_zero, List.set_cons_succ, i64_w, i32_w]
   rfl
  refine pure_ (i := 4) (N := some 49) (v := undef) (a' := ?_) #[true, true, true, true, true, false, false, false, false, false, false, false, false, false, false, false, false, false, false] rfl rfl (any_of HT_.out (by kernel_rfl)) (fun _ _ _ h => h) (Or.inr ⟨by rfl, rfl⟩) ?_ ?_
  rotate_left
  ·simp only [Act.put, List.setIfInBounds_toArray, List.set_cons_zero, List.set_cons_succ, i64_w, i32_w]
   rfl
  refine pure_ (i := 5) (N := some 50) (v := undef) (a' := ?_) #[true, true, true, true, true, true, false, false, false, false, false, false, false, false, false, false, false, false, false] rfl rfl (any_of HT_.out (by kernel_rfl)) (fun _ _ _ h => h) (Or.inr ⟨by rfl, rfl⟩) ?_ ?_
  rotate_left
  ·simp only [Act.put, List.setIfInBounds_toArray, List.set_cons_zero, List.set_cons_succ, i64_w, i32_w]
   rfl
  refine pure_ (i := 6) (N := some 51) (v := undef) (a' := ?_) #[true, true, true, true, true, true, true, false, false, false, false, false, false, false, false, false, false, false, false] rfl rfl (any_of HT_.out (by kernel_rfl)) (fun _ _ _ h => h) (Or.inr ⟨by rfl, rfl⟩) ?_ ?_
  rotate_left
  ·simp only [Act.put, List.setIfInBounds_toArray, List.set_cons_zero, List.set_cons_succ, i64_w, i32_w]
   rfl
  refine pure_ (i := 7) (N := some 52) (v := undef) (a' := ?_) #[true, true, true, true, true, true, true, true, false, false, false, false, false, false, false, false, false, false, false] rfl rfl (any_of HT_.out (by kernel_rfl)) (fun _ _ _ h => h) (Or.inr ⟨by rfl, rfl⟩) ?_ ?_
  rotate_left
  ·simp only [Act.put, List.setIfInBounds_toArray, List.set_cons_zero, List.set_cons_succ, i64_w, i32_w]
   rfl
  refine pure_ (i := 8) (N := some 53) (v := undef) (a' := ?_) #[true, true, true, true, true, true, true, true, true, false, false, false, false, false, false, false, false, false, false] rfl rfl (any_of HT_.out (by kernel_rfl)) (fun _ _ _ h => h) (Or.inr ⟨by rfl, rfl⟩) ?_ ?_
  rotate_left
  ·simp only [Act.put, List.setIfInBounds_toArray, List.set_cons_zero, List.set_cons_succ, i64_w, i32_w]
   rfl
  refine pure_ (i := 9) (N := some 54) (v := undef) (a' := ?_) #[true, true, true, true, true, true, true, true, true, true, false, false, false, false, false, false, false, false, false] rfl rfl (any_of HT_.out (by kernel_rfl)) (fun _ _ _ h => h) (Or.inr ⟨by rfl, rfl⟩) ?_ ?_
  rotate_left
  ·simp only [Act.put, List.setIfInBounds_toArray, List.set_cons_zero, List.set_cons_succ, i64_w, i32_w]
   rfl
  refine pure_ (i := 10) (N := some 55) (v := undef) (a' := ?_) #[true, true, true, true, true, true, true, true, true, true, true, false, false, false, false, false, false, false, false] rfl rfl (any_of HT_.out (by kernel_rfl)) (fun _ _ _ h => h) (Or.inr ⟨by rfl, rfl⟩) ?_ ?_
  rotate_left
  ·simp only [Act.put, List.setIfInBounds_toArray, List.set_cons_zero, List.set_cons_succ, i64_w, i32_w]
   rfl
  refine pure_ (i := 11) (N := some 56) (v := undef) (a' := ?_) #[true, true, true, true, true, true, true, true, true, true, true, true, false, false, false, false, false, false, false] rfl rfl (any_of HT_.out (by kernel_rfl)) (fun _ _ _ h => h) (Or.inr ⟨by rfl, rfl⟩) ?_ ?_
  rotate_left
  ·simp only [Act.put, List.setIfInBounds_toArray, List.set_cons_zero, List.set_cons_succ, i64_w, i32_w]
   rfl
  refine pure_ (i := 12) (N := some 57) (v := undef) (a' := ?_) #[true, true, true, true, true, true, true, true, true, true, true, true, true, false, false, false, false, false, false] rfl rfl (any_of HT_.out (by kernel_rfl)) (fun _ _ _ h => h) (Or.inr ⟨by rfl, rfl⟩) ?_ ?_
  rotate_left
  ·simp only [Act.put, List.setIfInBounds_toArray, List.set_cons_zero, List.set_cons_succ, i64_w, i32_w]
   rfl
  refine pure_ (i := 13) (N := some 58) (v := undef) (a' := ?_) #[true, true, true, true, true, true, true, true, true, true, true, true, true, true, false, false, false, false, false] rfl rfl (any_of HT_.out (by kernel_rfl)) (fun _ _ _ h => h) (Or.inr ⟨by rfl, rfl⟩) ?_ ?_
  rotate_left
  ·simp only [Act.put, List.setIfInBounds_toArray, List.set_cons_zero, List.set_cons_succ, i64_w, i32_w]
   rfl
  refine pure_ (i := 14) (N := some 59) (v := ?_) (a' := ?_) #[true, true, true, true, true, true, true, true, true, true, true, true, true, true, true, false, false, false, false] rfl rfl (any_of HT_.out (by kernel_rfl)) (fun _ _ _ h => h) (Or.inl ⟨by rfl, ?_⟩) ?_ ?_
  rotate_left
  ·intro w'
   go_simp
   with_reducible rfl
  rotate_left
  ·simp only [Act.put, List.setIfInBounds_toArray, List.set_cons_zero, List.set_cons_succ, i64_w, i32_w]
   rfl
  refine pure_ (i := 15) (N := some 60) (v := ?_) (a' := ?_) #[true, true, true, true, true, true, true, true, true, true, true, true, true, true, true, true, false, false, false] rfl rfl (any_of HT_.out (by kernel_rfl)) (fun _ _ _ h => h) (Or.inl ⟨by rfl, ?_⟩) ?_ ?_
  rotate_left
  ·intro w'
   go_simp
   with_reducible rfl
  rotate_left
  ·simp only [Act.put, List.setIfInBounds_toArray, List.set_cons_zero, List.set_cons_succ, i64_w, i32_w]
   rfl
  refine pure_ (i := 16) (N := some 61) (v := undef) (a' := ?_) #[true, true, true, true, true, true, true, true, true, true, true, true, true, true, true, true, true, false, false] rfl rfl (any_of HT_.out (by kernel_rfl)) (fun _ _ _ h => h) (Or.inr ⟨by rfl, rfl⟩) ?_ ?_
  rotate_left
  ·simp only [Act.put, List.setIfInBounds_toArray, List.set_cons_zero, List.set_cons_succ, i64_w, i32_w]
   rfl
  refine pure_ (i := 17) (N := some 62) (v := ?_) (a' := ?_) #[true, true, true, true, true, true, true, true, true, true, true, true, true, true, true, true, true, true, false] rfl rfl (any_of HT_.out (by kernel_rfl)) (fun _ _ _ h => h) (Or.inl ⟨by rfl, ?_⟩) ?_ ?_
  rotate_left
  ·intro w'
   go_simp
   with_reducible rfl
  rotate_left
  ·simp only [Act.put, List.setIfInBounds_toArray, List.set_cons_zero, List.set_cons_succ, i64_w, i32_w]
   rfl
  refine pure_ (i := 18) (N := some 8) (v := ?_) (a' := ?_) #[true, true, true, true, true, true, true, true, true, true, true, true, true, true, true, true, true, true, true] rfl rfl (any_of HT_.out (by kernel_rfl)) (fun _ _ _ h => h) (Or.inl ⟨by rfl, ?_⟩) ?_ ?_
  rotate_left
  ·intro w'
   go_simp
   with_reducible rfl
  rotate_left
  ·simp only [Act.put, List.setIfInBounds_toArray, List.set_cons_zero, List.set_cons_succ, i64_w, i32_w]
   rfl
  refine done_ (done_of HT_.out (by kernel_rfl)) ?_
  try go_wp2
  go_ret
  exact ⟨by first | rfl | (simp [errW_none, errW_some] <;> rfl) | (simp [*, errW_none, errW_some] <;> rfl), by repeat (first | (with_reducible first | exact HB.out | apply below_alloc | apply pw_below_drewN | apply below_drew1 | refine below_set ?_ GE250.out) | exact HB.out)⟩

/-- THE ONE PURE STATEMENT of worldmintlaw29_ProofLeaf: yours. -/
def worldmintlaw29_ProofLeaf.Pure : Prop := ∀ (a0 : Int) (l1 : List Int) (l2 : List Int) (a3 : Int), (Lit.int .i64 a0).wf = true → l1.length ≤ maxLen → l1.length * 8 ≤ 140737488351232 → (∀ x ∈ l1, (Lit.int .i64 x).wf = true) → l2.length ≤ maxLen → l2.length * 8 ≤ 140737488351232 → (∀ x ∈ l2, (Lit.int .i64 x).wf = true) → (Lit.int .i64 a3).wf = true → ∃ k, worldmintlaw29_ProofLeaf.f k a0 l1 l2 a3 = some true
theorem worldmintlaw29_ProofLeaf.walk (P : worldmintlaw29_ProofLeaf.Pure) (a0 : Int) (a1 : Option Addr) (len1 cap1 : Nat) (z1 : List Int) (a2 : Option Addr) (len2 cap2 : Nat) (z2 : List Int) (a3 : Int) (w : World) (w0 : (Lit.int .i64 a0).wf = true) (w1 : (a1 = none ∧ len1 = 0 ∧ cap1 = 0 ∧ z1 = []) ∨ ∃ x, a1 = some x ∧ len1 ≤ cap1 ∧ cap1 ≤ maxLen ∧ z1.length = cap1 ∧ (∀ i, i < z1.length → w.cell? (x.add i) = some (.int .i64 (z1.getD i 0))) ∧ ∀ n ∈ z1, (Lit.int .i64 n).wf = true) (y1 : len1 * 8 ≤ 140737488351232) (w2 : (a2 = none ∧ len2 = 0 ∧ cap2 = 0 ∧ z2 = []) ∨ ∃ x, a2 = some x ∧ len2 ≤ cap2 ∧ cap2 ≤ maxLen ∧ z2.length = cap2 ∧ (∀ i, i < z2.length → w.cell? (x.add i) = some (.int .i64 (z2.getD i 0))) ∧ ∀ n ∈ z2, (Lit.int .i64 n).wf = true) (y2 : len2 * 8 ≤ 140737488351232) (w3 : (Lit.int .i64 a3).wf = true) :
  Calls Try.prog 5 #[.int .i64 a0, .slice a1 len1 cap1, .slice a2 len2 cap2, .int .i64 a3] w fun e w' => e = .returned (.bool true) ∧ Below w.heap.size w w' := by
 obtain ⟨l1, rfl, hr1, hm1, hw1, hc1⟩ := ReadsInt.ofRowC w1
 obtain ⟨l2, rfl, hr2, hm2, hw2, hc2⟩ := ReadsInt.ofRowC w2
 obtain ⟨k, h⟩ := P a0 l1 l2 a3 w0 hm1 y1 hw1 hm2 y2 hw2 w3
 refine (worldmintlaw29_ProofLeaf.calls k a0 _ _ l1 _ _ l2 a3 true w (Kd.C_of_reads (d := (0 : Int)) (h1 := fun _ => rfl) hr1) hc1 (Kd.C_of_reads (d := (0 : Int)) (h1 := fun _ => rfl) hr2) hc2 h).mono ?_
 rintro e w' ⟨rfl, hd⟩
 exact ⟨rfl, hd⟩

end Go.Proofs.Ytdamibblnjeooaa.H

/- The reference's feasible choices. -/
namespace Go.Proofs.Ytdamibblnjeooaa.H
open Go.RowKit Go.Proofs.YtdamibblnjeooaaW.PrintWords Go.Proofs.YtdamibblnjeooaaW.PrintLast
set_option linter.unusedVariables false
set_option linter.unusedSimpArgs false
/-- Places that rise. -/
def Rising (n : Nat) (c : List Int) : Prop := (∀ k ∈ c, 0 ≤ k ∧ k < n) ∧ c.Pairwise (· < ·)
theorem choice_rising : ∀ (n bits i : Nat), (choiceP n bits i).Pairwise (· < ·)
  | 0, _, _ => by simp [choiceP]
  | n + 1, bits, i => by
    unfold choiceP
    split
    · refine List.pairwise_cons.2 ⟨fun k hk => ?_, choice_rising n (bits / 2) (i + 1)⟩
      have := choice_ge n (bits / 2) (i + 1) k hk
      omega
    · exact choice_rising n (bits / 2) (i + 1)
theorem choice_rise (n bits : Nat) : Rising n (choiceP n bits 0) :=
  ⟨fun k hk => by have := choice_ge n bits 0 k hk; omega, choice_rising n bits 0⟩
theorem choice_len : ∀ (n bits i : Nat), (choiceP n bits i).length ≤ n
  | 0, _, _ => by simp [choiceP]
  | n + 1, bits, i => by
    have := choice_len n (bits / 2) (i + 1)
    unfold choiceP
    split
    · simp; omega
    · omega
set_option maxHeartbeats 1000000 in
theorem rfeas_l2 (l : List S85) (hb : ∀ b ∈ l, b.f2.length ≤ 9223372036854775807) (c : List Int) (hc : ∀ k ∈ c, 0 ≤ k ∧ k < l.length) (hl : c.length ≤ 1000) (q : Nat) (x : Int) (hq : c[q]? = some x) (r : Bool)
    (hr : Ev (fun k => worldmintref27_Feasible.l1 k l c ((q + 1 : Nat) : Int)) r) : ∀ (d : List Int) (p : Nat), (c.take q).drop p = d → p ≤ q →
    Ev (fun k => worldmintref27_Feasible.l2 k l c (q : Int) (p : Int)) (!(d.any fun w => cf (l.map cv) w x) && r) := by
  have hqc : q < c.length := (List.getElem?_eq_some_iff.1 hq).1
  intro d
  induction d with
  | nil =>
    intro p hd hp
    have hpq : p = q := by
      have := congrArg List.length hd
      simp at this
      omega
    have hw : wrap64 ((q : Int) + 1) = ((q + 1 : Nat) : Int) := by rw [w64 _ (by omega) (by omega)]; omega
    refine Ev.succ ?_
    simp only [worldmintref27_Feasible.l2, if_neg (show ¬ (p : Int) < (q : Int) by omega), hw]
    simpa using hr
  | cons y d ih =>
    intro p hd hp
    obtain ⟨hx, hd', hlt⟩ := drop_cons (c.take q) p y d hd
    have hpq : p < q := by simp at hlt; omega
    have hy : c[p]? = some y := by rw [List.getElem?_take_of_lt hpq] at hx; exact hx
    obtain ⟨hy0, hy1⟩ := hc y (List.mem_of_getElem? hy)
    obtain ⟨hx0, hx1⟩ := hc x (List.mem_of_getElem? hq)
    have hw : wrap64 ((p : Int) + 1) = ((p + 1 : Nat) : Int) := by rw [w64 _ (by omega) (by omega)]; omega
    have hmx : rd_T85 l x ∈ l := by
      have : x.toNat < l.length := by omega
      simp [rd_T85, List.getD, this]
    have hmy : rd_T85 l y ∈ l := by
      have : y.toNat < l.length := by omega
      simp [rd_T85, List.getD, this]
    refine Ev.succ ?_
    simp only [worldmintref27_Feasible.l2, if_pos (show (p : Int) < (q : Int) by omega), if_pos (show (0 : Int) ≤ (q : Int) by omega), if_pos (show (q : Int) < (c.length : Int) by omega), rd_at c q x hq, if_pos hx0, if_pos hx1,
      if_pos (show (0 : Int) ≤ (p : Int) by omega), if_pos (show (p : Int) < (c.length : Int) by omega), rd_at c p y hy, if_pos hy0, if_pos hy1, hw]
    refine Ev.bind (rconf_ok _ _ _ _ _ _ (hb _ hmx) (hb _ hmy)) ?_
    have e : conf ⟨(rd_T85 l y).f0, (rd_T85 l y).f1, (rd_T85 l y).f2⟩ ⟨(rd_T85 l x).f0, (rd_T85 l x).f1, (rd_T85 l x).f2⟩ = cf (l.map cv) y x := by
      unfold cf
      rw [← rdR_cv, ← rdR_cv]
      rfl
    rw [e]
    simp only [List.any_cons]
    cases cf (l.map cv) y x
    · have := ih (p + 1) hd' (by omega)
      simpa using this
    · simpa using Ev.some_
theorem rfeas_l1 (l : List S85) (hb : ∀ b ∈ l, b.f2.length ≤ 9223372036854775807) (c : List Int) (hc : ∀ k ∈ c, 0 ≤ k ∧ k < l.length) (hl : c.length ≤ 1000) : ∀ (d : List Int) (q : Nat), c.drop q = d → q ≤ c.length →
    Ev (fun k => worldmintref27_Feasible.l1 k l c (q : Int)) (okS (fun _ => true) (l.map cv) (c.take q) d) := by
  intro d
  induction d with
  | nil =>
    intro q hd hq
    have := drop_nil c q hq hd
    refine Ev.succ ?_
    simp only [worldmintref27_Feasible.l1, if_neg (show ¬ (q : Int) < (c.length : Int) by omega), okS]
    exact Ev.some_
  | cons x d ih =>
    intro q hd hq
    obtain ⟨hx, hd', hlt⟩ := drop_cons c q x d hd
    have h1 := ih (q + 1) hd' (by omega)
    have hg : c[q] = x := by
      have := List.getElem?_eq_getElem hlt
      rw [hx] at this
      injection this with this
      exact this.symm
    rw [List.take_succ_eq_append_getElem hlt, hg] at h1
    have h2 := rfeas_l2 l hb c hc hl q x hx _ h1 (c.take q) 0 rfl (Nat.zero_le _)
    refine Ev.succ ?_
    simp only [worldmintref27_Feasible.l1, if_pos (show (q : Int) < (c.length : Int) by omega), okS, Bool.true_and]
    exact h2
theorem rfeas_ok (l : List S85) (hb : ∀ b ∈ l, b.f2.length ≤ 9223372036854775807) (c : List Int) (hc : Rising l.length c) (hl : c.length ≤ 1000) : Ev (fun k => worldmintref27_Feasible.f k l c) (okS (fun _ => true) (l.map cv) [] c) := by
  have h1 := rfeas_l1 l hb c hc.1 hl c 0 rfl (Nat.zero_le _)
  have : ∀ (d : List Int) (p : Nat), c.drop p = d → p ≤ c.length → Ev (fun k => worldmintref27_Feasible.l0 k l c (p : Int)) (okS (fun _ => true) (l.map cv) [] c) := by
    intro d
    induction d with
    | nil =>
      intro p hd hp
      have := drop_nil c p hp hd
      refine Ev.succ ?_
      simp only [worldmintref27_Feasible.l0, if_neg (show ¬ (p : Int) < (c.length : Int) by omega)]
      exact h1
    | cons x d ih =>
      intro p hd hp
      obtain ⟨hx, hd', hlt⟩ := drop_cons c p x d hd
      obtain ⟨hx0, hx1⟩ := hc.1 x (List.mem_of_getElem? hx)
      have hw : wrap64 ((p : Int) + 1) = ((p + 1 : Nat) : Int) := by rw [w64 _ (by omega) (by omega)]; omega
      have h2 := ih (p + 1) hd' (by omega)
      refine Ev.succ ?_
      simp only [worldmintref27_Feasible.l0, if_pos (show (p : Int) < (c.length : Int) by omega), if_pos (show (0 : Int) ≤ (p : Int) by omega), rd_at c p x hx, if_neg (show ¬ x < 0 by omega), if_neg (show ¬ x ≥ (l.length : Int) by omega), hw]
      cases p with
      | zero =>
        simp only [if_neg (show ¬ ((0 : Nat) : Int) > 0 by omega)]
        exact h2
      | succ q =>
        have hw2 : wrap64 (((q + 1 : Nat) : Int) - 1) = (q : Int) := by rw [w64 _ (by omega) (by omega)]; omega
        have hqx : c[q]? = some c[q] := List.getElem?_eq_getElem (by omega)
        have hlt2 : c[q] < x := by
          have h3 := List.pairwise_iff_getElem.1 hc.2 q (q + 1) (by omega) hlt (by omega)
          have h4 := List.getElem?_eq_getElem hlt
          rw [hx] at h4
          injection h4 with h4
          rw [h4]
          exact h3
        simp only [if_pos (show ((q + 1 : Nat) : Int) > 0 by omega), hw2, if_pos (show (0 : Int) ≤ (q : Int) by omega), if_pos (show (q : Int) < (c.length : Int) by omega), rd_at c q _ hqx, if_neg (show ¬ x ≤ c[q] by omega)]
        exact h2
  exact this c 0 rfl (Nat.zero_le _)
theorem okS_split (U : S82 → Bool) (l : List S82) : ∀ (s win : List Int), okS U l win s = (okS (fun _ => true) l win s && s.all fun k => U (l.getD k.toNat z82))
  | [], _ => rfl
  | k :: s, win => by
    simp only [okS, okS_split U l s, List.all_cons, Bool.true_and]
    cases U (l.getD k.toNat z82) <;> cases (win.any fun w => cf l w k) <;> cases okS (fun _ => true) l (win ++ [k]) s <;> simp
theorem feas_ok (l : List S82) : ∀ (s pre : List Int), (∀ k ∈ s, 0 ≤ k ∧ k < l.length) → s.Pairwise (· < ·) → (∀ p, pre.getLast? = some p → ∀ k ∈ s, p < k) → feasP l pre s = okS (fun _ => true) l pre s
  | [], _, _, _, _ => rfl
  | w :: s, pre, h0, hs, hp => by
    obtain ⟨h1, h2⟩ := List.pairwise_cons.1 hs
    obtain ⟨hw0, hw1⟩ := h0 w (by simp)
    have ih := feas_ok l s (pre ++ [w]) (fun k hk => h0 k (by simp [hk])) h2 (fun p e k hk => by
      rw [List.getLast?_append] at e
      simp at e
      subst e
      exact h1 k hk)
    have key : feasP l pre (w :: s) = (if (pre.any fun v => cf l v w) = true then false else feasP l (pre ++ [w]) s) := by
      simp only [feasP]
      cases hl : pre.getLast? with
      | none => rw [if_neg (by simp; omega)]; rfl
      | some p =>
        have := hp p hl w (by simp)
        rw [if_neg (by simp; omega)]
        rfl
    rw [key, ih]
    simp only [okS, Bool.true_and]
    cases pre.any fun v => cf l v w <;> simp
end Go.Proofs.Ytdamibblnjeooaa.H

/- What the reference of clear computes: by the same plain words. -/
namespace Go.Proofs.Ytdamibblnjeooaa.H
open Go.RowKit Go.Proofs.YtdamibblnjeooaaW.PrintWords Go.Proofs.YtdamibblnjeooaaW.PrintLast
set_option linter.unusedVariables false
set_option linter.unusedSimpArgs false
theorem less_ok (a b : List Int) (ha : a.length ≤ 1000) (hb : b.length ≤ 1000) : Ev (fun k => worldmintref28_Less.f k a b) (lessP a b) := by
  have : ∀ (d e : List Int) (p : Nat), a.drop p = d → b.drop p = e → p ≤ a.length → p ≤ b.length → Ev (fun k => worldmintref28_Less.l0 k a b (p : Int)) (lessP d e) := by
    intro d
    induction d with
    | nil =>
      intro e p hd he hp1 hp2
      have := drop_nil a p hp1 hd
      refine Ev.succ ?_
      simp only [worldmintref28_Less.l0, if_neg (show ¬ (p : Int) < (a.length : Int) by omega)]
      refine Ev.succ ?_
      simp only [worldmintref28_Less.j1, Bool.false_eq_true, if_false]
      cases e with
      | nil =>
        have h2 := drop_nil b p hp2 he
        simp only [decide_eq_false (show ¬ (a.length : Int) < (b.length : Int) by omega), lessP]
        exact Ev.some_
      | cons z e =>
        obtain ⟨_, _, hlt⟩ := drop_cons b p z e he
        simp only [decide_eq_true (show (a.length : Int) < (b.length : Int) by omega), lessP]
        exact Ev.some_
    | cons y d ih =>
      intro e p hd he hp1 hp2
      obtain ⟨hx, hd', hlt⟩ := drop_cons a p y d hd
      refine Ev.succ ?_
      simp only [worldmintref28_Less.l0, if_pos (show (p : Int) < (a.length : Int) by omega)]
      refine Ev.succ ?_
      cases e with
      | nil =>
        have h2 := drop_nil b p hp2 he
        simp only [decide_eq_false (show ¬ (p : Int) < (b.length : Int) by omega), worldmintref28_Less.j1, Bool.false_eq_true, if_false, decide_eq_false (show ¬ (a.length : Int) < (b.length : Int) by omega), lessP]
        exact Ev.some_
      | cons z e =>
        obtain ⟨hx2, he', hlt2⟩ := drop_cons b p z e he
        have hw : wrap64 ((p : Int) + 1) = ((p + 1 : Nat) : Int) := by rw [w64 _ (by omega) (by omega)]; omega
        simp only [decide_eq_true (show (p : Int) < (b.length : Int) by omega), worldmintref28_Less.j1, if_true, if_pos (show (0 : Int) ≤ (p : Int) by omega), if_pos (show (p : Int) < (a.length : Int) by omega), if_pos (show (p : Int) < (b.length : Int) by omega), rd_at a p y hx, rd_at b p z hx2, hw, lessP]
        by_cases c : y = z
        · subst c
          simp only [if_true]
          exact ih e (p + 1) hd' he' (by omega) (by omega)
        · simp only [if_neg c]
          exact Ev.some_
  exact this a b 0 rfl rfl (Nat.zero_le _) (Nat.zero_le _)
end Go.Proofs.Ytdamibblnjeooaa.H

/- The reference's best choice is the search's. -/
namespace Go.Proofs.Ytdamibblnjeooaa.H
open Go.RowKit Go.Proofs.YtdamibblnjeooaaW.PrintWords Go.Proofs.YtdamibblnjeooaaW.PrintLast
set_option linter.unusedVariables false
set_option linter.unusedSimpArgs false
set_option maxHeartbeats 1000000 in
theorem rbest_l1 (l : List S85) (hb : ∀ b ∈ l, b.f2.length ≤ 9223372036854775807) (hl : l.length ≤ 10) (hp : ∀ b ∈ l, 1 ≤ b.f1 ∧ b.f1 ≤ 1099511627776) (x1 : Int) (T : Nat) (hT : 2 ^ l.length = T) (hpow : T ≤ 1024) :
    ∀ (d : Nat) (m : Nat) (win : List Int) (value : Int), T - m = d → m ≤ T → (∃ b0, b0 < T ∧ choiceP l.length b0 0 = win) → okS (fun b => b.f0 != x1) (l.map cv) [] win = true → valP (l.map cv) win = value →
    (∀ b, b < m → okS (fun b => b.f0 != x1) (l.map cv) [] (choiceP l.length b 0) = true → valP (l.map cv) (choiceP l.length b 0) ≤ value ∧ (valP (l.map cv) (choiceP l.length b 0) = value → lessP (choiceP l.length b 0) win = false)) →
    Ev (fun k => worldmintref28_best.l1 k l x1 win value (T : Int) (m : Int)) (searchP (fun b => b.f0 != x1) (l.map cv)) := by
  intro d
  induction d with
  | zero =>
    intro m win value hd hm hw0 hok hv hall
    obtain ⟨b0, h0, hw⟩ := hw0
    have hu := best_unique (U := fun b => b.f0 != x1) (l := l.map cv) (fun b hb' => by obtain ⟨y, hy, rfl⟩ := List.mem_map.1 hb'; exact (hp y hy).1) win value b0 (by rw [List.length_map, hT]; exact h0) (by simpa using hw) hok hv (fun b hbl => by
      rw [List.length_map, hT] at hbl
      have := hall b (by omega)
      simpa using this)
    refine Ev.succ ?_
    simp only [worldmintref28_best.l1, if_neg (show ¬ (m : Int) < (T : Int) by omega)]
    rw [← hu]
    exact Ev.some_
  | succ d ih =>
    intro m win value hd hm hw0 hok hv hall
    have hwm : wrap64 ((m : Int) + 1) = ((m + 1 : Nat) : Int) := by rw [w64 _ (by omega) (by omega)]; omega
    have hch := choice_ok l.length (by omega) l.length 0 m [] (by omega) (by omega) (by simp) (by omega)
    rw [List.nil_append] at hch
    have hrise := choice_rise l.length m
    have hclen := choice_len l.length m 0
    have hsplit := okS_split (fun b => b.f0 != x1) (l.map cv) (choiceP l.length m 0) []
    have hwin : win.length ≤ 1000 := by obtain ⟨b0, _, rfl⟩ := hw0; have := choice_len l.length b0 0; omega
    obtain ⟨c, hc⟩ : ∃ c, c = choiceP l.length m 0 := ⟨_, rfl⟩
    rw [← hc] at hch hrise hclen hsplit
    have hval := rvalue_ok l c hrise.1 (by omega) (fun b hb' => by have := hp b hb'; omega)
    have hfe := rfeas_ok l hb c hrise (by omega)
    -- THE STEP, WHATEVER IS FOUND OF THIS CHOICE
    have hnew : okS (fun b => b.f0 != x1) (l.map cv) [] c = true → (value < valP (l.map cv) c ∨ (valP (l.map cv) c = value ∧ lessP c win = true)) → Ev (fun k => worldmintref28_best.l1 k l x1 c (valP (l.map cv) c) (T : Int) ((m + 1 : Nat) : Int)) (searchP (fun b => b.f0 != x1) (l.map cv)) := fun hokc hbet => by
      refine ih (m + 1) c _ (by omega) (by omega) ⟨m, by omega, hc.symm⟩ hokc rfl (fun b hbm hbo => ?_)
      rcases Nat.lt_or_ge b m with hlt | hge
      · obtain ⟨h1, h2⟩ := hall b hlt hbo
        refine ⟨by omega, fun e => ?_⟩
        rcases hbet with hg | ⟨he, hle⟩
        · omega
        · have h3 := h2 (by omega)
          cases hc2 : lessP (choiceP l.length b 0) c with
          | false => rfl
          | true => rw [less_trans _ _ _ hc2 hle] at h3; cases h3
      · obtain rfl : b = m := by omega
        rw [← hc]
        exact ⟨Int.le_refl _, fun _ => less_irrefl c⟩
    have hold : (okS (fun b => b.f0 != x1) (l.map cv) [] c = true → valP (l.map cv) c ≤ value ∧ (valP (l.map cv) c = value → lessP c win = false)) → Ev (fun k => worldmintref28_best.l1 k l x1 win value (T : Int) ((m + 1 : Nat) : Int)) (searchP (fun b => b.f0 != x1) (l.map cv)) := fun hno => by
      refine ih (m + 1) win value (by omega) (by omega) hw0 hok hv (fun b hbm hbo => ?_)
      rcases Nat.lt_or_ge b m with hlt | hge
      · exact hall b hlt hbo
      · obtain rfl : b = m := by omega
        rw [← hc] at hbo ⊢
        exact hno hbo
    have hl2 : ∀ (e : List Int) (p : Nat) (v : Bool), c.drop p = e → p ≤ c.length → (v && e.all fun k => ((l.map cv).getD k.toNat z82).f0 != x1) = okS (fun b => b.f0 != x1) (l.map cv) [] c →
        Ev (fun k => worldmintref28_best.l2 k l x1 win value (T : Int) (m : Int) c v (p : Int)) (searchP (fun b => b.f0 != x1) (l.map cv)) := by
      intro e
      induction e with
      | nil =>
        intro p v hde hpc hvv
        have hpl := drop_nil c p hpc hde
        simp only [List.all_nil, Bool.and_true] at hvv
        refine Ev.succ ?_
        simp only [worldmintref28_best.l2, if_neg (show ¬ (p : Int) < (c.length : Int) by omega), hwm]
        refine Ev.bind hval ?_
        cases hvb : v
        · simp only [Bool.false_eq_true, if_false]
          exact hold (fun h => by rw [← hvv, hvb] at h; cases h)
        · have hokc : okS (fun b => b.f0 != x1) (l.map cv) [] c = true := by rw [← hvv, hvb]
          simp only [if_true]
          by_cases c1 : valP (l.map cv) c > value
          · simp only [if_pos c1]
            exact hnew hokc (.inl c1)
          · simp only [if_neg c1]
            by_cases c2 : valP (l.map cv) c = value
            · simp only [if_pos c2]
              refine Ev.bind (less_ok c win (by omega) hwin) ?_
              cases hle : lessP c win
              · simp only [Bool.false_eq_true, if_false]
                exact hold (fun _ => ⟨by omega, fun _ => hle⟩)
              · simp only [if_true]
                exact hnew hokc (.inr ⟨c2, hle⟩)
            · simp only [if_neg c2]
              exact hold (fun _ => ⟨by omega, fun h => absurd h c2⟩)
      | cons y e ih2 =>
        intro p v hde hpc hvv
        obtain ⟨hx, hd', hlt⟩ := drop_cons c p y e hde
        obtain ⟨hy0, hy1⟩ := hrise.1 y (List.mem_of_getElem? hx)
        have hwp : wrap64 ((p : Int) + 1) = ((p + 1 : Nat) : Int) := by rw [w64 _ (by omega) (by omega)]; omega
        have he : ∀ k, worldmintref28_best.l2 (k + 1) l x1 win value (T : Int) (m : Int) c v (p : Int) = worldmintref28_best.l2 k l x1 win value (T : Int) (m : Int) c (v && ((l.map cv).getD y.toNat z82).f0 != x1) ((p + 1 : Nat) : Int) := by
          intro k
          rw [worldmintref28_best.l2, if_pos (Int.ofNat_lt.2 hlt), hwp, rd_at c p y hx, if_pos (Int.natCast_nonneg p), if_pos hy0, if_pos hy1, ← rdR_cv]
          cases v
          · rfl
          · rfl
        have hrec := ih2 (p + 1) (v && ((l.map cv).getD y.toNat z82).f0 != x1) hd' hlt (by rw [← hvv, List.all_cons, Bool.and_assoc])
        refine Ev.succ ?_
        simp only [he]
        exact hrec
    refine Ev.succ ?_
    simp only [worldmintref28_best.l1, if_pos (show (m : Int) < (T : Int) by omega)]
    refine Ev.bind (a := c) ?_ ?_
    · rw [hc] at hch ⊢
      exact hch
    · refine Ev.bind hfe ?_
      refine hl2 c 0 _ rfl (Nat.zero_le _) ?_
      rw [hsplit]
theorem rbest_ok (l : List S85) (hb : ∀ b ∈ l, b.f2.length ≤ 9223372036854775807) (hl : l.length ≤ 10) (hp : ∀ b ∈ l, 1 ≤ b.f1 ∧ b.f1 ≤ 1099511627776) (x1 : Int) :
    Ev (fun k => worldmintref28_best.f k l x1) (searchP (fun b => b.f0 != x1) (l.map cv)) := by
  have hpow1 : 2 ^ l.length ≤ 1024 := Nat.le_trans (Nat.pow_le_pow_right (by omega) hl) (by simp)
  have h1 := rbest_l1 l hb hl hp x1 (2 ^ l.length) rfl hpow1 _ 0 [] 0 rfl (Nat.zero_le _) ⟨0, Nat.two_pow_pos _, by
    have : ∀ n i, choiceP n 0 i = [] := by
      intro n
      induction n with
      | zero => intro i; rfl
      | succ n ih => intro i; simp [choiceP, ih]
    exact this _ _⟩ rfl rfl (fun b hb => by omega)
  have : ∀ (d p : Nat), l.length - p = d → p ≤ l.length → Ev (fun k => worldmintref28_best.l0 k l x1 0 ((2 ^ p : Nat) : Int) (p : Int)) (searchP (fun b => b.f0 != x1) (l.map cv)) := by
    intro d
    induction d with
    | zero =>
      intro p hd hpl
      obtain rfl : p = l.length := by omega
      refine Ev.succ ?_
      simp only [worldmintref28_best.l0, if_neg (show ¬ (l.length : Int) < (l.length : Int) by omega)]
      exact h1
    | succ d ih =>
      intro p hd hpl
      have hpow : 2 ^ p ≤ 1024 := Nat.le_trans (Nat.pow_le_pow_right (by omega) (show p ≤ 10 by omega)) (by simp)
      have hw : wrap64 ((p : Int) + 1) = ((p + 1 : Nat) : Int) := by rw [w64 _ (by omega) (by omega)]; omega
      have hw2 : wrap64 (((2 ^ p : Nat) : Int) * 2) = ((2 ^ (p + 1) : Nat) : Int) := by
        rw [Nat.pow_succ]
        generalize 2 ^ p = P at *
        rw [w64 _ (by omega) (by omega)]; omega
      refine Ev.succ ?_
      simp only [worldmintref28_best.l0, if_pos (show (p : Int) < (l.length : Int) by omega), hw, hw2]
      exact ih (p + 1) (by omega) (by omega)
  exact this _ 0 rfl (Nat.zero_le _)
/-- Where every bidder has a number, leaving out nobody's bids leaves out none. -/
theorem search_all (l : List S82) (x1 : Int) (h : ∀ b ∈ l, b.f0 ≠ x1) : searchP (fun b => b.f0 != x1) l = searchP (fun _ => true) l := by
  have hr : ∀ left : List S82, (∀ b ∈ left, b.f0 ≠ x1) → restOf (fun b => b.f0 != x1) left = restOf (fun _ => true) left := by
    intro left
    induction left with
    | nil => intro _; rfl
    | cons b left ih =>
      intro hh
      have := hh b (by simp)
      simp only [restOf, ih (fun x hx => hh x (by simp [hx]))]
      simp [this]
  have : ∀ (left : List S82) (i : Nat) (value : Int) (win : List Int) (st : Int × List Int × Int), (∀ b ∈ left, b.f0 ≠ x1) → tryP (fun b => b.f0 != x1) l left i value win st = tryP (fun _ => true) l left i value win st := by
    intro left
    induction left with
    | nil => intro i value win st _; rfl
    | cons b left ih =>
      intro i value win st hh
      obtain ⟨best, out, val⟩ := st
      have hb : (b.f0 != x1) = true := by simpa using hh b (by simp)
      have hl : ∀ x ∈ left, x.f0 ≠ x1 := fun x hx => hh x (by simp [hx])
      simp only [tryP, hr (b :: left) hh, hb, ih _ _ _ _ hl]
  unfold searchP
  rw [this l 0 0 [] (-1, [], 0) h]
end Go.Proofs.Ytdamibblnjeooaa.H

/- Choices as sets of places: the best one, told without lists. Plain. -/
namespace Go.Proofs.Ytdamibblnjeooaa.H
open Go.RowKit
set_option linter.unusedVariables false
set_option linter.unusedSimpArgs false
/-- The places from i on, n of them, at which p holds. -/
def sel (p : Nat → Bool) : Nat → Nat → List Int
  | 0, _ => []
  | n + 1, i => if p i then (i : Int) :: sel p n (i + 1) else sel p n (i + 1)
def sumF (f : Nat → Int) : Nat → Nat → Int
  | 0, _ => 0
  | n + 1, i => f i + sumF f n (i + 1)
theorem mem_sel (p : Nat → Bool) (x : Int) : ∀ n i, x ∈ sel p n i ↔ ∃ k, i ≤ k ∧ k < i + n ∧ p k = true ∧ x = (k : Int)
  | 0, i => by simp [sel]; intro k h1 h2; omega
  | n + 1, i => by
    have ih := mem_sel p x n (i + 1)
    unfold sel
    by_cases h : p i = true
    · rw [if_pos h, List.mem_cons, ih]
      constructor
      · rintro (rfl | ⟨k, h1, h2, h3, h4⟩)
        · exact ⟨i, by omega, by omega, h, rfl⟩
        · exact ⟨k, by omega, by omega, h3, h4⟩
      · rintro ⟨k, h1, h2, h3, h4⟩
        by_cases e : k = i
        · subst e; exact .inl h4
        · exact .inr ⟨k, by omega, by omega, h3, h4⟩
    · rw [if_neg h, ih]
      constructor
      · rintro ⟨k, h1, h2, h3, h4⟩
        exact ⟨k, by omega, by omega, h3, h4⟩
      · rintro ⟨k, h1, h2, h3, h4⟩
        by_cases e : k = i
        · subst e; exact absurd h3 h
        · exact ⟨k, by omega, by omega, h3, h4⟩
theorem mem_sel0 (p : Nat → Bool) (n : Nat) (x : Int) : x ∈ sel p n 0 ↔ ∃ k, k < n ∧ p k = true ∧ x = (k : Int) := by
  rw [mem_sel]
  constructor
  · rintro ⟨k, h1, h2, h3, h4⟩; exact ⟨k, by omega, h3, h4⟩
  · rintro ⟨k, h2, h3, h4⟩; exact ⟨k, by omega, by omega, h3, h4⟩
theorem rise_sel (p : Nat → Bool) : ∀ n i, (sel p n i).Pairwise (· < ·)
  | 0, _ => List.Pairwise.nil
  | n + 1, i => by
    unfold sel
    split
    · refine List.pairwise_cons.2 ⟨fun x hx => ?_, rise_sel p n (i + 1)⟩
      obtain ⟨k, h1, h2, h3, rfl⟩ := (mem_sel p x n (i + 1)).1 hx
      omega
    · exact rise_sel p n (i + 1)
theorem sel_len (p : Nat → Bool) : ∀ n i, (sel p n i).length ≤ n
  | 0, i => by simp [sel]
  | n + 1, i => by
    have := sel_len p n (i + 1)
    unfold sel
    split
    · simp; omega
    · omega
theorem rise_ext : ∀ (s t : List Int), s.Pairwise (· < ·) → t.Pairwise (· < ·) → (∀ x, x ∈ s ↔ x ∈ t) → s = t
  | [], [], _, _, _ => rfl
  | [], y :: t, _, _, h => by have := (h y).2 (by simp); simp at this
  | x :: s, [], _, _, h => by have := (h x).1 (by simp); simp at this
  | x :: s, y :: t, hs, ht, h => by
    obtain ⟨s1, s2⟩ := List.pairwise_cons.1 hs
    obtain ⟨t1, t2⟩ := List.pairwise_cons.1 ht
    have e : x = y := by
      rcases List.mem_cons.1 ((h x).1 (by simp)) with e | e
      · exact e
      · rcases List.mem_cons.1 ((h y).2 (by simp)) with e2 | e2
        · exact e2.symm
        · have := t1 x e; have := s1 y e2; omega
    subst e
    rw [rise_ext s t s2 t2 (fun z => by
      constructor
      · intro hz
        rcases List.mem_cons.1 ((h z).1 (by simp [hz])) with e | e
        · subst e; exact absurd (s1 z hz) (Int.lt_irrefl _)
        · exact e
      · intro hz
        rcases List.mem_cons.1 ((h z).2 (by simp [hz])) with e | e
        · subst e; exact absurd (t1 z hz) (Int.lt_irrefl _)
        · exact e)]
theorem sel_of (n : Nat) (s : List Int) (h0 : ∀ k ∈ s, 0 ≤ k ∧ k < n) (h1 : s.Pairwise (· < ·)) : s = sel (fun k => decide ((k : Int) ∈ s)) n 0 := by
  refine rise_ext _ _ h1 (rise_sel _ _ _) (fun x => ?_)
  rw [mem_sel0]
  constructor
  · intro hx
    obtain ⟨a, b⟩ := h0 x hx
    obtain ⟨k, rfl⟩ := Int.eq_ofNat_of_zero_le a
    exact ⟨k, by omega, by simpa using hx, rfl⟩
  · rintro ⟨k, h2, h3, rfl⟩; simpa using h3
theorem choice_sel (p : Nat → Bool) : ∀ n i, ∃ bits, bits < 2 ^ n ∧ choiceP n bits i = sel p n i
  | 0, i => ⟨0, by simp, rfl⟩
  | n + 1, i => by
    obtain ⟨b, h1, h2⟩ := choice_sel p n (i + 1)
    by_cases h : p i = true
    · refine ⟨2 * b + 1, by rw [Nat.pow_succ]; omega, ?_⟩
      unfold choiceP sel
      rw [if_pos (by omega), if_pos h, show (2 * b + 1) / 2 = b from by omega, h2]
    · refine ⟨2 * b, by rw [Nat.pow_succ]; omega, ?_⟩
      unfold choiceP sel
      rw [if_neg (by omega), if_neg h, show 2 * b / 2 = b from by omega, h2]
/-- The price of the bid at a place; the value of a set of places. -/
def prc (l : List S82) (k : Nat) : Int := (l.getD k z82).f1
def valB (l : List S82) (p : Nat → Bool) : Int := sumF (fun k => if p k then prc l k else 0) l.length 0
def cj (l : List S82) (a b : Nat) : Bool := conf (l.getD a z82) (l.getD b z82)
theorem conf_comm (a b : S82) : conf a b = conf b a := by
  unfold conf
  have h1 : (a.f0 == b.f0) = (b.f0 == a.f0) := by rw [Bool.eq_iff_iff]; simp; exact ⟨fun h => h.symm, fun h => h.symm⟩
  have h2 : (b.f2.any fun k => a.f2.contains k) = (a.f2.any fun k => b.f2.contains k) := by
    rw [Bool.eq_iff_iff, List.any_eq_true, List.any_eq_true]
    constructor <;> (rintro ⟨x, h1, h2⟩; exact ⟨x, by simpa using h2, by simpa using h1⟩)
  rw [h1, h2]
theorem cj_comm (l : List S82) (a b : Nat) : cj l a b = cj l b a := conf_comm _ _
theorem prc_pos (l : List S82) (hp : ∀ b ∈ l, 1 ≤ b.f1) (k : Nat) (hk : k < l.length) : 1 ≤ prc l k := by
  unfold prc
  exact hp _ (by simp [List.getD, hk])
theorem val_sel (l : List S82) (p : Nat → Bool) : ∀ n i, valP l (sel p n i) = sumF (fun k => if p k then prc l k else 0) n i
  | 0, _ => rfl
  | n + 1, i => by
    have ih := val_sel l p n (i + 1)
    unfold sel sumF
    by_cases h : p i = true
    · rw [if_pos h, if_pos h, ← ih]; rfl
    · rw [if_neg h, if_neg h, ← ih]; omega
theorem valB_sel (l : List S82) (p : Nat → Bool) : valP l (sel p l.length 0) = valB l p := val_sel l p _ _
/-- A set of places that may win together. -/
def FeasU (U : S82 → Bool) (l : List S82) (p : Nat → Bool) : Prop :=
  (∀ a, a < l.length → p a = true → U (l.getD a z82) = true) ∧ ∀ a b, a < l.length → b < l.length → a ≠ b → p a = true → p b = true → cj l a b = false
/-- q has the first place at which they differ. -/
def dlt (n : Nat) (q p : Nat → Bool) : Prop := ∃ d, d < n ∧ q d = true ∧ p d = false ∧ ∀ x, x < d → q x = p x
structure IsBest (U : S82 → Bool) (l : List S82) (p : Nat → Bool) : Prop where
  feas : FeasU U l p
  max : ∀ q, FeasU U l q → valB l q ≤ valB l p
  first : ∀ q, FeasU U l q → valB l q = valB l p → ¬ dlt l.length q p
theorem ok_of_pairs (U : S82 → Bool) (l : List S82) : ∀ (s win : List Int), okS U l win s = true ↔ ((∀ k ∈ s, U (l.getD k.toNat z82) = true) ∧ (∀ w ∈ win, ∀ k ∈ s, cf l w k = false) ∧ s.Pairwise (fun a b => cf l a b = false))
  | [], win => by simp [okS]
  | k :: s, win => by
    have ih := ok_of_pairs U l s (win ++ [k])
    simp only [okS, Bool.and_eq_true, ih, Bool.not_eq_true']
    constructor
    · rintro ⟨⟨h1, h2⟩, h3, h4, h5⟩
      have h2' : ∀ w ∈ win, cf l w k = false := fun w hw => by simpa using List.any_eq_false.1 h2 w hw
      refine ⟨fun x hx => ?_, fun w hw x hx => ?_, List.pairwise_cons.2 ⟨fun x hx => h4 k (by simp) x hx, h5⟩⟩
      · rcases List.mem_cons.1 hx with rfl | hx
        · exact h1
        · exact h3 x hx
      · rcases List.mem_cons.1 hx with rfl | hx
        · exact h2' w hw
        · exact h4 w (by simp [hw]) x hx
    · rintro ⟨h1, h2, h3⟩
      obtain ⟨h4, h5⟩ := List.pairwise_cons.1 h3
      refine ⟨⟨h1 k (by simp), List.any_eq_false.2 (fun w hw => by simpa using h2 w hw k (by simp))⟩, fun x hx => h1 x (by simp [hx]), fun w hw x hx => ?_, h5⟩
      rcases List.mem_append.1 hw with hw | hw
      · exact h2 w hw x (by simp [hx])
      · rw [List.mem_singleton] at hw; subst hw; exact h4 x hx
theorem ok_sel (U : S82 → Bool) (l : List S82) (p : Nat → Bool) : okS U l [] (sel p l.length 0) = true ↔ FeasU U l p := by
  rw [ok_of_pairs]
  constructor
  · rintro ⟨h1, _, h3⟩
    refine ⟨fun a ha hp => ?_, ?_⟩
    · have := h1 (a : Int) ((mem_sel0 p _ _).2 ⟨a, ha, hp, rfl⟩)
      simpa using this
    · have key : ∀ a b, a < l.length → b < l.length → a < b → p a = true → p b = true → cj l a b = false := by
        intro a b ha hb hab hpa hpb
        have hm : (a : Int) ∈ sel p l.length 0 := (mem_sel0 p _ _).2 ⟨a, ha, hpa, rfl⟩
        have hn : (b : Int) ∈ sel p l.length 0 := (mem_sel0 p _ _).2 ⟨b, hb, hpb, rfl⟩
        have hr := rise_sel p l.length 0
        generalize sel p l.length 0 = s at *
        induction s with
        | nil => simp at hm
        | cons x s ih =>
          obtain ⟨r1, r2⟩ := List.pairwise_cons.1 hr
          obtain ⟨c1, c2⟩ := List.pairwise_cons.1 h3
          rcases List.mem_cons.1 hm with e1 | e1
          · rcases List.mem_cons.1 hn with e2 | e2
            · omega
            · subst e1; exact c1 _ e2
          · rcases List.mem_cons.1 hn with e2 | e2
            · have := r1 _ e1; omega
            · exact ih (fun k hk => h1 k (by simp [hk])) (by simp) c2 e1 e2 r2
      intro a b ha hb hab hpa hpb
      rcases Nat.lt_or_gt_of_ne hab with h | h
      · exact key a b ha hb h hpa hpb
      · rw [cj_comm]; exact key b a hb ha h hpb hpa
  · rintro ⟨h1, h2⟩
    refine ⟨fun k hk => ?_, by simp, ?_⟩
    · obtain ⟨a, ha, hp, rfl⟩ := (mem_sel0 p _ _).1 hk
      exact h1 a ha hp
    · refine (rise_sel p l.length 0).imp_of_mem (fun {a b} ha hb hab => ?_)
      obtain ⟨x, hx, hpx, rfl⟩ := (mem_sel0 p _ _).1 ha
      obtain ⟨y, hy, hpy, rfl⟩ := (mem_sel0 p _ _).1 hb
      exact h2 x y hx hy (by omega) hpx hpy
theorem dlt_less (q p : Nat → Bool) : ∀ n i, (∃ d, i ≤ d ∧ d < i + n ∧ q d = true ∧ p d = false ∧ ∀ x, i ≤ x → x < d → q x = p x) → lessP (sel q n i) (sel p n i) = true ∨ ∃ t, t ≠ [] ∧ sel q n i = sel p n i ++ t
  | 0, i, ⟨d, h1, h2, _⟩ => by omega
  | n + 1, i, ⟨d, h1, h2, h3, h4, h5⟩ => by
    by_cases e : d = i
    · subst e
      unfold sel
      rw [if_pos h3, if_neg (by simp [h4])]
      cases hs : sel p n (d + 1) with
      | nil => exact .inr ⟨_, by simp, rfl⟩
      | cons y t =>
        have : (d : Int) < y := by
          obtain ⟨k, a, b, c, e⟩ := (mem_sel p y n (d + 1)).1 (by rw [hs]; simp)
          omega
        refine .inl ?_
        simp only [lessP]
        rw [if_neg (by omega)]
        simpa using this
    · have ih := dlt_less q p n (i + 1) ⟨d, by omega, by omega, h3, h4, fun x a b => h5 x (by omega) b⟩
      have hi := h5 i (by omega) (by omega)
      unfold sel
      by_cases hp : p i = true
      · rw [if_pos (by rw [hi]; exact hp), if_pos hp]
        rcases ih with ih | ⟨t, a, b⟩
        · exact .inl (by simp only [lessP, if_true]; exact ih)
        · exact .inr ⟨t, a, by rw [b]; rfl⟩
      · rw [if_neg (by rw [hi]; exact hp), if_neg hp]
        exact ih
theorem valP_append (l : List S82) (a b : List Int) : valP l (a ++ b) = valP l a + valP l b := by
  unfold valP
  rw [List.map_append, List.sum_append]
theorem valP_pos (l : List S82) (hp : ∀ b ∈ l, 1 ≤ b.f1) (t : List Int) (ht : t ≠ []) (h : ∀ k ∈ t, 0 ≤ k ∧ k < l.length) : 1 ≤ valP l t := by
  have h1 : ∀ s : List Int, (∀ k ∈ s, 0 ≤ k ∧ k < l.length) → 0 ≤ valP l s := by
    intro s
    induction s with
    | nil => intro _; exact Int.le_refl _
    | cons k s ih =>
      intro h
      have h2 := ih (fun x hx => h x (by simp [hx]))
      have h3 := h k (by simp)
      have h4 : 1 ≤ (l.getD k.toNat z82).f1 := prc_pos l hp k.toNat (by omega)
      simp only [valP, List.map_cons, List.sum_cons] at h2 ⊢
      omega
  cases t with
  | nil => exact absurd rfl ht
  | cons k s =>
    have h2 := h1 s (fun x hx => h x (by simp [hx]))
    have h3 := h k (by simp)
    have h4 : 1 ≤ (l.getD k.toNat z82).f1 := prc_pos l hp k.toNat (by omega)
    simp only [valP, List.map_cons, List.sum_cons] at h2 ⊢
    omega
/-- Of two of one value the one that has the first difference is the less. -/
theorem dlt_same (l : List S82) (hp : ∀ b ∈ l, 1 ≤ b.f1) (q p : Nat → Bool) (h : dlt l.length q p) (hv : valB l q ≤ valB l p) : lessP (sel q l.length 0) (sel p l.length 0) = true := by
  obtain ⟨d, h1, h2, h3, h4⟩ := h
  rcases dlt_less q p l.length 0 ⟨d, by omega, by omega, h2, h3, fun x _ hx => h4 x hx⟩ with h5 | ⟨t, h5, h6⟩
  · exact h5
  · exfalso
    have h7 := valP_pos l hp t h5 (fun k hk => by
      obtain ⟨a, ha, _, rfl⟩ := (mem_sel0 q l.length k).1 (by rw [h6]; simp [hk])
      omega)
    rw [← valB_sel, ← valB_sel, h6, valP_append] at hv
    omega
theorem search_best (U : S82 → Bool) (l : List S82) (hp : ∀ b ∈ l, 1 ≤ b.f1) : ∃ p, IsBest U l p ∧ searchP U l = (sel p l.length 0, valB l p) := by
  obtain ⟨e1, e2, be, e3, e4⟩ := ext_valid (U := U) l 0 [] (l := l) rfl
  have hb := ext_best (U := U) (l := l) l 0 [] rfl hp
  rw [← search_ext hp] at e1 e2 e4 hb
  have hr := choice_ge l.length be 0
  have hs : (searchP U l).1 = sel (fun k => decide ((k : Int) ∈ (searchP U l).1)) l.length 0 := sel_of l.length _ (fun k hk => by
    rw [← e4] at hk
    have := hr k hk
    omega) (by
    rw [← e4]
    have : ∀ (n bits i : Nat), (choiceP n bits i).Pairwise (· < ·) := by
      intro n
      induction n with
      | zero => intro _ _; exact List.Pairwise.nil
      | succ n ih =>
        intro bits i
        unfold choiceP
        split
        · refine List.pairwise_cons.2 ⟨fun x hx => ?_, ih _ _⟩
          have := choice_ge n (bits / 2) (i + 1) x hx
          omega
        · exact ih _ _
    exact this _ _ _)
  generalize hpp : (fun k : Nat => decide ((k : Int) ∈ (searchP U l).1)) = p at hs
  have hv : (searchP U l).2 = valB l p := by rw [← e2, hs, valB_sel]
  refine ⟨p, ⟨?_, ?_, ?_⟩, by rw [← hs, ← hv]⟩
  · rw [← ok_sel, ← hs]; exact e1
  · intro q hq
    obtain ⟨bits, b1, b2⟩ := choice_sel q l.length 0
    have := (hb bits (by rw [b2]; exact (ok_sel U l q).2 hq)).1
    rw [b2, valB_sel] at this
    omega
  · intro q hq hvq hd
    obtain ⟨bits, b1, b2⟩ := choice_sel q l.length 0
    have h1 := (hb bits (by rw [b2]; exact (ok_sel U l q).2 hq)).2 (by rw [b2, valB_sel]; omega)
    have h2 := dlt_same l hp q p hd (by omega)
    rw [b2, hs] at h1
    rcases h1 with h1 | h1
    · rw [h1, less_irrefl] at h2; cases h2
    · have := less_trans _ _ _ h1 h2
      rw [less_irrefl] at this
      cases this
end Go.Proofs.Ytdamibblnjeooaa.H

/- Bids that are fine. Plain. -/
namespace Go.Proofs.Ytdamibblnjeooaa.H
open Go.RowKit
set_option linter.unusedVariables false
set_option linter.unusedSimpArgs false
/-- A good bid, its price raised. -/
def Fine (n : Int) (b : S82) : Prop := 1 ≤ b.f0 ∧ b.f0 ≤ 1073741824 ∧ 1 ≤ b.f1 ∧ b.f1 ≤ 1000 ∧ b.f2.length ≠ 0 ∧ lotsOk n (-1) b.f2 = true
theorem fine_err (n : Int) : ∀ l : List S82, (∀ b ∈ l, Fine n b) → bidsErr n l = 0
  | [], _ => rfl
  | b :: l, h => by
    obtain ⟨h1, h2, h3, h4, h5, h6⟩ := h b (by simp)
    unfold bidsErr
    rw [if_neg (by simp; omega), if_neg (by simp; omega), if_neg (by simpa using h5), h6]
    simpa using fine_err n l (fun x hx => h x (by simp [hx]))
theorem fine_valid (n : Int) (l : List S82) (h1 : 1 ≤ n) (h8 : n ≤ 8) (hl : l.length ≤ 10) (h : ∀ b ∈ l, Fine n b) : validP n l = 0 := by
  unfold validP
  rw [if_neg (by simp; omega), if_neg (by omega)]
  exact fine_err n l h
end Go.Proofs.Ytdamibblnjeooaa.H

/- Win: a feasible choice. A leaf at the root. Plain. -/
namespace Go.Proofs.Ytdamibblnjeooaa.H
open Go.RowKit Go.Proofs.YtdamibblnjeooaaW.PrintWords Go.Proofs.YtdamibblnjeooaaW.PrintLast
set_option linter.unusedVariables false
set_option linter.unusedSimpArgs false
theorem wf_any (x : Int) : (Lit.int .i64 (wrap64 x)).wf = true := by
  have h : -9223372036854775808 ≤ wrap64 x ∧ wrap64 x ≤ 9223372036854775807 := by unfold wrap64; omega
  simpa [Lit.wf, IntKind.min, IntKind.max, IntKind.signed, IntKind.bits] using h
theorem okS_take (l : List S82) : ∀ (s win : List Int) (m : Nat), okS (fun _ => true) l win s = true → okS (fun _ => true) l win (s.take m) = true
  | [], _, _, h => by simpa using h
  | k :: s, win, 0, _ => by simp [okS]
  | k :: s, win, m + 1, h => by
    simp only [okS, Bool.and_eq_true, List.take_succ_cons] at h ⊢
    exact ⟨h.1, okS_take l s _ m h.2⟩
theorem feas_sel (l : List S82) (s : List Int) (h0 : ∀ k ∈ s, 0 ≤ k ∧ k < l.length) (h1 : s.Pairwise (· < ·)) (h : okS (fun _ => true) l [] s = true) : feasP l [] s = true := by
  rw [feas_ok l s [] h0 h1 (by simp)]; exact h
theorem win_ok (t : Int) (L : List S85) (hL : L.length ≤ 10) (hb : ∀ b ∈ L, b.f2.length ≤ 9223372036854775807) (hp : ∀ b ∈ L, 1 ≤ b.f1 ∧ b.f1 ≤ 1099511627776) (h0 : ∀ b ∈ L, b.f0 ≠ 0) (hv : validP t (L.map cv) = 0) (a : Int) (wa : (Lit.int .i64 a).wf = true) :
    ∃ win, Ev (fun k => worldmintref29_Win.f k t L a) win ∧ feasP (L.map cv) [] win = true := by
  have hpc : ∀ b ∈ L.map cv, 1 ≤ b.f1 := fun b hb => by
    obtain ⟨y, hy, rfl⟩ := List.mem_map.1 hb
    exact (hp y hy).1
  have hlm : (L.map cv).length = L.length := List.length_map ..
  have hbest := rbest_ok L hb hL hp 0
  rw [search_all (L.map cv) 0 (fun b hb => by
    obtain ⟨y, hy, rfl⟩ := List.mem_map.1 hb
    exact h0 y hy)] at hbest
  obtain ⟨p, hib, hse⟩ := search_best (fun _ => true) (L.map cv) hpc
  rw [hse] at hbest
  have hBest : Ev (fun k => worldmintref28_Best.f k t L) (sel p (L.map cv).length 0, valB (L.map cv) p, 0) := by
    unfold worldmintref28_Best.f
    refine Ev.bind (rvalid_ok t L hb) ?_
    rw [hv]
    simp only [if_true]
    exact Ev.bind hbest Ev.some_
  have hok := (ok_sel (fun _ => true) (L.map cv) p).2 hib.feas
  have hsr : ∀ k ∈ sel p (L.map cv).length 0, 0 ≤ k ∧ k < (L.map cv).length := fun k hk => by
    obtain ⟨q, hq, _, rfl⟩ := (mem_sel0 _ _ _).1 hk
    omega
  have hsp := rise_sel p (L.map cv).length 0
  have hsl := sel_len p (L.map cv).length 0
  obtain ⟨r4, hr4, _, _⟩ := around_ok a 4 wa (by omega)
  obtain ⟨c, hc, hc0, hc1⟩ := around_ok (wrap64 (Int.tdiv a 4)) 1024 (wf_any _) (by omega)
  generalize sel p (L.map cv).length 0 = s at *
  unfold worldmintref29_Win.f
  by_cases h4 : r4 > 0
  · refine ⟨s, Ev.bind hBest ?_, feas_sel _ s hsr hsp hok⟩
    simp only [hr4, Option.bind_some, if_pos h4]
    exact Ev.some_
  · have hch := choice_ok L.length (by omega) L.length 0 c.toNat [] (Nat.sub_zero _) (Nat.zero_le _) (Nat.le_refl _) (by omega)
    rw [List.nil_append, show ((c.toNat : Nat) : Int) = c by omega] at hch
    have hcr := choice_rise L.length c.toNat
    have hcl := choice_len L.length c.toNat 0
    have hfe := rfeas_ok L hb (choiceP L.length c.toNat 0) hcr (by omega)
    cases hq : okS (fun _ => true) (L.map cv) [] (choiceP L.length c.toNat 0)
    · rw [hq] at hfe
      have hw : wrap64 ((s.length : Int) / 2) = ((s.length / 2 : Nat) : Int) := by rw [w64 _ (by omega) (by omega)]; omega
      refine ⟨s.take (s.length / 2), Ev.bind hBest ?_, feas_sel _ _ (fun k hk => hsr k (List.mem_of_mem_take hk)) (hsp.sublist (List.take_sublist ..)) (okS_take _ _ _ _ hok)⟩
      simp only [hr4, hc, Option.bind_some, if_neg h4]
      refine Ev.bind (a := choiceP L.length c.toNat 0) hch ?_
      refine Ev.bind hfe ?_
      simp only [Bool.false_eq_true, if_false, hw, if_pos (show (0 : Int) ≤ ((s.length / 2 : Nat) : Int) by omega), if_pos (show ((s.length / 2 : Nat) : Int) ≤ (s.length : Int) by omega), Int.toNat_natCast]
      exact Ev.some_
    · rw [hq] at hfe
      refine ⟨choiceP L.length c.toNat 0, Ev.bind hBest ?_, feas_sel _ _ (by rw [hlm]; exact hcr.1) hcr.2 hq⟩
      simp only [hr4, hc, Option.bind_some, if_neg h4]
      refine Ev.bind (a := choiceP L.length c.toNat 0) hch ?_
      refine Ev.bind hfe ?_
      simp only [if_true]
      exact Ev.some_
/-! ### Nothing decided -/
theorem zeros_getD (n i : Nat) : (List.replicate n (0 : Int)).getD i 0 = 0 := by
  by_cases h : i < n
  · simp [List.getD, h]
  · simp [List.getD, List.getElem?_eq_none (show (List.replicate n (0 : Int)).length ≤ i by simp; omega)]
theorem poss_zeros (l : List S82) (n i : Nat) : possP l (List.replicate n 0) i = true := by
  unfold possP
  rw [zeros_getD]
  have : (List.range (List.replicate n (0 : Int)).length).any (oddsP l (List.replicate n 0) i) = false := by
    rw [List.any_eq_false]
    intro k _
    unfold oddsP
    rw [zeros_getD]
    simp
  rw [this]; rfl
theorem inS_zeros (l : List S82) (n : Nat) : ∀ m, inS l (List.replicate n 0) m = 0
  | 0 => rfl
  | m + 1 => by rw [inS_succ, inS_zeros l n m, zeros_getD]; simp
theorem tkS_zeros (l : List S82) (n : Nat) : ∀ m, tkS l (List.replicate n 0) m = []
  | 0 => rfl
  | m + 1 => by rw [tkS_succ, tkS_zeros l n m, zeros_getD]; simp
theorem frS_nil (ps : List Int) : ∀ m, m ≤ ps.length → frS [] ps m = (ps.take m).sum
  | 0, _ => rfl
  | m + 1, h => by rw [frS_succ, frS_nil ps m (by omega), sum_take_succ ps m (by omega)]; simp [rd]
theorem spS_zeros (l : List S82) (ps : List Int) (n : Nat) : ∀ m, m ≤ l.length → spS l (List.replicate n 0) ps m = surpsP (l.take m) ps
  | 0, _ => rfl
  | m + 1, h => by
    rw [spS_succ, poss_zeros, if_pos rfl, spS_zeros l ps n m (by omega), List.take_succ_eq_append_getElem (show m < l.length by omega)]
    unfold surpsP
    rw [List.foldl_append]
    simp [List.getD, show m < l.length by omega]
theorem bound_zeros (l : List S82) (ps : List Int) (n : Nat) : boundD l (List.replicate n 0) ps = boundP l ps := by
  unfold boundD boundP
  rw [inS_zeros, tkS_zeros, frS_nil ps ps.length (Nat.le_refl _), List.take_length, spS_zeros l ps n l.length (Nat.le_refl _), List.take_length]
  omega
/-- A certificate that is one leaf. -/
theorem check_leaf (n : Int) (l : List S82) (win : List Int) (v : Int) (ps : List Int) (hv : validP n l = 0) (hf : feasP l [] win = true) (he : v = valP l win) (hp : (ps.length : Int) = n) (hb : ∀ p ∈ ps, 0 ≤ p ∧ p ≤ 1099511627776) :
    checkP n l win v [⟨-1, 0, 0, ps⟩] = if boundP l ps ≤ v then 0 else 20 := by
  have hany : ps.any badPrice = false := by
    rw [List.any_eq_false]
    intro p hpm
    have := hb p hpm
    simp only [badPrice, Bool.or_eq_true, decide_eq_true_eq, not_or]
    omega
  have hroot : rootP n l v [⟨-1, 0, 0, ps⟩] = (decide (boundP l ps ≤ v), [true]) := by
    unfold rootP
    simp [nodeP, leafP, hp, hany, bound_zeros]
  unfold checkP
  rw [if_neg (by rw [hv]; simp), if_neg (by rw [hf]; simp), if_neg (by simp), if_neg (by simp [he]), hroot]
  by_cases h : boundP l ps ≤ v
  · rw [if_pos h, if_pos ⟨decide_eq_true h, rfl⟩]
  · rw [if_neg h, if_neg (fun hh => h (of_decide_eq_true hh.1))]
end Go.Proofs.Ytdamibblnjeooaa.H

/- The drawn prices. Plain. -/
namespace Go.Proofs.Ytdamibblnjeooaa.H
open Go.RowKit Go.Proofs.YtdamibblnjeooaaW.PrintWords Go.Proofs.YtdamibblnjeooaaW.PrintLast
set_option linter.unusedVariables false
set_option linter.unusedSimpArgs false
theorem rlots_ok (n : Int) (m : List Int) (hm : ∀ x ∈ m, (Lit.int .i64 x).wf = true) (hn0 : 0 ≤ n) (hn8 : n ≤ 8) : ∃ ps, Ev (fun k => worldmintref28_Lots.f k n m) ps ∧ (ps.length : Int) = n ∧ ∀ p ∈ ps, 0 ≤ p ∧ p < 12 := by
  have : ∀ (d : Nat) (acc : List Int), (n - acc.length).toNat = d → (acc.length : Int) ≤ n → (∀ p ∈ acc, 0 ≤ p ∧ p < 12) → ∃ ps, Ev (fun k => worldmintref28_Lots.l0 k n m acc (acc.length : Int)) ps ∧ (ps.length : Int) = n ∧ ∀ p ∈ ps, 0 ≤ p ∧ p < 12 := by
    intro d
    induction d with
    | zero =>
      intro acc hd hl ha
      refine ⟨acc, Ev.succ ?_, by omega, ha⟩
      simp only [worldmintref28_Lots.l0, if_neg (show ¬ (acc.length : Int) < n by omega)]
      exact Ev.some_
    | succ d ih =>
      intro acc hd hl ha
      obtain ⟨r, hr, hr0, hr1⟩ := pick_ok m (acc.length : Int) 12 hm (by omega)
      have hw : wrap64 ((acc.length : Int) + 1) = ((acc ++ [r]).length : Int) := by rw [w64 _ (by omega) (by omega)]; simp
      obtain ⟨ps, h1, h2⟩ := ih (acc ++ [r]) (by simp; omega) (by simp; omega) (fun p hp => by
        rcases List.mem_append.1 hp with h | h
        · exact ha p h
        · rw [List.mem_singleton] at h; subst h; exact ⟨hr0, hr1⟩)
      refine ⟨ps, Ev.succ ?_, h2⟩
      simp only [worldmintref28_Lots.l0, if_pos (show (acc.length : Int) < n by omega), hr, Option.bind_some, if_pos (show acc.length < 17592186044416 by omega), hw]
      exact h1
  simpa [worldmintref28_Lots.f] using this _ [] rfl (by simpa using hn0) (by simp)
end Go.Proofs.Ytdamibblnjeooaa.H

/- ProofLeaf: the plain statement. -/
namespace Go.Proofs.Ytdamibblnjeooaa.H
open Go.RowKit Go.Proofs.YtdamibblnjeooaaW.PrintWords Go.Proofs.YtdamibblnjeooaaW.PrintLast
set_option linter.unusedVariables false
set_option linter.unusedSimpArgs false
theorem lives_ok9 : worldmintlaw29_lives.f = some true := by kernel_rfl
theorem ProofLeaf_pure : worldmintlaw29_ProofLeaf.Pure := by
  intro a0 l1 l2 a3 w0 _ _ w1 _ _ w2 w3
  obtain ⟨t, ht, ht0, ht1⟩ := lots_ok a0 w0
  obtain ⟨L, hL, hLl, hLg⟩ := bids_ok t l1 w1 8 ht0 ht1 (by omega) (by omega)
  obtain ⟨ps, hps, hpl, hpr⟩ := rlots_ok t l2 w2 (by omega) ht1
  have hfine : ∀ b ∈ L.map cv, Fine t b ∧ b.f1 ≤ 450 := fun b hb => by
    obtain ⟨y, hy, rfl⟩ := List.mem_map.1 hb
    obtain ⟨g1, g2, g3, g4, g5, g6, g7⟩ := hLg y hy
    exact ⟨⟨g1, by show y.f0 ≤ _; omega, g3, by show y.f1 ≤ _; omega, g5, g6⟩, g4⟩
  have hgiven := given_ok L (by omega)
  have hlen : (L.map cv).length = L.length := List.length_map ..
  have hV : validP t (L.map cv) = 0 := fine_valid t _ ht0 ht1 (by omega) (fun b hb => (hfine b hb).1)
  obtain ⟨win, hwin, hfe⟩ := win_ok t L (by omega) (fun b hb => by have := (hLg b hb).2.2.2.2.2.2; omega) (fun b hb => by obtain ⟨g1, g2, g3, g4, g5, g6, g7⟩ := hLg b hb; exact ⟨g3, by omega⟩) (fun b hb => by obtain ⟨g1, g2, g3, g4, g5, g6, g7⟩ := hLg b hb; omega) hV a3 w3
  generalize L.map cv = l at *
  obtain ⟨hr, hrp, _⟩ := feasP_facts l win [] hfe
  have hwl := feas_len l win hfe
  have hval := value_ok l win hr (by omega) (fun b hb => by obtain ⟨⟨g1, g2, g3, g4, g5, g6⟩, g7⟩ := hfine b hb; omega)
  have hbound : clear_Bound.f t l ps = some (boundP l ps, 0) := by
    have h1 : ¬ ((ps.length : Int) ≠ t ∨ ps.any (fun p => decide (p < 0) || decide (1099511627776 < p)) = true) := by
      intro h
      rcases h with h | h
      · exact h hpl
      · obtain ⟨p, hpm, h⟩ := List.any_eq_true.1 h
        have := hpr p hpm
        simp only [Bool.or_eq_true, decide_eq_true_eq] at h
        omega
    simp only [clear_Bound.f, hV, if_true]
    rw [if_neg (by simpa using h1)]
  have hck := check_leaf t l win (valP l win) ps hV hfe rfl hpl (fun p hp => by have := hpr p hp; omega)
  refine Ev.ex ?_
  unfold worldmintlaw29_ProofLeaf.f
  simp only [ht, Option.bind_some]
  refine Ev.bind hL ?_
  refine Ev.bind hgiven ?_
  refine Ev.bind hwin ?_
  refine Ev.bind hps ?_
  simp only [hbound, Option.bind_some]
  refine Ev.bind hval ?_
  simp only [if_true, proof_Check.f, hck, Option.bind_some, lives_ok9]
  by_cases h : boundP l ps ≤ valP l win
  · simp only [if_pos h, decide_eq_true h]
    exact Ev.some_
  · simp only [if_neg h, decide_eq_false h]
    exact Ev.some_
end Go.Proofs.Ytdamibblnjeooaa.H
namespace Go.Proofs.Ytdamibblnjeooaa.Pure
theorem ProofLeaf : H.worldmintlaw29_ProofLeaf.Pure := H.ProofLeaf_pure
end Go.Proofs.Ytdamibblnjeooaa.Pure
