/- Texts of this claim, one behind the other. -/
import Derived.Test.YtdbpdkmnnlippaaMBidsApartc
import Derived.Test.YtdbpdkmnnlippaaMBidsApartb
import Derived.Test.YtdbpdkmnnlippaaMBidsApartd
import Derived.Test.YtdbpdkmnnlippaaMBidsAparte

/- The search's answer: the best choice, and of equals the least. Plain. -/
namespace Go.Proofs.Ytdbpdkmnnlippaa.H
open Go.RowKit
set_option linter.unusedVariables false
set_option linter.unusedSimpArgs false
/-- Do places a and b conflict? -/
def cf (l : List S38) (a b : Int) : Bool := conf (l.getD a.toNat z38) (l.getD b.toNat z38)
/-- Places that go with those taken, and among each other. -/
def okS (U : S38 → Bool) (l : List S38) : List Int → List Int → Bool
  | _, [] => true
  | win, k :: s => U (l.getD k.toNat z38) && !(win.any fun w => cf l w k) && okS U l (win ++ [k]) s
section
variable {U : S38 → Bool} {l : List S38}
end
end Go.Proofs.Ytdbpdkmnnlippaa.H

/- Choices as sets of places: the best one, told without lists. Plain. -/
namespace Go.Proofs.Ytdbpdkmnnlippaa.H
open Go.RowKit
set_option linter.unusedVariables false
set_option linter.unusedSimpArgs false
/-- The places from i on, n of them, at which p holds. -/
def sel (p : Nat → Bool) : Nat → Nat → List Int
  | 0, _ => []
  | n + 1, i => if p i then (i : Int) :: sel p n (i + 1) else sel p n (i + 1)
def sumF (f : Nat → Int) : Nat → Nat → Int
  | 0, _ => 0
  | n + 1, i => f i + sumF f n (i + 1)
theorem mem_sel (p : Nat → Bool) (x : Int) : ∀ n i, x ∈ sel p n i ↔ ∃ k, i ≤ k ∧ k < i + n ∧ p k = true ∧ x = (k : Int)
  | 0, i => by simp [sel]; intro k h1 h2; omega
  | n + 1, i => by
    have ih := mem_sel p x n (i + 1)
    unfold sel
    by_cases h : p i = true
    · rw [if_pos h, List.mem_cons, ih]
      constructor
      · rintro (rfl | ⟨k, h1, h2, h3, h4⟩)
        · exact ⟨i, by omega, by omega, h, rfl⟩
        · exact ⟨k, by omega, by omega, h3, h4⟩
      · rintro ⟨k, h1, h2, h3, h4⟩
        by_cases e : k = i
        · subst e; exact .inl h4
        · exact .inr ⟨k, by omega, by omega, h3, h4⟩
    · rw [if_neg h, ih]
      constructor
      · rintro ⟨k, h1, h2, h3, h4⟩
        exact ⟨k, by omega, by omega, h3, h4⟩
      · rintro ⟨k, h1, h2, h3, h4⟩
        by_cases e : k = i
        · subst e; exact absurd h3 h
        · exact ⟨k, by omega, by omega, h3, h4⟩
theorem mem_sel0 (p : Nat → Bool) (n : Nat) (x : Int) : x ∈ sel p n 0 ↔ ∃ k, k < n ∧ p k = true ∧ x = (k : Int) := by
  rw [mem_sel]
  constructor
  · rintro ⟨k, h1, h2, h3, h4⟩; exact ⟨k, by omega, h3, h4⟩
  · rintro ⟨k, h2, h3, h4⟩; exact ⟨k, by omega, by omega, h3, h4⟩
theorem rise_sel (p : Nat → Bool) : ∀ n i, (sel p n i).Pairwise (· < ·)
  | 0, _ => List.Pairwise.nil
  | n + 1, i => by
    unfold sel
    split
    · refine List.pairwise_cons.2 ⟨fun x hx => ?_, rise_sel p n (i + 1)⟩
      obtain ⟨k, h1, h2, h3, rfl⟩ := (mem_sel p x n (i + 1)).1 hx
      omega
    · exact rise_sel p n (i + 1)
theorem sel_len (p : Nat → Bool) : ∀ n i, (sel p n i).length ≤ n
  | 0, i => by simp [sel]
  | n + 1, i => by
    have := sel_len p n (i + 1)
    unfold sel
    split
    · simp; omega
    · omega
theorem rise_ext : ∀ (s t : List Int), s.Pairwise (· < ·) → t.Pairwise (· < ·) → (∀ x, x ∈ s ↔ x ∈ t) → s = t
  | [], [], _, _, _ => rfl
  | [], y :: t, _, _, h => by have := (h y).2 (by simp); simp at this
  | x :: s, [], _, _, h => by have := (h x).1 (by simp); simp at this
  | x :: s, y :: t, hs, ht, h => by
    obtain ⟨s1, s2⟩ := List.pairwise_cons.1 hs
    obtain ⟨t1, t2⟩ := List.pairwise_cons.1 ht
    have e : x = y := by
      rcases List.mem_cons.1 ((h x).1 (by simp)) with e | e
      · exact e
      · rcases List.mem_cons.1 ((h y).2 (by simp)) with e2 | e2
        · exact e2.symm
        · have := t1 x e; have := s1 y e2; omega
    subst e
    rw [rise_ext s t s2 t2 (fun z => by
      constructor
      · intro hz
        rcases List.mem_cons.1 ((h z).1 (by simp [hz])) with e | e
        · subst e; exact absurd (s1 z hz) (Int.lt_irrefl _)
        · exact e
      · intro hz
        rcases List.mem_cons.1 ((h z).2 (by simp [hz])) with e | e
        · subst e; exact absurd (t1 z hz) (Int.lt_irrefl _)
        · exact e)]
theorem sel_of (n : Nat) (s : List Int) (h0 : ∀ k ∈ s, 0 ≤ k ∧ k < n) (h1 : s.Pairwise (· < ·)) : s = sel (fun k => decide ((k : Int) ∈ s)) n 0 := by
  refine rise_ext _ _ h1 (rise_sel _ _ _) (fun x => ?_)
  rw [mem_sel0]
  constructor
  · intro hx
    obtain ⟨a, b⟩ := h0 x hx
    obtain ⟨k, rfl⟩ := Int.eq_ofNat_of_zero_le a
    exact ⟨k, by omega, by simpa using hx, rfl⟩
  · rintro ⟨k, h2, h3, rfl⟩; simpa using h3
theorem sumF_congr (f g : Nat → Int) : ∀ n i, (∀ k, i ≤ k → k < i + n → f k = g k) → sumF f n i = sumF g n i
  | 0, _, _ => rfl
  | n + 1, i, h => by
    unfold sumF
    rw [h i (by omega) (by omega), sumF_congr f g n (i + 1) (fun k h1 h2 => h k (by omega) (by omega))]
theorem sumF_add (f g : Nat → Int) : ∀ n i, sumF (fun k => f k + g k) n i = sumF f n i + sumF g n i
  | 0, _ => rfl
  | n + 1, i => by unfold sumF; rw [sumF_add f g n (i + 1)]; omega
theorem sumF_zero : ∀ (f : Nat → Int) n i, (∀ k, i ≤ k → k < i + n → f k = 0) → sumF f n i = 0
  | f, 0, _, _ => rfl
  | f, n + 1, i, h => by
    unfold sumF
    rw [h i (by omega) (by omega), sumF_zero f n (i + 1) (fun k h1 h2 => h k (by omega) (by omega))]
    rfl
def cj (l : List S38) (a b : Nat) : Bool := conf (l.getD a z38) (l.getD b z38)
theorem conf_comm (a b : S38) : conf a b = conf b a := by
  unfold conf
  have h1 : (a.f0 == b.f0) = (b.f0 == a.f0) := by rw [Bool.eq_iff_iff]; simp; exact ⟨fun h => h.symm, fun h => h.symm⟩
  have h2 : (b.f2.any fun k => a.f2.contains k) = (a.f2.any fun k => b.f2.contains k) := by
    rw [Bool.eq_iff_iff, List.any_eq_true, List.any_eq_true]
    constructor <;> (rintro ⟨x, h1, h2⟩; exact ⟨x, by simpa using h2, by simpa using h1⟩)
  rw [h1, h2]
theorem cj_comm (l : List S38) (a b : Nat) : cj l a b = cj l b a := conf_comm _ _
theorem cf_cj (l : List S38) (a b : Nat) : cf l (a : Int) (b : Int) = cj l a b := rfl
theorem ok_of_pairs (U : S38 → Bool) (l : List S38) : ∀ (s win : List Int), okS U l win s = true ↔ ((∀ k ∈ s, U (l.getD k.toNat z38) = true) ∧ (∀ w ∈ win, ∀ k ∈ s, cf l w k = false) ∧ s.Pairwise (fun a b => cf l a b = false))
  | [], win => by simp [okS]
  | k :: s, win => by
    have ih := ok_of_pairs U l s (win ++ [k])
    simp only [okS, Bool.and_eq_true, ih, Bool.not_eq_true']
    constructor
    · rintro ⟨⟨h1, h2⟩, h3, h4, h5⟩
      have h2' : ∀ w ∈ win, cf l w k = false := fun w hw => by simpa using List.any_eq_false.1 h2 w hw
      refine ⟨fun x hx => ?_, fun w hw x hx => ?_, List.pairwise_cons.2 ⟨fun x hx => h4 k (by simp) x hx, h5⟩⟩
      · rcases List.mem_cons.1 hx with rfl | hx
        · exact h1
        · exact h3 x hx
      · rcases List.mem_cons.1 hx with rfl | hx
        · exact h2' w hw
        · exact h4 w (by simp [hw]) x hx
    · rintro ⟨h1, h2, h3⟩
      obtain ⟨h4, h5⟩ := List.pairwise_cons.1 h3
      refine ⟨⟨h1 k (by simp), List.any_eq_false.2 (fun w hw => by simpa using h2 w hw k (by simp))⟩, fun x hx => h1 x (by simp [hx]), fun w hw x hx => ?_, h5⟩
      rcases List.mem_append.1 hw with hw | hw
      · exact h2 w hw x (by simp [hx])
      · rw [List.mem_singleton] at hw; subst hw; exact h4 x hx
end Go.Proofs.Ytdbpdkmnnlippaa.H

/- What bids.Parts tells: the components of the conflicts. Plain. -/
namespace Go.Proofs.Ytdbpdkmnnlippaa.H
open Go.RowKit
set_option linter.unusedVariables false
set_option linter.unusedSimpArgs false
/-- Place j can be reached from place i by conflicts. -/
def Conn (l : List S38) (i j : Nat) : Prop := ∀ S : Nat → Prop, S i → (∀ a b, a < l.length → b < l.length → S a → cj l a b = true → S b) → S j
section
variable {l : List S38}
theorem Conn.refl (i : Nat) : Conn l i i := fun _ h _ => h
theorem Conn.trans {i j k : Nat} (h1 : Conn l i j) (h2 : Conn l j k) : Conn l i k := fun S hi hc => h2 S (h1 S hi hc) hc
theorem Conn.one {i j : Nat} (hi : i < l.length) (hj : j < l.length) (h : cj l i j = true) : Conn l i j := fun S hs hc => hc i j hi hj hs h
theorem Conn.symm {i j : Nat} (h : Conn l i j) : Conn l j i :=
  h (fun x => Conn l x i) (Conn.refl i) (fun a b ha hb hs hc => (Conn.one hb ha (by rw [cj_comm]; exact hc)).trans hs)
/-- From state a to state b of a visit from i: what is new, and all that is new is reached from i. -/
structure VNew (l : List S38) (i : Nat) (a b : List Bool × List Int) (ns : List Nat) : Prop where
  grp : b.2 = a.2 ++ ns.map (fun k : Nat => (k : Int))
  nodup : ns.Nodup
  mem : ∀ k, k ∈ ns ↔ k < l.length ∧ a.1.getD k true = false ∧ b.1.getD k true = true
  mono : ∀ k, a.1.getD k true = true → b.1.getD k true = true
  conn : ∀ k ∈ ns, Conn l i k
theorem VNew.refl (i : Nat) (a : List Bool × List Int) : VNew l i a a [] :=
  ⟨by simp, List.nodup_nil, fun k => ⟨fun h => by simp at h, fun h => by rw [h.2.1] at h; cases h.2.2⟩, fun _ h => h, fun k hk => by simp at hk⟩
theorem VNew.trans {i j : Nat} {a b c : List Bool × List Int} {ns ms : List Nat} (h1 : VNew l i a b ns) (h2 : VNew l j b c ms) (hij : Conn l i j) : VNew l i a c (ns ++ ms) := by
  refine ⟨by rw [h2.grp, h1.grp, List.map_append, List.append_assoc], ?_, fun k => ?_, fun k hk => h2.mono k (h1.mono k hk), fun k hk => ?_⟩
  · rw [List.nodup_append]
    refine ⟨h1.nodup, h2.nodup, fun x hx y hy e => ?_⟩
    subst e
    have := ((h1.mem x).1 hx).2.2
    rw [((h2.mem x).1 hy).2.1] at this
    cases this
  · rw [List.mem_append, h1.mem, h2.mem]
    constructor
    · rintro (⟨a1, a2, a3⟩ | ⟨a1, a2, a3⟩)
      · exact ⟨a1, a2, h2.mono k a3⟩
      · refine ⟨a1, ?_, a3⟩
        cases h : a.1.getD k true
        · rfl
        · rw [h1.mono k h] at a2; cases a2
    · rintro ⟨a1, a2, a3⟩
      cases h : b.1.getD k true
      · exact .inr ⟨a1, rfl, a3⟩
      · exact .inl ⟨a1, a2, rfl⟩
  · rcases List.mem_append.1 hk with hk | hk
    · exact h1.conn k hk
    · exact hij.trans (h2.conn k hk)
/-- All that is new is closed. -/
def VClosed (l : List S38) (a b : List Bool × List Int) : Prop := ∀ k, k < l.length → a.1.getD k true = false → b.1.getD k true = true → ∀ j, j < l.length → cj l k j = true → b.1.getD j true = true
theorem getD_set (s : List Bool) (i k : Nat) : (s.set i true).getD k true = if k = i then true else s.getD k true := by
  simp only [List.getD, List.getElem?_set]
  by_cases h : i = k
  · subst h
    rw [if_pos rfl, if_pos rfl]
    split <;> rfl
  · rw [if_neg h, if_neg (fun e => h e.symm)]
theorem visit_new : ∀ (f i : Nat) (st : List Bool × List Int) (n : Nat), i < l.length → st.1.getD i true = false → Vis l f n st → (∃ ns, VNew l i st (visitP l f i st) ns) ∧ VClosed l st (visitP l f i st) ∧ (visitP l f i st).1.getD i true = true := by
  intro f
  induction f with
  | zero =>
    intro i st n hi hs h
    exfalso
    have h1 := h.2.1
    have h2 := unseen_set st.1 i hs
    omega
  | succ f ih =>
    intro i st n hi hs h
    have h0 : Vis l f n (st.1.set i true, st.2 ++ [(i : Int)]) := by
      have := unseen_set st.1 i hs
      refine ⟨by simpa using h.1, ?_, ?_⟩
      · have := h.2.1; simp only []; omega
      · have := h.2.2; simp only [List.length_append, List.length_cons, List.length_nil]; omega
    have hn0 : VNew l i st (st.1.set i true, st.2 ++ [(i : Int)]) [i] := by
      refine ⟨by simp, by simp, fun k => ?_, fun k hk => ?_, fun k hk => ?_⟩
      · rw [List.mem_singleton, getD_set]
        constructor
        · rintro rfl; exact ⟨hi, hs, by simp⟩
        · rintro ⟨a1, a2, a3⟩
          by_cases e : k = i
          · exact e
          · rw [if_neg e, a2] at a3; cases a3
      · rw [getD_set]; split
        · rfl
        · exact hk
      · rw [List.mem_singleton] at hk; subst hk; exact Conn.refl _
    have h1 : ∀ (js : List Nat) (s : List Bool × List Int) (ns : List Nat), (∀ j ∈ js, j < l.length) → Vis l f n s → VNew l i st s ns → s.1.getD i true = true →
        (∀ k, k < l.length → st.1.getD k true = false → k ≠ i → s.1.getD k true = true → ∀ j, j < l.length → cj l k j = true → s.1.getD j true = true) →
        (∃ ms, VNew l i st (js.foldl (vstep l f i) s) ms) ∧ (∀ k, s.1.getD k true = true → (js.foldl (vstep l f i) s).1.getD k true = true) ∧
        (∀ k, k < l.length → st.1.getD k true = false → k ≠ i → (js.foldl (vstep l f i) s).1.getD k true = true → ∀ j, j < l.length → cj l k j = true → (js.foldl (vstep l f i) s).1.getD j true = true) ∧
        (∀ j ∈ js, cj l i j = true → (js.foldl (vstep l f i) s).1.getD j true = true) := by
      intro js
      induction js with
      | nil => intro s ns _ _ hn _ hc; exact ⟨⟨ns, hn⟩, fun _ h => h, hc, by simp⟩
      | cons j js ihj =>
        intro s ns hj hv hn hsi hc
        have hjl := hj j (by simp)
        simp only [List.foldl_cons]
        have key : ∃ ms, VNew l i st (vstep l f i s j) ms ∧ Vis l f n (vstep l f i s j) ∧ (∀ k, s.1.getD k true = true → (vstep l f i s j).1.getD k true = true) ∧
            (∀ k, k < l.length → st.1.getD k true = false → k ≠ i → (vstep l f i s j).1.getD k true = true → ∀ m, m < l.length → cj l k m = true → (vstep l f i s j).1.getD m true = true) ∧
            (cj l i j = true → (vstep l f i s j).1.getD j true = true) := by
          obtain ⟨sn, gr⟩ := s
          cases hsj : sn.getD j true
          · cases hcj : cj l i j
            · rw [vstep_apart hcj]
              exact ⟨ns, hn, hv, fun _ h => h, hc, by simp⟩
            · rw [vstep_in hsj hcj]
              obtain ⟨⟨ms, hm⟩, hcl, hself⟩ := ih j (sn, gr) n hjl hsj hv
              refine ⟨ns ++ ms, hn.trans hm (Conn.one hi hjl hcj), visit_vis l f j (sn, gr) n hjl hsj hv, hm.mono, ?_, fun _ => hself⟩
              intro k hk hk0 hki hk1 m hml hkm
              cases hks : sn.getD k true
              · exact hcl k hk hks hk1 m hml hkm
              · exact hm.mono m (hc k hk hk0 hki hks m hml hkm)
          · rw [vstep_seen hsj]
            exact ⟨ns, hn, hv, fun _ h => h, hc, fun _ => hsj⟩
        obtain ⟨ms, k1, k2, k3, k4, k5⟩ := key
        obtain ⟨r1, r2, r3, r4⟩ := ihj (vstep l f i s j) ms (fun x hx => hj x (by simp [hx])) k2 k1 (k3 i hsi) k4
        refine ⟨r1, fun k hk => r2 k (k3 k hk), r3, fun x hx hcx => ?_⟩
        rcases List.mem_cons.1 hx with rfl | hx
        · exact r2 _ (k5 hcx)
        · exact r4 x hx hcx
    obtain ⟨r1, r2, r3, r4⟩ := h1 (List.range l.length) _ _ (fun j hj => List.mem_range.1 hj) h0 hn0 (by simp only [getD_set]; simp) (fun k hk hk0 hki hk1 j hj hc => by
      simp only [getD_set] at hk1
      rw [if_neg hki, hk0] at hk1
      cases hk1)
    rw [visit_succ]
    have hself := r2 i (by simp only [getD_set]; simp)
    refine ⟨r1, fun k hk hk0 hk1 j hj hc => ?_, hself⟩
    by_cases e : k = i
    · subst e; exact r4 j (List.mem_range.2 hj) hc
    · exact r3 k hk hk0 e hk1 j hj hc
end
open Classical in
/-- The places reached from i, in their order. -/
noncomputable def compP (l : List S38) (i : Nat) : List Int := sel (fun k => decide (Conn l i k)) l.length 0
open Classical in
/-- The first of its component. -/
noncomputable def isMin (l : List S38) (i : Nat) : Bool := decide (∀ j, j < i → ¬ Conn l i j)
theorem sorted_eq (xs ys : List Int) (hn : xs.Nodup) (hy : ys.Pairwise (· < ·)) (h : ∀ x, x ∈ xs ↔ x ∈ ys) : (xs.mergeSort fun x y => decide (x ≤ y)) = ys := by
  have hp := List.mergeSort_perm xs (fun x y => decide (x ≤ y))
  have hs : (xs.mergeSort fun x y => decide (x ≤ y)).Pairwise (fun a b => decide (a ≤ b) = true) :=
    List.pairwise_mergeSort (fun a b c h1 h2 => by simp only [decide_eq_true_eq] at *; omega) (fun a b => by simp only [Bool.or_eq_true, decide_eq_true_eq]; omega) xs
  have hnd : (xs.mergeSort fun x y => decide (x ≤ y)).Nodup := hp.nodup_iff.2 hn
  refine rise_ext _ _ ?_ hy (fun x => by rw [hp.mem_iff]; exact h x)
  have := List.Pairwise.and hs (List.nodup_iff_pairwise_ne.1 hnd)
  refine this.imp (fun {a b} hab => ?_)
  have h1 : a ≤ b := by simpa using hab.1
  have h2 := hab.2
  omega
open Classical in
theorem parts_eq (l : List S38) : partsP l = ((List.range l.length).filter (isMin l)).map (compP l) := by
  have h : ∀ m, m ≤ l.length → ∃ sn, (List.range m).foldl (partsStep l) (List.replicate l.length false, []) = (sn, ((List.range m).filter (isMin l)).map (compP l)) ∧ sn.length = l.length ∧ ∀ k, k < l.length → (sn.getD k true = true ↔ ∃ i, i < m ∧ Conn l i k) := by
    intro m
    induction m with
    | zero =>
      intro _
      refine ⟨List.replicate l.length false, rfl, by simp, fun k hk => ?_⟩
      constructor
      · intro h; simp [List.getD, List.getElem?_replicate, hk] at h
      · rintro ⟨i, hi, _⟩; omega
    | succ m ih =>
      intro hm
      obtain ⟨sn, h1, h2, h3⟩ := ih (by omega)
      rw [List.range_succ, List.foldl_append, h1, List.filter_append, List.map_append]
      simp only [List.foldl_cons, List.foldl_nil]
      cases hs : sn.getD m true
      · have hmin : isMin l m = true := by
          unfold isMin
          rw [decide_eq_true_eq]
          intro j hj hc
          have := (h3 m (by omega)).2 ⟨j, hj, hc.symm⟩
          rw [hs] at this
          cases this
        have hv : Vis l l.length (unseen sn) (sn, []) := ⟨h2, by have := unseen_le sn; simp only []; omega, by simp⟩
        obtain ⟨⟨ns, hn⟩, hcl, hself⟩ := visit_new l.length m (sn, []) (unseen sn) (by omega) hs hv
        have hv2 := visit_vis l l.length m (sn, []) (unseen sn) (by omega) hs hv
        have hstep : partsStep l (sn, ((List.range m).filter (isMin l)).map (compP l)) m = ((visitP l l.length m (sn, [])).1, ((List.range m).filter (isMin l)).map (compP l) ++ [(visitP l l.length m (sn, [])).2.mergeSort fun x y => decide (x ≤ y)]) := by
          unfold partsStep; rw [show (sn, ((List.range m).filter (isMin l)).map (compP l)).1 = sn from rfl, hs]; rfl
        generalize visitP l l.length m (sn, []) = r at *
        have hmem : ∀ k, k < l.length → (k ∈ ns ↔ Conn l m k) := by
          intro k hk
          constructor
          · exact hn.conn k
          · intro hc
            have hu : sn.getD k true = false := by
              cases hsk : sn.getD k true
              · rfl
              · obtain ⟨i, hi, hik⟩ := (h3 k hk).1 hsk
                have := (h3 m (by omega)).2 ⟨i, hi, hik.trans hc.symm⟩
                rw [hs] at this
                cases this
            refine (hn.mem k).2 ⟨hk, hu, hc (fun x => r.1.getD x true = true) hself (fun a b ha hb hra hab => ?_)⟩
            cases hsa : sn.getD a true
            · exact hcl a ha hsa hra b hb hab
            · obtain ⟨i, hi, hia⟩ := (h3 a ha).1 hsa
              exact hn.mono b ((h3 b hb).2 ⟨i, hi, hia.trans (Conn.one ha hb hab)⟩)
        have hsort : (r.2.mergeSort fun x y => decide (x ≤ y)) = compP l m := by
          refine sorted_eq _ _ ?_ (rise_sel _ _ _) (fun x => ?_)
          · rw [hn.grp]
            simp only [List.nil_append]
            rw [List.nodup_iff_pairwise_ne, List.pairwise_map]
            exact (List.nodup_iff_pairwise_ne.1 hn.nodup).imp (fun h e => h (by omega))
          · unfold compP
            rw [hn.grp, mem_sel0]
            simp only [List.nil_append, List.mem_map, decide_eq_true_eq]
            constructor
            · rintro ⟨k, hk, rfl⟩
              have hkl := ((hn.mem k).1 hk).1
              exact ⟨k, hkl, (hmem k hkl).1 hk, rfl⟩
            · rintro ⟨k, hk, hc, rfl⟩
              exact ⟨k, (hmem k hk).2 hc, rfl⟩
        refine ⟨r.1, by rw [hstep, hsort]; simp [hmin], hv2.1, fun k hk => ?_⟩
        constructor
        · intro hrk
          cases hsk : sn.getD k true
          · exact ⟨m, by omega, hn.conn k ((hn.mem k).2 ⟨hk, hsk, hrk⟩)⟩
          · obtain ⟨i, hi, hik⟩ := (h3 k hk).1 hsk
            exact ⟨i, by omega, hik⟩
        · rintro ⟨i, hi, hik⟩
          by_cases e : i = m
          · subst e; exact ((hn.mem k).1 ((hmem k hk).2 hik)).2.2
          · exact hn.mono k ((h3 k hk).2 ⟨i, by omega, hik⟩)
      · obtain ⟨i, hi, him⟩ := (h3 m (by omega)).1 hs
        have hmin : isMin l m = false := by
          unfold isMin
          rw [decide_eq_false_iff_not]
          exact fun h => h i hi him.symm
        refine ⟨sn, by unfold partsStep; rw [show (sn, ((List.range m).filter (isMin l)).map (compP l)).1 = sn from rfl, hs]; simp [hmin], h2, fun k hk => ?_⟩
        rw [h3 k hk]
        constructor
        · rintro ⟨j, hj, hjk⟩; exact ⟨j, by omega, hjk⟩
        · rintro ⟨j, hj, hjk⟩
          by_cases e : j = m
          · subst e; exact ⟨i, hi, him.trans hjk⟩
          · exact ⟨j, by omega, hjk⟩
  obtain ⟨sn, h1, _⟩ := h l.length (Nat.le_refl _)
  unfold partsP
  rw [h1]
end Go.Proofs.Ytdbpdkmnnlippaa.H

/- The best choice, group by group; what Reduce leaves. Plain. -/
namespace Go.Proofs.Ytdbpdkmnnlippaa.H
open Go.RowKit
set_option linter.unusedVariables false
set_option linter.unusedSimpArgs false
section
variable {l : List S38}
end
section
variable {l : List S38} {g : List Int} (hr : g.Pairwise (· < ·)) (hg : ∀ k ∈ g, 0 ≤ k ∧ k < l.length)
include hr hg
end
/-! ### the groups of Parts -/
theorem part_mem (l : List S38) (g : List Int) (hg : g ∈ partsP l) : ∃ i, i < l.length ∧ isMin l i = true ∧ g = compP l i := by
  rw [parts_eq] at hg
  obtain ⟨i, hi, e⟩ := List.mem_map.1 hg
  obtain ⟨h1, h2⟩ := List.mem_filter.1 hi
  exact ⟨i, List.mem_range.1 h1, h2, e.symm⟩
theorem mem_comp (l : List S38) (i : Nat) (x : Int) : x ∈ compP l i ↔ ∃ k, k < l.length ∧ Conn l i k ∧ x = (k : Int) := by
  unfold compP
  rw [mem_sel0]
  simp only [decide_eq_true_eq]
theorem part_rise (l : List S38) (g : List Int) (hg : g ∈ partsP l) : g.Pairwise (· < ·) := by
  obtain ⟨i, hi, _, rfl⟩ := part_mem l g hg
  exact rise_sel _ _ _
theorem part_range (l : List S38) (g : List Int) (hg : g ∈ partsP l) : ∀ x ∈ g, 0 ≤ x ∧ x < l.length := by
  obtain ⟨i, hi, _, rfl⟩ := part_mem l g hg
  intro x hx
  obtain ⟨k, hk, _, rfl⟩ := (mem_comp l i x).1 hx
  omega
theorem part_apart (l : List S38) (g : List Int) (hg : g ∈ partsP l) (a b : Nat) (ha : a < l.length) (hb : b < l.length) (h1 : (a : Int) ∈ g) (h2 : ¬ (b : Int) ∈ g) : cj l a b = false := by
  obtain ⟨i, hi, _, rfl⟩ := part_mem l g hg
  obtain ⟨k, hk, hc, e⟩ := (mem_comp l i _).1 h1
  have : a = k := by omega
  subst this
  cases h : cj l a b
  · rfl
  · exact absurd ((mem_comp l i _).2 ⟨b, hb, hc.trans (Conn.one ha hb h), rfl⟩) h2
open Classical in
theorem isMin_iff (l : List S38) (i : Nat) : isMin l i = true ↔ ∀ j, j < i → ¬ Conn l i j := by
  unfold isMin
  exact decide_eq_true_iff
theorem parts_disjoint (l : List S38) : (partsP l).Pairwise (fun g h => ∀ x, x ∈ g → ¬ x ∈ h) := by
  rw [parts_eq, List.pairwise_map]
  have h1 : ((List.range l.length).filter (isMin l)).Pairwise (· < ·) := List.pairwise_lt_range.filter _
  refine h1.imp_of_mem (fun {a b} ha hb hab x hx hy => ?_)
  obtain ⟨k, hk, hc, rfl⟩ := (mem_comp l a x).1 hx
  obtain ⟨k', hk', hc', e⟩ := (mem_comp l b _).1 hy
  have : k = k' := by omega
  subst this
  have hm := (isMin_iff l b).1 (List.mem_filter.1 hb).2
  exact hm a hab (hc'.trans hc.symm)
theorem min_of (l : List S38) : ∀ k, ∃ i, i ≤ k ∧ isMin l i = true ∧ Conn l i k := by
  intro k
  induction k using Nat.strongRecOn with
  | ind k ih =>
    cases h : isMin l k
    · have h' : ¬ ∀ j, j < k → ¬ Conn l k j := fun h2 => by rw [(isMin_iff l k).2 h2] at h; cases h
      simp only [Classical.not_forall, Classical.not_not] at h'
      obtain ⟨j, hj, hc⟩ := h'
      obtain ⟨i, h1, h2, h3⟩ := ih j hj
      exact ⟨i, by omega, h2, h3.trans hc.symm⟩
    · exact ⟨k, Nat.le_refl _, h, Conn.refl k⟩
theorem parts_cover (l : List S38) (k : Nat) (hk : k < l.length) : ∃ g ∈ partsP l, (k : Int) ∈ g := by
  obtain ⟨i, h1, h2, h3⟩ := min_of l k
  refine ⟨compP l i, ?_, (mem_comp l i _).2 ⟨k, hk, h3, rfl⟩⟩
  rw [parts_eq]
  exact List.mem_map.2 ⟨i, List.mem_filter.2 ⟨List.mem_range.2 (by omega), h2⟩, rfl⟩
theorem parts_len (l : List S38) : (partsP l).length ≤ l.length := by
  rw [parts_eq, List.length_map]
  have := List.length_filter_le (isMin l) (List.range l.length)
  simpa using this
end Go.Proofs.Ytdbpdkmnnlippaa.H

/- What a printed function computes with rounds enough: its laws; the generators of the reference. -/
namespace Go.Proofs.Ytdbpdkmnnlippaa.H
open Go.RowKit Go.Proofs.YtdbpdkmnnlippaaW.PrintWords Go.Proofs.YtdbpdkmnnlippaaW.PrintLast
set_option linter.unusedVariables false
set_option linter.unusedSimpArgs false
/-- With rounds enough, f tells a. -/
def Ev {α : Type} (f : Nat → Option α) (a : α) : Prop := ∃ K, ∀ k, K ≤ k → f k = some a
section
variable {α β : Type} {f : Nat → Option α} {a : α}
theorem Ev.succ (h : Ev (fun k => f (k + 1)) a) : Ev f a := by
  obtain ⟨K, h⟩ := h
  refine ⟨K + 1, fun k hk => ?_⟩
  obtain ⟨j, rfl⟩ : ∃ j, k = j + 1 := ⟨k - 1, by omega⟩
  exact h j (by omega)
theorem Ev.bind {g : Nat → α → Option β} {b : β} (hf : Ev f a) (hg : Ev (fun k => g k a) b) : Ev (fun k => (f k).bind (g k)) b := by
  obtain ⟨K, h⟩ := hf
  obtain ⟨K2, h2⟩ := hg
  exact ⟨max K K2, fun k hk => by
    show (f k).bind (g k) = some b
    rw [h k (by omega)]
    exact h2 k (by omega)⟩
theorem Ev.some_ : Ev (fun _ => some a) a := ⟨0, fun _ _ => rfl⟩
theorem Ev.ex (h : Ev f a) : ∃ k, f k = some a := by
  obtain ⟨K, h⟩ := h
  exact ⟨K, h K (Nat.le_refl _)⟩
theorem Ev.of_mono (hm : ∀ k, LeO (f k) (f (k + 1))) (h : ∃ k, f k = some a) : Ev f a := by
  obtain ⟨K, h⟩ := h
  refine ⟨K, fun k hk => ?_⟩
  obtain ⟨d, rfl⟩ := Nat.exists_eq_add_of_le hk
  clear hk
  induction d with
  | zero => exact h
  | succ d ih => exact hm (K + d) _ ih
end
theorem wf_bounds (n : Int) (h : (Lit.int .i64 n).wf = true) : -9223372036854775808 ≤ n ∧ n ≤ 9223372036854775807 := by
  simpa [Lit.wf, IntKind.min, IntKind.max, IntKind.signed, IntKind.bits] using h
theorem w64 (x : Int) (h0 : -9223372036854775808 ≤ x) (h1 : x ≤ 9223372036854775807) : wrap64 x = x := by
  unfold wrap64
  omega
theorem around_ok (n most : Int) (hn : (Lit.int .i64 n).wf = true) (hm : 0 < most) : ∃ r, worldmintref01_Around.f n most = some r ∧ 0 ≤ r ∧ r < most := by
  have hb := wf_bounds n hn
  unfold worldmintref01_Around.f
  by_cases h : n < 0
  · rw [if_pos h, if_neg (by omega), w64 (n + 1) (by omega) (by omega), w64 (-(n + 1)) (by omega) (by omega)]
    exact ⟨_, rfl, Int.tmod_nonneg _ (by omega), Int.tmod_lt_of_pos _ hm⟩
  · rw [if_neg h, if_neg (by omega)]
    exact ⟨_, rfl, Int.tmod_nonneg _ (by omega), Int.tmod_lt_of_pos _ hm⟩
theorem lots_ok (n : Int) (hn : (Lit.int .i64 n).wf = true) : ∃ r, worldmintref27_Lots.f n = some r ∧ 1 ≤ r ∧ r ≤ 8 := by
  obtain ⟨r, h, h0, h1⟩ := around_ok n 8 hn (by omega)
  unfold worldmintref27_Lots.f
  rw [h, Option.bind_some, w64 _ (by omega) (by omega)]
  exact ⟨_, rfl, by omega, by omega⟩
theorem pick_ok (l : List Int) (i most : Int) (hl : ∀ x ∈ l, (Lit.int .i64 x).wf = true) (hm : 0 < most) : ∃ r, worldmintref01_Pick.f l i most = some r ∧ 0 ≤ r ∧ r < most := by
  unfold worldmintref01_Pick.f
  by_cases h : i < 0
  · rw [if_pos h]; exact ⟨0, rfl, by omega, hm⟩
  · rw [if_neg h]
    by_cases h2 : i ≥ (l.length : Int)
    · rw [if_pos h2]; exact ⟨0, rfl, by omega, hm⟩
    · rw [if_neg h2, if_pos (by omega), if_pos (by omega)]
      have hm2 : rd l i ∈ l := by
        have : i.toNat < l.length := by omega
        simp [rd, List.getD, this]
      obtain ⟨r, h3, h4, h5⟩ := around_ok (rd l i) most (hl _ hm2) hm
      exact ⟨r, by rw [h3]; rfl, h4, h5⟩
/-- A bid as the reference draws it. -/
def GoodBid (n : Int) (b : S40) : Prop := 1 ≤ b.f0 ∧ b.f0 ≤ 6 ∧ 1 ≤ b.f1 ∧ b.f1 ≤ 450 ∧ b.f2.length ≠ 0 ∧ lotsOk n (-1) b.f2 = true ∧ b.f2.length ≤ 8
theorem lotsOk_snoc (n j : Int) (hj : j < n) : ∀ (ks : List Int) (last : Int), lotsOk n last ks = true → (∀ k ∈ ks, k < j) → last < j → lotsOk n last (ks ++ [j]) = true
  | [], last, _, _, h => by
    simp only [List.nil_append, lotsOk]
    simp [hj, h]
  | k :: ks, last, h, hk, _ => by
    simp only [List.cons_append, lotsOk] at h ⊢
    split at h
    · simp at h
    · rename_i hc
      rw [if_neg hc]
      exact lotsOk_snoc n j hj ks k h (fun x hx => hk x (by simp [hx])) (hk k (by simp))
set_option maxHeartbeats 1000000 in
theorem bids_l1 (n : Int) (l : List Int) (most : Int) (x7 : List S40) (x8 f0 f1 : Int) (hn1 : 1 ≤ n) (hn8 : n ≤ 8) (hx7 : x7.length < 3518437208883) (L : List S40)
    (hnext : ∀ ks : List Int, ks.length ≠ 0 → lotsOk n (-1) ks = true → ks.length ≤ 8 → ∃ L, Ev (fun k => worldmintref27_Bids.l0 k n l most (x7 ++ [⟨f0, f1, ks⟩]) (wrap64 (x8 + 1))) L ∧ (L.length : Int) ≤ most ∧ ∀ b ∈ L, GoodBid n b) :
    ∀ (d : Nat) (j : Int) (bs : Int) (ks : List Int), (n - j).toNat = d → 0 ≤ j → j ≤ n → lotsOk n (-1) ks = true → (∀ k ∈ ks, k < j) → (ks.length : Int) ≤ j → (j = n → ks.length ≠ 0) →
    ∃ L, Ev (fun k => worldmintref27_Bids.l1 k n l most x7 x8 bs j f0 f1 ks) L ∧ (L.length : Int) ≤ most ∧ ∀ b ∈ L, GoodBid n b
  | 0, j, bs, ks, hd, h0, hjn, hk, hkj, hkl, hne => by
    obtain ⟨L, h1, h2⟩ := hnext ks (hne (by omega)) hk (by omega)
    refine ⟨L, Ev.succ ?_, h2⟩
    simp only [worldmintref27_Bids.l1]
    simp only [if_neg (show ¬ j < n by omega), if_pos hx7]
    exact h1
  | d + 1, j, bs, ks, hd, h0, hjn, hk, hkj, hkl, hne => by
    have hw : wrap64 (j + 1) = j + 1 := w64 _ (by omega) (by omega)
    have hw2 : wrap64 (n - 1) = n - 1 := w64 _ (by omega) (by omega)
    have happ := fun bs' => bids_l1 n l most x7 x8 f0 f1 hn1 hn8 hx7 L hnext d (j + 1) bs' (ks ++ [j]) (by omega) (by omega) (by omega) (lotsOk_snoc n j (by omega) ks (-1) hk hkj (by omega)) (fun k hk' => by
      rcases List.mem_append.1 hk' with h | h
      · have := hkj k h; omega
      · simp at h; omega) (by simp; omega) (fun _ => by simp)
    have hnot := fun bs' (hh : j + 1 = n → ks.length ≠ 0) => bids_l1 n l most x7 x8 f0 f1 hn1 hn8 hx7 L hnext d (j + 1) bs' ks (by omega) (by omega) (by omega) hk (fun k hk' => by have := hkj k hk'; omega) (by omega) hh
    by_cases c1 : Int.tmod bs 2 = 1
    · obtain ⟨L, h1, h2⟩ := happ (wrap64 (Int.tdiv bs 2))
      refine ⟨L, Ev.succ ?_, h2⟩
      simp only [worldmintref27_Bids.l1]
      simp only [if_pos (show j < n by omega), if_pos c1, if_pos (show ks.length < 17592186044416 by omega), hw]
      exact h1
    · by_cases c2 : j = n - 1
      · by_cases c3 : (ks.length : Int) = 0
        · obtain ⟨L, h1, h2⟩ := happ (wrap64 (Int.tdiv bs 2))
          refine ⟨L, Ev.succ ?_, h2⟩
          simp only [worldmintref27_Bids.l1]
          simp only [if_pos (show j < n by omega), if_neg c1, hw2, if_pos c2, if_pos c3, if_pos (show ks.length < 17592186044416 by omega), hw]
          exact h1
        · obtain ⟨L, h1, h2⟩ := hnot (wrap64 (Int.tdiv bs 2)) (fun _ => by omega)
          refine ⟨L, Ev.succ ?_, h2⟩
          simp only [worldmintref27_Bids.l1]
          simp only [if_pos (show j < n by omega), if_neg c1, hw2, if_pos c2, if_neg c3, hw]
          exact h1
      · obtain ⟨L, h1, h2⟩ := hnot (wrap64 (Int.tdiv bs 2)) (fun _ => by omega)
        refine ⟨L, Ev.succ ?_, h2⟩
        simp only [worldmintref27_Bids.l1]
        simp only [if_pos (show j < n by omega), if_neg c1, hw2, if_neg c2, hw]
        exact h1
set_option maxHeartbeats 1000000 in
theorem bids_l0 (n : Int) (l : List Int) (hl : ∀ x ∈ l, (Lit.int .i64 x).wf = true) (most : Int) (hn1 : 1 ≤ n) (hn8 : n ≤ 8) (hm0 : 0 ≤ most) (hm1 : most ≤ 1000) :
    ∀ (d : Nat) (x7 : List S40), (most - x7.length).toNat = d → (x7.length : Int) ≤ most → (∀ b ∈ x7, GoodBid n b) →
    ∃ L, Ev (fun k => worldmintref27_Bids.l0 k n l most x7 x7.length) L ∧ (L.length : Int) ≤ most ∧ ∀ b ∈ L, GoodBid n b := by
  intro d
  induction d with
  | zero =>
    intro x7 hd hx hb
    obtain ⟨r, hr, hr0, hr1⟩ := pick_ok l 0 (most + 1) hl (by omega)
    refine ⟨x7, Ev.succ ?_, hx, hb⟩
    simp only [worldmintref27_Bids.l0, w64 (most + 1) (by omega) (by omega), hr, Option.bind_some]
    simp only [if_neg (show ¬ (x7.length : Int) < r by omega)]
    exact Ev.some_
  | succ d ih =>
    intro x7 hd hx hb
    obtain ⟨r, hr, hr0, hr1⟩ := pick_ok l 0 (most + 1) hl (by omega)
    by_cases hlt : (x7.length : Int) < r
    · obtain ⟨t, ht, ht0, ht1⟩ := pick_ok l (wrap64 (1 + wrap64 (3 * (x7.length : Int)))) 1000000 hl (by omega)
      obtain ⟨u, hu, hu0, hu1⟩ := pick_ok l (wrap64 (2 + wrap64 (3 * (x7.length : Int)))) 255 hl (by omega)
      obtain ⟨v, hv, hv0, hv1⟩ := pick_ok l (wrap64 (3 + wrap64 (3 * (x7.length : Int)))) 255 hl (by omega)
      have e0 : 0 ≤ Int.tmod t 6 ∧ Int.tmod t 6 < 6 := ⟨Int.tmod_nonneg _ ht0, Int.tmod_lt_of_pos _ (by omega)⟩
      have hq : 0 ≤ Int.tdiv t 6 ∧ Int.tdiv t 6 ≤ t := ⟨Int.tdiv_nonneg ht0 (by omega), Int.tdiv_le_self _ ht0⟩
      have hq2 : 0 ≤ Int.tdiv t 216 ∧ Int.tdiv t 216 ≤ t := ⟨Int.tdiv_nonneg ht0 (by omega), Int.tdiv_le_self _ ht0⟩
      have hw1 : wrap64 (Int.tdiv t 6) = Int.tdiv t 6 := w64 _ (by omega) (by omega)
      have hw2 : wrap64 (Int.tdiv t 216) = Int.tdiv t 216 := w64 _ (by omega) (by omega)
      have e1 : 0 ≤ Int.tmod (Int.tdiv t 6) 9 ∧ Int.tmod (Int.tdiv t 6) 9 < 9 := ⟨Int.tmod_nonneg _ hq.1, Int.tmod_lt_of_pos _ (by omega)⟩
      have e2 : 0 ≤ Int.tmod (Int.tdiv t 216) 50 ∧ Int.tmod (Int.tdiv t 216) 50 < 50 := ⟨Int.tmod_nonneg _ hq2.1, Int.tmod_lt_of_pos _ (by omega)⟩
      have g0 : wrap64 (1 + Int.tmod t 6) = 1 + Int.tmod t 6 := w64 _ (by omega) (by omega)
      have g1 : wrap64 (1 + Int.tmod (Int.tdiv t 6) 9) = 1 + Int.tmod (Int.tdiv t 6) 9 := w64 _ (by omega) (by omega)
      have g2 : wrap64 (1 + Int.tmod (Int.tdiv t 216) 50) = 1 + Int.tmod (Int.tdiv t 216) 50 := w64 _ (by omega) (by omega)
      have hpr : ∀ a b : Int, 1 ≤ a → a ≤ 9 → 1 ≤ b → b ≤ 50 → 1 ≤ a * b ∧ a * b ≤ 450 := fun a b a1 a2 b1 b2 => by
        have h1 : 1 * 1 ≤ a * b := Int.mul_le_mul a1 b1 (by omega) (by omega)
        have h2 : a * b ≤ 9 * 50 := Int.mul_le_mul a2 b2 (by omega) (by omega)
        omega
      have hp := hpr (1 + Int.tmod (Int.tdiv t 6) 9) (1 + Int.tmod (Int.tdiv t 216) 50) (by omega) (by omega) (by omega) (by omega)
      have g3 : wrap64 ((1 + Int.tmod (Int.tdiv t 6) 9) * (1 + Int.tmod (Int.tdiv t 216) 50)) = (1 + Int.tmod (Int.tdiv t 6) 9) * (1 + Int.tmod (Int.tdiv t 216) 50) := w64 _ (by omega) (by omega)
      have hstep : ∀ p : Int, 1 ≤ p → p ≤ 450 → ∃ L, Ev (fun k => worldmintref27_Bids.j1 k n l most x7 (x7.length : Int) (1 + Int.tmod t 6) p) L ∧ (L.length : Int) ≤ most ∧ ∀ b ∈ L, GoodBid n b := fun p hp1 hp2 => by
        obtain ⟨L, h1, h2⟩ := bids_l1 n l most x7 (x7.length : Int) (1 + Int.tmod t 6) p hn1 hn8 (by omega) [] (fun ks hk0 hk1 hk2 => by
          obtain ⟨L, h1, h2⟩ := ih (x7 ++ [⟨1 + Int.tmod t 6, p, ks⟩]) (by simp; omega) (by simp; omega) (fun b hb' => by
            rcases List.mem_append.1 hb' with h | h
            · exact hb b h
            · rw [List.mem_singleton] at h; subst h; exact ⟨by show 1 ≤ 1 + _; omega, by show 1 + _ ≤ 6; omega, hp1, hp2, hk0, hk1, hk2⟩)
          refine ⟨L, ?_, h2⟩
          rw [w64 _ (by omega) (by omega)]
          simpa using h1) n.toNat 0 (Go.bits .and .i64 u (Go.bits .or .i64 v 17)) [] (by omega) (by omega) (by omega) rfl (by simp) (by simp) (by omega)
        refine ⟨L, Ev.succ ?_, h2⟩
        simp only [worldmintref27_Bids.j1, hu, hv, Option.bind_some]
        exact h1
      by_cases c : Int.tmod (wrap64 (Int.tdiv t 54)) 4 = 0
      · obtain ⟨L, h1, h2⟩ := hstep _ hp.1 hp.2
        refine ⟨L, Ev.succ ?_, h2⟩
        simp only [worldmintref27_Bids.l0, w64 (most + 1) (by omega) (by omega), hr, ht, Option.bind_some, if_pos hlt, if_pos c, hw1, hw2, g0, g1, g2, g3]
        exact h1
      · obtain ⟨L, h1, h2⟩ := hstep (1 + Int.tmod (Int.tdiv t 6) 9) (by omega) (by omega)
        refine ⟨L, Ev.succ ?_, h2⟩
        simp only [worldmintref27_Bids.l0, w64 (most + 1) (by omega) (by omega), hr, ht, Option.bind_some, if_pos hlt, if_neg c, hw1, g0, g1]
        exact h1
    · refine ⟨x7, Ev.succ ?_, hx, hb⟩
      simp only [worldmintref27_Bids.l0, w64 (most + 1) (by omega) (by omega), hr, Option.bind_some]
      simp only [if_neg hlt]
      exact Ev.some_
theorem bids_ok (n : Int) (l : List Int) (hl : ∀ x ∈ l, (Lit.int .i64 x).wf = true) (most : Int) (hn1 : 1 ≤ n) (hn8 : n ≤ 8) (hm0 : 0 ≤ most) (hm1 : most ≤ 1000) :
    ∃ L, Ev (fun k => worldmintref27_Bids.f k n l most) L ∧ (L.length : Int) ≤ most ∧ ∀ b ∈ L, GoodBid n b := by
  have := bids_l0 n l hl most hn1 hn8 hm0 hm1 _ [] rfl (by simpa using hm0) (by simp)
  simpa [worldmintref27_Bids.f] using this
end Go.Proofs.Ytdbpdkmnnlippaa.H

/- What the reference of bids computes: by the same plain words. -/
namespace Go.Proofs.Ytdbpdkmnnlippaa.H
open Go.RowKit Go.Proofs.YtdbpdkmnnlippaaW.PrintWords Go.Proofs.YtdbpdkmnnlippaaW.PrintLast
set_option linter.unusedVariables false
set_option linter.unusedSimpArgs false
/-- A bid of the reference as a bid of the program. -/
def cv (b : S40) : S38 := ⟨b.f0, b.f1, b.f2⟩
theorem drop_cons {α : Type} (l : List α) (p : Nat) (x : α) (d : List α) (h : l.drop p = x :: d) : l[p]? = some x ∧ l.drop (p + 1) = d ∧ p < l.length := by
  have h1 : l[p]? = some x := by
    have := congrArg (fun t => t[0]?) h
    simpa using this
  refine ⟨h1, ?_, ?_⟩
  · have := congrArg List.tail h
    simpa using this
  · have := congrArg List.length h
    simp at this
    omega
theorem drop_nil {α : Type} (l : List α) (p : Nat) (hp : p ≤ l.length) (h : l.drop p = []) : p = l.length := by
  have := congrArg List.length h
  simp at this
  omega
theorem rdR_at (l : List S40) (i : Nat) (x : S40) (h : l[i]? = some x) : rd_T40 l (i : Int) = x := by
  simp [rd_T40, List.getD, h]
/-! ### given -/
theorem given_ok (l : List S40) (hl : l.length < 3518437208883) : Ev (fun k => worldmintlaw27_given.f k l) (l.map cv) := by
  have : ∀ (d : List S40) (p : Nat), l.drop p = d → p ≤ l.length → Ev (fun k => worldmintlaw27_given.l0 k l ((l.take p).map cv) (p : Int)) (l.map cv) := by
    intro d
    induction d with
    | nil =>
      intro p hd hp
      have := drop_nil l p hp hd
      subst this
      refine Ev.succ ?_
      simp only [worldmintlaw27_given.l0, if_neg (show ¬ (l.length : Int) < (l.length : Int) by omega), List.take_length]
      exact Ev.some_
    | cons x d ih =>
      intro p hd hp
      obtain ⟨hx, hd', hlt⟩ := drop_cons l p x d hd
      have hw : wrap64 ((p : Int) + 1) = ((p + 1 : Nat) : Int) := by rw [w64 _ (by omega) (by omega)]; omega
      have h1 := ih (p + 1) hd' (by omega)
      refine Ev.succ ?_
      simp only [worldmintlaw27_given.l0, if_pos (show (p : Int) < (l.length : Int) by omega), if_pos (show (0 : Int) ≤ (p : Int) by omega), rdR_at l p x hx, hw, List.length_map, List.length_take]
      simp only [if_pos (show min p l.length < 3518437208883 by omega)]
      have e : (l.take p).map cv ++ [⟨x.f0, x.f1, x.f2⟩] = (l.take (p + 1)).map cv := by
        have hg : l[p] = x := by
          have := List.getElem?_eq_getElem hlt
          rw [hx] at this
          injection this with this
          exact this.symm
        rw [List.take_succ_eq_append_getElem hlt, List.map_append, hg]
        rfl
      rw [e]
      exact h1
  exact this l 0 rfl (Nat.zero_le _)
/-! ### Conflict, Feasible, Value, Less, Choice -/
theorem has_ok (xs : List Int) (x : Int) (hl : xs.length ≤ 9223372036854775807) : Ev (fun k => worldmintref01_Has.f k xs x) (xs.contains x) := by
  have : ∀ (d : List Int) (p : Nat), xs.drop p = d → p ≤ xs.length → Ev (fun k => worldmintref01_Has.l0 k xs x (p : Int)) (d.contains x) := by
    intro d
    induction d with
    | nil =>
      intro p hd hp
      have := drop_nil xs p hp hd
      refine Ev.succ ?_
      simp only [worldmintref01_Has.l0, if_neg (show ¬ (p : Int) < (xs.length : Int) by omega)]
      exact Ev.some_
    | cons y d ih =>
      intro p hd hp
      obtain ⟨hx, hd', hlt⟩ := drop_cons xs p y d hd
      have hw : wrap64 ((p : Int) + 1) = ((p + 1 : Nat) : Int) := by rw [w64 _ (by omega) (by omega)]; omega
      have h1 := ih (p + 1) hd' (by omega)
      refine Ev.succ ?_
      simp only [worldmintref01_Has.l0, if_pos (show (p : Int) < (xs.length : Int) by omega), if_pos (show (0 : Int) ≤ (p : Int) by omega), rd_at xs p y hx, hw]
      by_cases c : y = x
      · subst c
        simp only [if_true]
        simpa using Ev.some_
      · simp only [if_neg c]
        have e : (y :: d).contains x = d.contains x := by rw [List.contains_cons, beq_false_of_ne (fun e : x = y => c e.symm), Bool.false_or]
        rw [e]
        exact h1
  exact this xs 0 rfl (Nat.zero_le _)
end Go.Proofs.Ytdbpdkmnnlippaa.H

/- A part replaced; two lists compared. Plain. -/
namespace Go.Proofs.Ytdbpdkmnnlippaa.H
open Go.RowKit Go.Proofs.YtdbpdkmnnlippaaW.PrintWords Go.Proofs.YtdbpdkmnnlippaaW.PrintLast
set_option linter.unusedVariables false
set_option linter.unusedSimpArgs false
end Go.Proofs.Ytdbpdkmnnlippaa.H

/- The reference's feasible choices. -/
namespace Go.Proofs.Ytdbpdkmnnlippaa.H
open Go.RowKit Go.Proofs.YtdbpdkmnnlippaaW.PrintWords Go.Proofs.YtdbpdkmnnlippaaW.PrintLast
set_option linter.unusedVariables false
set_option linter.unusedSimpArgs false
theorem feas_ok (l : List S38) : ∀ (s pre : List Int), (∀ k ∈ s, 0 ≤ k ∧ k < l.length) → s.Pairwise (· < ·) → (∀ p, pre.getLast? = some p → ∀ k ∈ s, p < k) → feasP l pre s = okS (fun _ => true) l pre s
  | [], _, _, _, _ => rfl
  | w :: s, pre, h0, hs, hp => by
    obtain ⟨h1, h2⟩ := List.pairwise_cons.1 hs
    obtain ⟨hw0, hw1⟩ := h0 w (by simp)
    have ih := feas_ok l s (pre ++ [w]) (fun k hk => h0 k (by simp [hk])) h2 (fun p e k hk => by
      rw [List.getLast?_append] at e
      simp at e
      subst e
      exact h1 k hk)
    have key : feasP l pre (w :: s) = (if (pre.any fun v => cf l v w) = true then false else feasP l (pre ++ [w]) s) := by
      simp only [feasP]
      cases hl : pre.getLast? with
      | none => rw [if_neg (by simp; omega)]; rfl
      | some p =>
        have := hp p hl w (by simp)
        rw [if_neg (by simp; omega)]
        rfl
    rw [key, ih]
    simp only [okS, Bool.true_and]
    cases pre.any fun v => cf l v w <;> simp
end Go.Proofs.Ytdbpdkmnnlippaa.H

/- The example of chapter 27. Plain. -/
namespace Go.Proofs.Ytdbpdkmnnlippaa.H
open Go.RowKit Go.Proofs.YtdbpdkmnnlippaaW.PrintWords Go.Proofs.YtdbpdkmnnlippaaW.PrintLast
set_option linter.unusedVariables false
set_option linter.unusedSimpArgs false
/-- Sorting by insertion: the kernel can compute it. -/
def insI (x : Int) : List Int → List Int
  | [] => [x]
  | y :: s => if x ≤ y then x :: y :: s else y :: insI x s
def sortI : List Int → List Int
  | [] => []
  | x :: s => insI x (sortI s)
theorem insI_perm (x : Int) : ∀ s, (insI x s).Perm (x :: s)
  | [] => List.Perm.refl _
  | y :: s => by
    unfold insI
    split
    · exact List.Perm.refl _
    · exact ((insI_perm x s).cons y).trans (List.Perm.swap x y s)
theorem sortI_perm : ∀ s, (sortI s).Perm s
  | [] => List.Perm.refl _
  | x :: s => (insI_perm x _).trans ((sortI_perm s).cons x)
theorem insI_sorted (x : Int) : ∀ s, s.Pairwise (· ≤ ·) → (insI x s).Pairwise (· ≤ ·)
  | [], _ => by simp [insI]
  | y :: s, h => by
    obtain ⟨h1, h2⟩ := List.pairwise_cons.1 h
    unfold insI
    split
    · rename_i hxy
      refine List.pairwise_cons.2 ⟨fun z hz => ?_, h⟩
      rcases List.mem_cons.1 hz with rfl | hz
      · exact hxy
      · have := h1 z hz; omega
    · rename_i hxy
      refine List.pairwise_cons.2 ⟨fun z hz => ?_, insI_sorted x s h2⟩
      rcases List.mem_cons.1 ((insI_perm x s).mem_iff.1 hz) with rfl | hz
      · omega
      · exact h1 z hz
theorem sortI_sorted : ∀ s, (sortI s).Pairwise (· ≤ ·)
  | [] => List.Pairwise.nil
  | x :: s => insI_sorted x _ (sortI_sorted s)
theorem sortI_eq (xs : List Int) : (xs.mergeSort fun x y => decide (x ≤ y)) = sortI xs := by
  have hs : (xs.mergeSort fun x y => decide (x ≤ y)).Pairwise (fun a b => decide (a ≤ b) = true) :=
    List.pairwise_mergeSort (fun a b c h1 h2 => by simp only [decide_eq_true_eq] at *; omega) (fun a b => by simp only [Bool.or_eq_true, decide_eq_true_eq]; omega) xs
  refine List.Perm.eq_of_pairwise (le := fun a b : Int => a ≤ b) (fun a b _ _ h1 h2 => by omega) (hs.imp (fun h => by simpa using h)) (sortI_sorted xs) ((List.mergeSort_perm xs _).trans (sortI_perm xs).symm)
def partsStepI (l : List S38) (st : List Bool × List (List Int)) (i : Nat) : List Bool × List (List Int) :=
  if st.1.getD i true then st else ((visitP l l.length i (st.1, [])).1, st.2 ++ [sortI (visitP l l.length i (st.1, [])).2])
theorem partsI (l : List S38) : partsP l = ((List.range l.length).foldl (partsStepI l) (List.replicate l.length false, [])).2 := by
  have : partsStep l = partsStepI l := by
    funext st i
    unfold partsStep partsStepI
    rw [sortI_eq]
  unfold partsP
  rw [this]
def bids_Parts.fI (l0 : List S38) : Option (List (List Int)) := if l0.length ≤ 1000000 then some ((List.range l0.length).foldl (partsStepI l0) (List.replicate l0.length false, [])).2 else none
theorem parts_fI : bids_Parts.f = bids_Parts.fI := by
  funext l
  unfold bids_Parts.f bids_Parts.fI
  rw [partsI]
def livesL : List S38 := [⟨1, 5, [0, 1]⟩, ⟨1, 5, [0]⟩, ⟨2, 3, [1]⟩, ⟨3, 2, [2]⟩]
theorem lives_parts : bids_Parts.f livesL = some [[0, 1, 2], [3]] := by rw [parts_fI]; kernel_rfl
set_option maxRecDepth 100000 in
theorem lives_ok7 : Ev (fun k => worldmintlaw27_lives.f k) true := by
  refine Ev.of_mono (fun k => worldmintlaw27_lives.mono k) ⟨30, ?_⟩
  have h := lives_parts
  unfold livesL at h
  unfold worldmintlaw27_lives.f
  rw [Option.bind_some, h]
  clear h
  show _ = some true
  kernel_rfl
end Go.Proofs.Ytdbpdkmnnlippaa.H

/- BidsApart: the plain statement. -/
namespace Go.Proofs.Ytdbpdkmnnlippaa.H
open Go.RowKit Go.Proofs.YtdbpdkmnnlippaaW.PrintWords Go.Proofs.YtdbpdkmnnlippaaW.PrintLast
set_option linter.unusedVariables false
set_option linter.unusedSimpArgs false
theorem part_len (l : List S38) (g : List Int) (hg : g ∈ partsP l) : g.length ≤ l.length := by
  obtain ⟨i, _, _, rfl⟩ := part_mem l g hg
  exact sel_len _ _ _
theorem indices_ok (xs : List Int) (n : Nat) (hl : xs.length ≤ 1000) (h : ∀ x ∈ xs, 0 ≤ x ∧ x < n) : Ev (fun k => worldmintlaw27_indices.f k xs (n : Int)) true := by
  have : ∀ (d : List Int) (p : Nat), xs.drop p = d → p ≤ xs.length → Ev (fun k => worldmintlaw27_indices.l0 k xs (n : Int) (p : Int)) true := by
    intro d
    induction d with
    | nil =>
      intro p hd hp
      have := drop_nil xs p hp hd
      have hp1 : ¬ (p : Int) < (xs.length : Int) := by omega
      refine Ev.succ ?_
      simp only [worldmintlaw27_indices.l0, if_neg hp1]
      exact Ev.some_
    | cons y d ih =>
      intro p hd hp
      obtain ⟨hy, hd', hlt⟩ := drop_cons xs p y d hd
      obtain ⟨hy0, hy1⟩ := h y (List.mem_of_getElem? hy)
      have hp1 : (p : Int) < (xs.length : Int) := by omega
      have hp0 : (0 : Int) ≤ (p : Int) := by omega
      have hwp : wrap64 ((p : Int) + 1) = ((p + 1 : Nat) : Int) := by rw [w64 _ (by omega) (by omega)]; omega
      have h1 : ¬ y < 0 := by omega
      have h2 : ¬ y ≥ (n : Int) := by omega
      refine Ev.succ ?_
      simp only [worldmintlaw27_indices.l0, if_pos hp1, if_pos hp0, rd_at xs p y hy, if_neg h1, if_neg h2, hwp]
      exact ih (p + 1) hd' (by omega)
  exact this xs 0 rfl (Nat.zero_le _)
/-- Does a bid of one group conflict with one of another? -/
theorem touch_ok (l : List S38) (xs ys : List Int) (hx : xs.length ≤ 1000) (hy : ys.length ≤ 1000) (hxr : ∀ x ∈ xs, 0 ≤ x ∧ x < l.length) (hyr : ∀ y ∈ ys, 0 ≤ y ∧ y < l.length) :
    Ev (fun k => worldmintlaw27_touch.f k l xs ys) (xs.any fun x => ys.any fun y => cf l x y) := by
  have h1 : ∀ (x : Int) (p : Nat), xs[p]? = some x → ∀ r : Bool, Ev (fun k => worldmintlaw27_touch.l0 k l xs ys ((p + 1 : Nat) : Int)) r → ∀ (d : List Int) (q : Nat), ys.drop q = d → q ≤ ys.length →
      Ev (fun k => worldmintlaw27_touch.l1 k l xs ys (p : Int) (q : Int)) ((d.any fun y => cf l x y) || r) := by
    intro x p hxp r hr d
    have hpl : p < xs.length := by
      rcases Nat.lt_or_ge p xs.length with h | h
      · exact h
      · rw [List.getElem?_eq_none h] at hxp; cases hxp
    obtain ⟨hx0, hx1⟩ := hxr x (List.mem_of_getElem? hxp)
    have hp1 : (p : Int) < (xs.length : Int) := by omega
    have hp0 : (0 : Int) ≤ (p : Int) := by omega
    have hwp : wrap64 ((p : Int) + 1) = ((p + 1 : Nat) : Int) := by rw [w64 _ (by omega) (by omega)]; omega
    induction d with
    | nil =>
      intro q hd hq
      have := drop_nil ys q hq hd
      have hq1 : ¬ (q : Int) < (ys.length : Int) := by omega
      refine Ev.succ ?_
      simp only [worldmintlaw27_touch.l1, if_neg hq1, hwp, List.any_nil, Bool.false_or]
      exact hr
    | cons y d ih =>
      intro q hd hq
      obtain ⟨hyq, hd', hlt⟩ := drop_cons ys q y d hd
      obtain ⟨hy0, hy1⟩ := hyr y (List.mem_of_getElem? hyq)
      have hq1 : (q : Int) < (ys.length : Int) := by omega
      have hq0 : (0 : Int) ≤ (q : Int) := by omega
      have hwq : wrap64 ((q : Int) + 1) = ((q + 1 : Nat) : Int) := by rw [w64 _ (by omega) (by omega)]; omega
      have hih := ih (q + 1) hd' (by omega)
      have hcf : conf ⟨(rd_T38 l x).f0, (rd_T38 l x).f1, (rd_T38 l x).f2⟩ ⟨(rd_T38 l y).f0, (rd_T38 l y).f1, (rd_T38 l y).f2⟩ = cf l x y := rfl
      refine Ev.succ ?_
      simp only [worldmintlaw27_touch.l1, if_pos hq1, if_pos hp0, if_pos hp1, rd_at xs p x hxp, if_pos hx0, if_pos hx1, if_pos hq0, rd_at ys q y hyq, if_pos hy0, if_pos hy1, bids_Conflict.f, Option.bind_some, hcf, hwq, List.any_cons]
      cases cf l x y
      · simp only [Bool.false_eq_true, if_false, Bool.false_or]
        exact hih
      · simp only [if_true, Bool.true_or]
        exact Ev.some_
  have h0 : ∀ (d : List Int) (p : Nat), xs.drop p = d → p ≤ xs.length → Ev (fun k => worldmintlaw27_touch.l0 k l xs ys (p : Int)) (d.any fun x => ys.any fun y => cf l x y) := by
    intro d
    induction d with
    | nil =>
      intro p hd hp
      have := drop_nil xs p hp hd
      have hp1 : ¬ (p : Int) < (xs.length : Int) := by omega
      refine Ev.succ ?_
      simp only [worldmintlaw27_touch.l0, if_neg hp1, List.any_nil]
      exact Ev.some_
    | cons x d ih =>
      intro p hd hp
      obtain ⟨hxp, hd', hlt⟩ := drop_cons xs p x d hd
      have hp1 : (p : Int) < (xs.length : Int) := by omega
      refine Ev.succ ?_
      simp only [worldmintlaw27_touch.l0, if_pos hp1, List.any_cons]
      exact h1 x p hxp _ (ih (p + 1) hd' (by omega)) ys 0 rfl (Nat.zero_le _)
  exact h0 xs 0 rfl (Nat.zero_le _)
/-! ### what is true of the groups -/
theorem parts_touch (l : List S38) (i j : Nat) (hi : i < (partsP l).length) (hj : j < (partsP l).length) (hij : i ≠ j) : (((partsP l).getD i []).any fun x => ((partsP l).getD j []).any fun y => cf l x y) = false := by
  have hgi : (partsP l).getD i [] = (partsP l)[i] := by simp [List.getD, hi]
  have hgj : (partsP l).getD j [] = (partsP l)[j] := by simp [List.getD, hj]
  rw [hgi, hgj, List.any_eq_false]
  intro x hx
  rw [Bool.not_eq_true, List.any_eq_false]
  intro y hy
  rw [Bool.not_eq_true]
  have hri := part_range l _ (List.getElem_mem hi) x hx
  have hrj := part_range l _ (List.getElem_mem hj) y hy
  have hdis : ¬ y ∈ (partsP l)[i] := by
    intro hy2
    rcases Nat.lt_or_gt_of_ne hij with h | h
    · exact List.pairwise_iff_getElem.1 (parts_disjoint l) i j hi hj h y hy2 hy
    · exact List.pairwise_iff_getElem.1 (parts_disjoint l) j i hj hi h y hy hy2
  have := part_apart l _ (List.getElem_mem hi) x.toNat y.toNat (by omega) (by omega) (by rw [Int.toNat_of_nonneg hri.1]; exact hx) (by rw [Int.toNat_of_nonneg hrj.1]; exact hdis)
  exact this
/-- A group falls in no two parts that do not touch. -/
theorem part_cut (l : List S38) (g : List Int) (hg : g ∈ partsP l) (c : Nat) (h0 : 0 < c) (h1 : c < g.length) : ((g.take c).any fun x => (g.drop c).any fun y => cf l x y) = true := by
  rw [← Bool.not_eq_false]
  intro hno
  rw [List.any_eq_false] at hno
  have hno' : ∀ x ∈ g.take c, ∀ y ∈ g.drop c, cf l x y = false := by
    intro x hx y hy
    have := hno x hx
    rw [Bool.not_eq_true, List.any_eq_false] at this
    simpa using this y hy
  have hrange := part_range l g hg
  have happ : g.take c ++ g.drop c = g := List.take_append_drop c g
  have hrise := part_rise l g hg
  obtain ⟨i, hi, hmin, rfl⟩ := part_mem l g hg
  -- a place of the first half, a place of the second
  obtain ⟨a, ha⟩ : ∃ a, a ∈ (compP l i).take c := List.exists_mem_of_ne_nil _ (by intro e; have := congrArg List.length e; rw [List.length_take, List.length_nil] at this; omega)
  obtain ⟨b, hb⟩ : ∃ b, b ∈ (compP l i).drop c := List.exists_mem_of_ne_nil _ (by intro e; have := congrArg List.length e; rw [List.length_drop, List.length_nil] at this; omega)
  obtain ⟨ka, hka, hca, rfl⟩ := (mem_comp l i a).1 (List.mem_of_mem_take ha)
  obtain ⟨kb, hkb, hcb, rfl⟩ := (mem_comp l i b).1 (List.mem_of_mem_drop hb)
  have hconn : Conn l ka kb := hca.symm.trans hcb
  have hin : (kb : Int) ∈ (compP l i).take c := by
    refine hconn (fun k => (k : Int) ∈ (compP l i).take c) ha (fun x y hx hy hmx hxy => ?_)
    have hmy : (y : Int) ∈ compP l i := by
      obtain ⟨k, hk, hck, e⟩ := (mem_comp l i _).1 (List.mem_of_mem_take hmx)
      have : x = k := by omega
      subst this
      exact (mem_comp l i _).2 ⟨y, hy, hck.trans (Conn.one hx hy hxy), rfl⟩
    rw [← happ, List.mem_append] at hmy
    rcases hmy with h | h
    · exact h
    · have := hno' _ hmx _ h
      rw [cf_cj] at this
      rw [this] at hxy
      cases hxy
  -- no place lies in both halves
  rw [← happ] at hrise
  have := (List.pairwise_append.1 hrise).2.2 _ hin _ hb
  omega
theorem feas_split (l : List S38) (win : List Int) (hw : ∀ k ∈ win, 0 ≤ k ∧ k < l.length) (hr : win.Pairwise (· < ·)) :
    ((partsP l).all fun g => okS (fun _ => true) l [] (win.filter fun k => g.contains k)) = okS (fun _ => true) l [] win := by
  rw [Bool.eq_iff_iff, List.all_eq_true]
  constructor
  · intro h
    rw [ok_of_pairs]
    refine ⟨fun _ _ => rfl, by simp, ?_⟩
    refine hr.imp_of_mem (fun {a b} ha hb hab => ?_)
    obtain ⟨a0, a1⟩ := hw a ha
    obtain ⟨b0, b1⟩ := hw b hb
    obtain ⟨g, hg, hag⟩ := parts_cover l a.toNat (by omega)
    rw [Int.toNat_of_nonneg a0] at hag
    by_cases hbg : b ∈ g
    · have := (ok_of_pairs _ l _ []).1 (h g hg)
      have hp := this.2.2
      have ha' : a ∈ win.filter fun k => g.contains k := List.mem_filter.2 ⟨ha, by simpa using hag⟩
      have hb' : b ∈ win.filter fun k => g.contains k := List.mem_filter.2 ⟨hb, by simpa using hbg⟩
      have hs := hr.filter (fun k => g.contains k)
      generalize win.filter (fun k => g.contains k) = s at *
      clear this h
      induction s with
      | nil => simp at ha'
      | cons x s ih =>
        obtain ⟨p1, p2⟩ := List.pairwise_cons.1 hp
        obtain ⟨s1, s2⟩ := List.pairwise_cons.1 hs
        rcases List.mem_cons.1 ha' with e1 | m1
        · rcases List.mem_cons.1 hb' with e2 | m2
          · omega
          · rw [e1]; exact p1 b m2
        · rcases List.mem_cons.1 hb' with e2 | m2
          · have := s1 a m1; omega
          · exact ih p2 m1 m2 s2
    · have := part_apart l g hg a.toNat b.toNat (by omega) (by omega) (by rw [Int.toNat_of_nonneg a0]; exact hag) (by rw [Int.toNat_of_nonneg b0]; exact hbg)
      exact this
  · intro h g _
    obtain ⟨_, _, h3⟩ := (ok_of_pairs _ l _ []).1 h
    exact (ok_of_pairs _ l _ []).2 ⟨fun _ _ => rfl, by simp, h3.filter _⟩
/-! ### the loops -/
section
variable {l : List S38} {P : List (List Int)} {win : List Int}
/-- In how many groups a place is. -/
theorem ba_l6 (hP : P.length ≤ 1000) (hg : ∀ g ∈ P, g.length ≤ 1000) (count : Int) (feas : Bool) (i : Nat) (r : Bool) (hnext : Ev (fun k => worldmintlaw27_BidsApart.l5 k l P win count feas (wrap64 ((i : Int) + 1))) r) : ∀ (d : List (List Int)) (p : Nat) (found : Nat), P.drop p = d → p ≤ P.length → found ≤ p →
    found + (d.filter fun g => g.contains (i : Int)).length = 1 → Ev (fun k => worldmintlaw27_BidsApart.l6 k l P win count feas (i : Int) (found : Int) (p : Int)) r := by
  intro d
  induction d with
  | nil =>
    intro p found hd hp hf h
    have := drop_nil P p hp hd
    have hp1 : ¬ (p : Int) < (P.length : Int) := by omega
    have hf1 : (found : Int) = 1 := by
      rw [List.filter_nil, List.length_nil] at h
      omega
    refine Ev.succ ?_
    simp only [worldmintlaw27_BidsApart.l6, if_neg hp1, if_pos hf1]
    exact hnext
  | cons g d ih =>
    intro p found hd hp hf h
    obtain ⟨hx, hd', hlt⟩ := drop_cons P p g d hd
    have hp1 : (p : Int) < (P.length : Int) := by omega
    have hp0 : (0 : Int) ≤ (p : Int) := by omega
    have hwp : wrap64 ((p : Int) + 1) = ((p + 1 : Nat) : Int) := by rw [w64 _ (by omega) (by omega)]; omega
    have hwf : wrap64 ((found : Int) + 1) = ((found + 1 : Nat) : Int) := by rw [w64 _ (by omega) (by omega)]; omega
    have hrL : rd_L1 P (p : Int) = g := by
      show P.getD p [] = g
      rw [List.getD, hx]; rfl
    have hgl := hg g (List.mem_of_getElem? hx)
    rw [List.filter_cons] at h
    refine Ev.succ ?_
    simp only [worldmintlaw27_BidsApart.l6, if_pos hp1, if_pos hp0, hrL, hwp, hwf]
    refine Ev.bind (has_ok g (i : Int) (by omega)) ?_
    cases hc : g.contains (i : Int)
    · rw [hc, if_neg (by simp)] at h
      simp only [Bool.false_eq_true, if_false]
      exact ih (p + 1) found hd' (by omega) (by omega) h
    · rw [hc, if_pos rfl, List.length_cons] at h
      simp only [if_true]
      exact ih (p + 1) (found + 1) hd' (by omega) (by omega) (by omega)
/-- Where no two parts of a group lie apart. -/
theorem ba_l4 (hl : l.length ≤ 1000) (count : Int) (feas : Bool) (i : Nat) (hi : i < P.length) (g : List Int) (hg : P.getD i [] = g) (hgl : g.length ≤ 1000) (hgr : ∀ x ∈ g, 0 ≤ x ∧ x < l.length) (hcut : ∀ c, 0 < c → c < g.length → ((g.take c).any fun x => (g.drop c).any fun y => cf l x y) = true) (r : Bool)
    (hnext : Ev (fun k => worldmintlaw27_BidsApart.l1 k l P win count feas (wrap64 ((i : Int) + 1))) r) : ∀ (d c : Nat), g.length - c = d → 1 ≤ c → Ev (fun k => worldmintlaw27_BidsApart.l4 k l P win count feas (i : Int) (c : Int)) r := by
  have hrL : rd_L1 P (i : Int) = g := hg
  have hi0 : (0 : Int) ≤ (i : Int) := by omega
  have hi1 : (i : Int) < (P.length : Int) := by omega
  intro d
  induction d with
  | zero =>
    intro c hd hc
    have hc1 : ¬ (c : Int) < (g.length : Int) := by omega
    refine Ev.succ ?_
    simp only [worldmintlaw27_BidsApart.l4, if_pos hi0, if_pos hi1, hrL, if_neg hc1]
    exact hnext
  | succ d ih =>
    intro c hd hc
    have hc1 : (c : Int) < (g.length : Int) := by omega
    have hc0 : (0 : Int) ≤ (c : Int) := by omega
    have hc2 : (c : Int) ≤ (g.length : Int) := by omega
    have hwc : wrap64 ((c : Int) + 1) = ((c + 1 : Nat) : Int) := by rw [w64 _ (by omega) (by omega)]; omega
    refine Ev.succ ?_
    simp only [worldmintlaw27_BidsApart.l4, if_pos hi0, if_pos hi1, hrL, if_pos hc1, if_pos hc0, if_pos hc2, Int.toNat_natCast, hwc]
    refine Ev.bind (touch_ok l (g.take c) (g.drop c) (by simp; omega) (by simp; omega) (fun x hx => hgr x (List.mem_of_mem_take hx)) (fun y hy => hgr y (List.mem_of_mem_drop hy))) ?_
    rw [hcut c (by omega) (by omega)]
    simp only [if_true]
    exact ih (c + 1) (by omega) (by omega)
/-- No other group touches. -/
theorem ba_l3 (hP : P.length ≤ 1000) (hPg : ∀ g ∈ P, g.length ≤ 1000 ∧ ∀ x ∈ g, 0 ≤ x ∧ x < l.length) (count : Int) (feas : Bool) (i : Nat) (hi : i < P.length) (ht : ∀ j, j < P.length → i ≠ j → ((P.getD i []).any fun x => (P.getD j []).any fun y => cf l x y) = false) (r : Bool)
    (hnext : Ev (fun k => worldmintlaw27_BidsApart.l4 k l P win count feas (i : Int) 1) r) : ∀ (d j : Nat), j + d = P.length → Ev (fun k => worldmintlaw27_BidsApart.l3 k l P win count feas (i : Int) (j : Int)) r := by
  have hi0 : (0 : Int) ≤ (i : Int) := by omega
  have hi1 : (i : Int) < (P.length : Int) := by omega
  have hrL : rd_L1 P (i : Int) = P.getD i [] := rfl
  have hmi : P.getD i [] ∈ P := by simp [List.getD, hi]
  intro d
  induction d with
  | zero =>
    intro j hj
    have hj1 : ¬ (j : Int) < (P.length : Int) := by omega
    refine Ev.succ ?_
    simp only [worldmintlaw27_BidsApart.l3, if_neg hj1]
    exact hnext
  | succ d ih =>
    intro j hj
    have hj1 : (j : Int) < (P.length : Int) := by omega
    have hj0 : (0 : Int) ≤ (j : Int) := by omega
    have hwj : wrap64 ((j : Int) + 1) = ((j + 1 : Nat) : Int) := by rw [w64 _ (by omega) (by omega)]; omega
    have hrJ : rd_L1 P (j : Int) = P.getD j [] := rfl
    have hmj : P.getD j [] ∈ P := by simp [List.getD, show j < P.length by omega]
    refine Ev.succ ?_
    simp only [worldmintlaw27_BidsApart.l3, if_pos hj1, hwj]
    by_cases e : (j : Int) = (i : Int)
    · simp only [if_pos e]
      exact ih (j + 1) (by omega)
    · simp only [if_neg e, if_pos hi0, if_pos hi1, if_pos hj0, hrL, hrJ]
      refine Ev.bind (touch_ok l _ _ (hPg _ hmi).1 (hPg _ hmj).1 (hPg _ hmi).2 (hPg _ hmj).2) ?_
      rw [ht j (by omega) (by omega)]
      simp only [Bool.false_eq_true, if_false]
      exact ih (j + 1) (by omega)
/-- The choice's bids of a group. -/
theorem ba_l2 (hP : P.length ≤ 1000) (hw : win.length ≤ 1000) (hwr : ∀ k ∈ win, 0 ≤ k ∧ k < l.length) (hws : win.Pairwise (· < ·)) (count : Int) (feas : Bool) (i : Nat) (hi : i < P.length) (g : List Int) (hg : P.getD i [] = g) (hgl : g.length ≤ 1000) (r : Bool)
    (hnext : Ev (fun k => worldmintlaw27_BidsApart.j3 k l P win count (feas && okS (fun _ => true) l [] (win.filter fun k => g.contains k)) (i : Int)) r) : ∀ (d : List Int) (p : Nat), win.drop p = d → p ≤ win.length →
    Ev (fun k => worldmintlaw27_BidsApart.l2 k l P win count feas (i : Int) ((win.take p).filter fun k => g.contains k) (p : Int)) r := by
  have hrL : rd_L1 P (i : Int) = g := hg
  have hi0 : (0 : Int) ≤ (i : Int) := by omega
  have hi1 : (i : Int) < (P.length : Int) := by omega
  intro d
  induction d with
  | nil =>
    intro p hd hp
    have := drop_nil win p hp hd
    subst this
    have hp1 : ¬ (win.length : Int) < (win.length : Int) := by omega
    have hfe := feas_ok l (win.filter fun k => g.contains k) [] (fun k hk => hwr k (List.mem_filter.1 hk).1) (hws.filter _) (by simp)
    rw [List.take_length]
    refine Ev.succ ?_
    simp only [worldmintlaw27_BidsApart.l2, if_neg hp1, bids_Feasible.f, hfe, Option.bind_some]
    cases feas
    · simp only [Bool.false_eq_true, if_false]
      simpa using hnext
    · simp only [if_true]
      simpa using hnext
  | cons y d ih =>
    intro p hd hp
    obtain ⟨hy, hd', hlt⟩ := drop_cons win p y d hd
    have hp1 : (p : Int) < (win.length : Int) := by omega
    have hp0 : (0 : Int) ≤ (p : Int) := by omega
    have hwp : wrap64 ((p : Int) + 1) = ((p + 1 : Nat) : Int) := by rw [w64 _ (by omega) (by omega)]; omega
    have hlen : ((win.take p).filter fun k => g.contains k).length < 17592186044416 := by
      have := List.length_filter_le (fun k => g.contains k) (win.take p)
      simp only [List.length_take] at this
      omega
    have hgy : win[p] = y := by
      have := List.getElem?_eq_getElem hlt
      rw [hy] at this
      injection this with this
      exact this.symm
    have hih := ih (p + 1) hd' (by omega)
    rw [List.take_succ_eq_append_getElem hlt, List.filter_append, hgy] at hih
    refine Ev.succ ?_
    simp only [worldmintlaw27_BidsApart.l2, if_pos hp1, if_pos hi0, if_pos hi1, if_pos hp0, rd_at win p y hy, hrL, hwp]
    refine Ev.bind (has_ok g y (by omega)) ?_
    cases hc : g.contains y
    · simp only [Bool.false_eq_true, if_false]
      have : List.filter (fun k => g.contains k) [y] = [] := by simp only [List.filter_cons, hc]; rfl
      rw [this, List.append_nil] at hih
      exact hih
    · simp only [if_true, if_pos hlen]
      have : List.filter (fun k => g.contains k) [y] = [y] := by simp only [List.filter_cons, hc]; rfl
      rw [this] at hih
      exact hih
end
/-- How many places the groups have. -/
theorem parts_count (l : List S38) (k : Nat) (hk : k < l.length) : ((partsP l).filter fun g => g.contains (k : Int)).length = 1 := by
  obtain ⟨g, hg, hm⟩ := parts_cover l k hk
  have hd := parts_disjoint l
  generalize partsP l = P at *
  induction P with
  | nil => simp at hg
  | cons h P ih =>
    obtain ⟨d1, d2⟩ := List.pairwise_cons.1 hd
    rw [List.filter_cons]
    rcases List.mem_cons.1 hg with rfl | hg
    · have h1 : g.contains (k : Int) = true := by simpa using hm
      rw [if_pos h1]
      have h2 : (P.filter fun g => g.contains (k : Int)) = [] := by
        rw [List.filter_eq_nil_iff]
        intro x hx
        have := d1 x hx _ hm
        simpa using this
      rw [h2]; rfl
    · have h1 : ¬ h.contains (k : Int) = true := by
        intro hc
        exact d1 g hg _ (by simpa using hc) hm
      rw [if_neg h1]
      exact ih hg d2
theorem len_sel (p : Nat → Bool) : ∀ n i, ((sel p n i).length : Int) = sumF (fun k => if p k then 1 else 0) n i
  | 0, _ => rfl
  | n + 1, i => by
    have ih := len_sel p n (i + 1)
    unfold sel sumF
    by_cases h : p i = true
    · rw [if_pos h, if_pos h, ← ih, List.length_cons]; omega
    · rw [if_neg h, if_neg h, ← ih]; omega
theorem sumF_const (c : Int) : ∀ n i, sumF (fun _ => c) n i = n * c
  | 0, _ => by simp [sumF]
  | n + 1, i => by
    unfold sumF
    rw [sumF_const c n (i + 1)]
    have : ((n + 1 : Nat) : Int) * c = (n : Int) * c + c := by rw [Int.natCast_add, Int.add_mul]; simp
    omega
/-- The groups' lengths together. -/
theorem parts_total (l : List S38) : ((partsP l).map fun g => (g.length : Int)).sum = l.length := by
  have h : ∀ P : List (List Int), (∀ g ∈ P, g.Pairwise (· < ·) ∧ ∀ x ∈ g, 0 ≤ x ∧ x < l.length) → (P.map fun g => (g.length : Int)).sum = sumF (fun k => ((P.filter fun g => g.contains (k : Int)).length : Int)) l.length 0 := by
    intro P
    induction P with
    | nil => intro _; simp only [List.map_nil, List.sum_nil, List.filter_nil, List.length_nil]; exact (sumF_zero _ _ _ (fun k _ _ => rfl)).symm
    | cons g P ih =>
      intro h
      obtain ⟨h1, h2⟩ := h g (by simp)
      have h3 := len_sel (fun k => decide ((k : Int) ∈ g)) l.length 0
      rw [← sel_of l.length g h2 h1] at h3
      rw [List.map_cons, List.sum_cons, ih (fun x hx => h x (by simp [hx])), h3, ← sumF_add]
      refine sumF_congr _ _ _ _ (fun k _ _ => ?_)
      rw [List.filter_cons]
      by_cases c : (k : Int) ∈ g
      · rw [if_pos (by simpa using c), if_pos (by simpa using c), List.length_cons]; omega
      · rw [if_neg (by simpa using c), if_neg (by simpa using c)]; omega
  rw [h _ (fun g hg => ⟨part_rise l g hg, part_range l g hg⟩), sumF_congr _ (fun _ => 1) _ _ (fun k _ hk => by rw [parts_count l k (by omega)]; rfl), sumF_const]
  omega
section
variable (l : List S38) (hl : l.length ≤ 10) (win : List Int) (hw : win.length ≤ 1000) (hwr : ∀ k ∈ win, 0 ≤ k ∧ k < l.length) (hws : win.Pairwise (· < ·))
include hl hw hwr hws
omit hw in
theorem ba_l5 (feas : Bool) (hf : feas = okS (fun _ => true) l [] win) : ∀ (d i : Nat), i + d = l.length → Ev (fun k => worldmintlaw27_BidsApart.l5 k l (partsP l) win (l.length : Int) feas (i : Int)) true := by
  have hPl := parts_len l
  have hPg := part_len l
  intro d
  induction d with
  | zero =>
    intro i hi
    have hi1 : ¬ (i : Int) < (l.length : Int) := by omega
    have hfe := feas_ok l win [] hwr hws (by simp)
    refine Ev.succ ?_
    simp only [worldmintlaw27_BidsApart.l5, if_neg hi1, if_true, bids_Feasible.f, hfe, Option.bind_some, hf, beq_self_eq_true]
    exact Ev.bind lives_ok7 Ev.some_
  | succ d ih =>
    intro i hi
    have hi1 : (i : Int) < (l.length : Int) := by omega
    have hwi : wrap64 ((i : Int) + 1) = ((i + 1 : Nat) : Int) := by rw [w64 _ (by omega) (by omega)]; omega
    refine Ev.succ ?_
    simp only [worldmintlaw27_BidsApart.l5, if_pos hi1]
    refine ba_l6 (by omega) (fun g hg => by have := hPg g hg; omega) _ feas i true ?_ (partsP l) 0 0 rfl (Nat.zero_le _) (by omega) (by rw [parts_count l i (by omega)])
    rw [hwi]
    exact ih (i + 1) (by omega)
theorem ba_l1 : ∀ (d : List (List Int)) (i : Nat) (feas : Bool), (partsP l).drop i = d → i ≤ (partsP l).length → feas = (((partsP l).take i).all fun g => okS (fun _ => true) l [] (win.filter fun k => g.contains k)) →
    Ev (fun k => worldmintlaw27_BidsApart.l1 k l (partsP l) win (((partsP l).take i).map fun g => (g.length : Int)).sum feas (i : Int)) true := by
  have hPl := parts_len l
  have hPg := part_len l
  intro d
  induction d with
  | nil =>
    intro i feas hd hi hf
    have := drop_nil (partsP l) i hi hd
    have hi1 : ¬ (i : Int) < ((partsP l).length : Int) := by omega
    rw [this, List.take_length] at hf
    rw [feas_split l win hwr hws] at hf
    refine Ev.succ ?_
    simp only [worldmintlaw27_BidsApart.l1, if_neg hi1]
    rw [this, List.take_length, parts_total]
    exact ba_l5 l hl win hwr hws feas hf l.length 0 (by omega)
  | cons g d ih =>
    intro i feas hd hi hf
    obtain ⟨hx, hd', hlt⟩ := drop_cons (partsP l) i g d hd
    have hgm : g ∈ partsP l := List.mem_of_getElem? hx
    have hgl := hPg g hgm
    have hi1 : (i : Int) < ((partsP l).length : Int) := by omega
    have hi0 : (0 : Int) ≤ (i : Int) := by omega
    have hwi : wrap64 ((i : Int) + 1) = ((i + 1 : Nat) : Int) := by rw [w64 _ (by omega) (by omega)]; omega
    have hgD : (partsP l).getD i [] = g := by rw [List.getD, hx]; rfl
    have hrL : rd_L1 (partsP l) (i : Int) = g := hgD
    have hgi : (partsP l)[i] = g := by
      have := List.getElem?_eq_getElem hlt
      rw [hx] at this
      injection this with this
      exact this.symm
    have hsum : ∀ i, i ≤ (partsP l).length → 0 ≤ (((partsP l).take i).map fun g => (g.length : Int)).sum ∧ (((partsP l).take i).map fun g => (g.length : Int)).sum ≤ i * 10 := by
      intro i
      induction i with
      | zero => intro _; simp
      | succ i ihs =>
        intro hi2
        have h1 := ihs (by omega)
        have hlt2 : i < (partsP l).length := by omega
        have h2 := hPg _ (List.getElem_mem hlt2)
        rw [List.take_succ_eq_append_getElem hlt2, List.map_append, List.sum_append]
        simp only [List.map_cons, List.map_nil, List.sum_cons, List.sum_nil]
        generalize (((partsP l).take i).map fun g => (g.length : Int)).sum = x at *
        clear ih ihs
        omega
    have hs := hsum i (by omega)
    have hih := ih (i + 1) (feas && okS (fun _ => true) l [] (win.filter fun k => g.contains k)) hd' (by omega) (by
      rw [List.take_succ_eq_append_getElem hlt, List.all_append, ← hf, hgi]
      simp)
    rw [List.take_succ_eq_append_getElem hlt, List.map_append, List.sum_append, hgi] at hih
    simp only [List.map_cons, List.map_nil, List.sum_cons, List.sum_nil, Int.add_zero] at hih
    generalize (((partsP l).take i).map fun g => (g.length : Int)).sum = x at *
    have hws2 : wrap64 (x + (g.length : Int)) = x + (g.length : Int) := by
      clear hih ih hsum
      exact w64 _ (by omega) (by omega)
    refine Ev.succ ?_
    simp only [worldmintlaw27_BidsApart.l1, if_pos hi1, if_pos hi0, hrL, hws2]
    refine ba_l2 (by omega) hw hwr hws _ feas i hlt g hgD (by omega) true ?_ win 0 rfl (Nat.zero_le _)
    refine Ev.succ ?_
    simp only [worldmintlaw27_BidsApart.j3]
    refine ba_l3 (by omega) (fun h hh => ⟨by have := hPg h hh; omega, part_range l h hh⟩) _ _ i hlt (fun j hj hij => parts_touch l i j hlt hj hij) true ?_ (partsP l).length 0 (by omega)
    refine ba_l4 (by omega) _ _ i hlt g hgD (by omega) (part_range l g hgm) (fun c h0 h1 => part_cut l g hgm c h0 h1) true ?_ (g.length - 1) 1 rfl (Nat.le_refl _)
    rw [hwi]
    exact hih
theorem ba_l0 : ∀ (d i : Nat), i + d = (partsP l).length → Ev (fun k => worldmintlaw27_BidsApart.l0 k l (partsP l) win 0 true (i : Int)) true := by
  have hPl := parts_len l
  have hPg := part_len l
  intro d
  induction d with
  | zero =>
    intro i hi
    have hi1 : ¬ (i : Int) < ((partsP l).length : Int) := by omega
    have h := ba_l1 l hl win hw hwr hws (partsP l) 0 true rfl (Nat.zero_le _) (by simp)
    refine Ev.succ ?_
    simp only [worldmintlaw27_BidsApart.l0, if_neg hi1]
    simpa using h
  | succ d ih =>
    intro i hi
    have hlt : i < (partsP l).length := by omega
    have hi1 : (i : Int) < ((partsP l).length : Int) := by omega
    have hi0 : (0 : Int) ≤ (i : Int) := by omega
    have hwi : wrap64 ((i : Int) + 1) = ((i + 1 : Nat) : Int) := by rw [w64 _ (by omega) (by omega)]; omega
    have hm : (partsP l).getD i [] ∈ partsP l := by simp [List.getD, hlt]
    have hrL : rd_L1 (partsP l) (i : Int) = (partsP l).getD i [] := rfl
    refine Ev.succ ?_
    simp only [worldmintlaw27_BidsApart.l0, if_pos hi1, if_pos hi0, hrL, hwi]
    refine Ev.bind (indices_ok _ l.length (by have := hPg _ hm; omega) (part_range l _ hm)) ?_
    simp only [if_true]
    exact ih (i + 1) (by omega)
end
theorem wf_wrap (x : Int) : (Lit.int .i64 (wrap64 x)).wf = true := by
  have h : -9223372036854775808 ≤ wrap64 x ∧ wrap64 x ≤ 9223372036854775807 := by unfold wrap64; omega
  simpa [Lit.wf, IntKind.min, IntKind.max, IntKind.signed, IntKind.bits] using h
/-- Whatever the number: some places that rise. -/
theorem choice_some (n : Nat) (hn : n ≤ 100) : ∀ (d i : Nat) (x : Int) (acc : List Int), i + d = n → acc.length ≤ i → (∀ k ∈ acc, 0 ≤ k ∧ k < i) → acc.Pairwise (· < ·) →
    ∃ c, Ev (fun k => worldmintref27_Choice.l0 k x (n : Int) acc (i : Int)) c ∧ c.length ≤ n ∧ (∀ k ∈ c, 0 ≤ k ∧ k < n) ∧ c.Pairwise (· < ·) := by
  intro d
  induction d with
  | zero =>
    intro i x acc hi ha hr hs
    have hi1 : ¬ (i : Int) < (n : Int) := by omega
    refine ⟨acc, Ev.succ ?_, by omega, fun k hk => by have := hr k hk; omega, hs⟩
    simp only [worldmintref27_Choice.l0, if_neg hi1]
    exact Ev.some_
  | succ d ih =>
    intro i x acc hi ha hr hs
    have hi1 : (i : Int) < (n : Int) := by omega
    have hw : wrap64 ((i : Int) + 1) = ((i + 1 : Nat) : Int) := by rw [w64 _ (by omega) (by omega)]; omega
    have hal : acc.length < 17592186044416 := by omega
    by_cases c : Int.tmod x 2 = 1
    · obtain ⟨r, h1, h2⟩ := ih (i + 1) (wrap64 (Int.tdiv x 2)) (acc ++ [(i : Int)]) (by omega) (by simp; omega) (fun k hk => by
        rcases List.mem_append.1 hk with h | h
        · have := hr k h; omega
        · rw [List.mem_singleton] at h; omega) (by
        rw [List.pairwise_append]
        refine ⟨hs, by simp, fun a ha b hb => ?_⟩
        rw [List.mem_singleton] at hb
        have := hr a ha
        omega)
      refine ⟨r, Ev.succ ?_, h2⟩
      simp only [worldmintref27_Choice.l0, if_pos hi1, if_pos c, if_pos hal, hw]
      exact h1
    · obtain ⟨r, h1, h2⟩ := ih (i + 1) (wrap64 (Int.tdiv x 2)) acc (by omega) (by omega) (fun k hk => by have := hr k hk; omega) hs
      refine ⟨r, Ev.succ ?_, h2⟩
      simp only [worldmintref27_Choice.l0, if_pos hi1, if_neg c, hw]
      exact h1
theorem BidsApart_pure : worldmintlaw27_BidsApart.Pure := by
  intro a0 l1 a2 w0 _ _ w1 w2
  obtain ⟨t, ht, ht0, ht1⟩ := lots_ok a0 w0
  obtain ⟨L, hL, hLl, hLg⟩ := bids_ok t l1 w1 10 ht0 ht1 (by omega) (by omega)
  obtain ⟨u, hu, hu0, hu1⟩ := around_ok a2 1024 w2 (by omega)
  obtain ⟨v, hv, hv0, hv1⟩ := around_ok (wrap64 (Int.tdiv a2 1024)) 1024 (wf_wrap _) (by omega)
  have hgiven := given_ok L (by omega)
  have hlen : (L.map cv).length = L.length := List.length_map ..
  generalize L.map cv = l at *
  have hl10 : l.length ≤ 10 := by omega
  have hparts : bids_Parts.f l = some (partsP l) := by unfold bids_Parts.f; rw [if_pos (by omega)]
  obtain ⟨c, hc, hcl, hcr, hcs⟩ := choice_some l.length (by omega) l.length 0 (Go.bits .and .i64 u v) [] (by omega) (by simp) (by simp) List.Pairwise.nil
  have h0 := ba_l0 l hl10 c (by omega) hcr hcs (partsP l).length 0 (by omega)
  refine Ev.ex ?_
  unfold worldmintlaw27_BidsApart.f
  simp only [ht, Option.bind_some]
  refine Ev.bind hL ?_
  refine Ev.bind hgiven ?_
  simp only [hparts, hu, hv, Option.bind_some]
  refine Ev.bind (a := c) hc ?_
  exact h0
end Go.Proofs.Ytdbpdkmnnlippaa.H
namespace Go.Proofs.Ytdbpdkmnnlippaa.Pure
theorem BidsApart : H.worldmintlaw27_BidsApart.Pure := H.BidsApart_pure
end Go.Proofs.Ytdbpdkmnnlippaa.Pure
