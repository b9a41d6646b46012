/- Texts of this claim, one behind the other. -/
import Derived.Test.YtdbpdkmnnlippaaMBidsValidd
import Derived.Test.YtdbpdkmnnlippaaMBidsValidb
import Derived.Test.YtdbpdkmnnlippaaMBidsValide
import Derived.Test.YtdbpdkmnnlippaaMBidsValidc

/- What a printed function computes with rounds enough: its laws; the generators of the reference. -/
namespace Go.Proofs.Ytdbpdkmnnlippaa.H
open Go.RowKit Go.Proofs.YtdbpdkmnnlippaaW.PrintWords Go.Proofs.YtdbpdkmnnlippaaW.PrintLast
set_option linter.unusedVariables false
set_option linter.unusedSimpArgs false
/-- With rounds enough, f tells a. -/
def Ev {α : Type} (f : Nat → Option α) (a : α) : Prop := ∃ K, ∀ k, K ≤ k → f k = some a
section
variable {α β : Type} {f : Nat → Option α} {a : α}
theorem Ev.succ (h : Ev (fun k => f (k + 1)) a) : Ev f a := by
  obtain ⟨K, h⟩ := h
  refine ⟨K + 1, fun k hk => ?_⟩
  obtain ⟨j, rfl⟩ : ∃ j, k = j + 1 := ⟨k - 1, by omega⟩
  exact h j (by omega)
theorem Ev.bind {g : Nat → α → Option β} {b : β} (hf : Ev f a) (hg : Ev (fun k => g k a) b) : Ev (fun k => (f k).bind (g k)) b := by
  obtain ⟨K, h⟩ := hf
  obtain ⟨K2, h2⟩ := hg
  exact ⟨max K K2, fun k hk => by
    show (f k).bind (g k) = some b
    rw [h k (by omega)]
    exact h2 k (by omega)⟩
theorem Ev.some_ : Ev (fun _ => some a) a := ⟨0, fun _ _ => rfl⟩
theorem Ev.ex (h : Ev f a) : ∃ k, f k = some a := by
  obtain ⟨K, h⟩ := h
  exact ⟨K, h K (Nat.le_refl _)⟩
theorem Ev.of_mono (hm : ∀ k, LeO (f k) (f (k + 1))) (h : ∃ k, f k = some a) : Ev f a := by
  obtain ⟨K, h⟩ := h
  refine ⟨K, fun k hk => ?_⟩
  obtain ⟨d, rfl⟩ := Nat.exists_eq_add_of_le hk
  clear hk
  induction d with
  | zero => exact h
  | succ d ih => exact hm (K + d) _ ih
end
theorem wf_bounds (n : Int) (h : (Lit.int .i64 n).wf = true) : -9223372036854775808 ≤ n ∧ n ≤ 9223372036854775807 := by
  simpa [Lit.wf, IntKind.min, IntKind.max, IntKind.signed, IntKind.bits] using h
theorem w64 (x : Int) (h0 : -9223372036854775808 ≤ x) (h1 : x ≤ 9223372036854775807) : wrap64 x = x := by
  unfold wrap64
  omega
theorem around_ok (n most : Int) (hn : (Lit.int .i64 n).wf = true) (hm : 0 < most) : ∃ r, worldmintref01_Around.f n most = some r ∧ 0 ≤ r ∧ r < most := by
  have hb := wf_bounds n hn
  unfold worldmintref01_Around.f
  by_cases h : n < 0
  · rw [if_pos h, if_neg (by omega), w64 (n + 1) (by omega) (by omega), w64 (-(n + 1)) (by omega) (by omega)]
    exact ⟨_, rfl, Int.tmod_nonneg _ (by omega), Int.tmod_lt_of_pos _ hm⟩
  · rw [if_neg h, if_neg (by omega)]
    exact ⟨_, rfl, Int.tmod_nonneg _ (by omega), Int.tmod_lt_of_pos _ hm⟩
theorem lots_ok (n : Int) (hn : (Lit.int .i64 n).wf = true) : ∃ r, worldmintref27_Lots.f n = some r ∧ 1 ≤ r ∧ r ≤ 8 := by
  obtain ⟨r, h, h0, h1⟩ := around_ok n 8 hn (by omega)
  unfold worldmintref27_Lots.f
  rw [h, Option.bind_some, w64 _ (by omega) (by omega)]
  exact ⟨_, rfl, by omega, by omega⟩
theorem pick_ok (l : List Int) (i most : Int) (hl : ∀ x ∈ l, (Lit.int .i64 x).wf = true) (hm : 0 < most) : ∃ r, worldmintref01_Pick.f l i most = some r ∧ 0 ≤ r ∧ r < most := by
  unfold worldmintref01_Pick.f
  by_cases h : i < 0
  · rw [if_pos h]; exact ⟨0, rfl, by omega, hm⟩
  · rw [if_neg h]
    by_cases h2 : i ≥ (l.length : Int)
    · rw [if_pos h2]; exact ⟨0, rfl, by omega, hm⟩
    · rw [if_neg h2, if_pos (by omega), if_pos (by omega)]
      have hm2 : rd l i ∈ l := by
        have : i.toNat < l.length := by omega
        simp [rd, List.getD, this]
      obtain ⟨r, h3, h4, h5⟩ := around_ok (rd l i) most (hl _ hm2) hm
      exact ⟨r, by rw [h3]; rfl, h4, h5⟩
/-- A bid as the reference draws it. -/
def GoodBid (n : Int) (b : S40) : Prop := 1 ≤ b.f0 ∧ b.f0 ≤ 6 ∧ 1 ≤ b.f1 ∧ b.f1 ≤ 450 ∧ b.f2.length ≠ 0 ∧ lotsOk n (-1) b.f2 = true ∧ b.f2.length ≤ 8
theorem lotsOk_snoc (n j : Int) (hj : j < n) : ∀ (ks : List Int) (last : Int), lotsOk n last ks = true → (∀ k ∈ ks, k < j) → last < j → lotsOk n last (ks ++ [j]) = true
  | [], last, _, _, h => by
    simp only [List.nil_append, lotsOk]
    simp [hj, h]
  | k :: ks, last, h, hk, _ => by
    simp only [List.cons_append, lotsOk] at h ⊢
    split at h
    · simp at h
    · rename_i hc
      rw [if_neg hc]
      exact lotsOk_snoc n j hj ks k h (fun x hx => hk x (by simp [hx])) (hk k (by simp))
set_option maxHeartbeats 1000000 in
theorem bids_l1 (n : Int) (l : List Int) (most : Int) (x7 : List S40) (x8 f0 f1 : Int) (hn1 : 1 ≤ n) (hn8 : n ≤ 8) (hx7 : x7.length < 3518437208883) (L : List S40)
    (hnext : ∀ ks : List Int, ks.length ≠ 0 → lotsOk n (-1) ks = true → ks.length ≤ 8 → ∃ L, Ev (fun k => worldmintref27_Bids.l0 k n l most (x7 ++ [⟨f0, f1, ks⟩]) (wrap64 (x8 + 1))) L ∧ (L.length : Int) ≤ most ∧ ∀ b ∈ L, GoodBid n b) :
    ∀ (d : Nat) (j : Int) (bs : Int) (ks : List Int), (n - j).toNat = d → 0 ≤ j → j ≤ n → lotsOk n (-1) ks = true → (∀ k ∈ ks, k < j) → (ks.length : Int) ≤ j → (j = n → ks.length ≠ 0) →
    ∃ L, Ev (fun k => worldmintref27_Bids.l1 k n l most x7 x8 bs j f0 f1 ks) L ∧ (L.length : Int) ≤ most ∧ ∀ b ∈ L, GoodBid n b
  | 0, j, bs, ks, hd, h0, hjn, hk, hkj, hkl, hne => by
    obtain ⟨L, h1, h2⟩ := hnext ks (hne (by omega)) hk (by omega)
    refine ⟨L, Ev.succ ?_, h2⟩
    simp only [worldmintref27_Bids.l1]
    simp only [if_neg (show ¬ j < n by omega), if_pos hx7]
    exact h1
  | d + 1, j, bs, ks, hd, h0, hjn, hk, hkj, hkl, hne => by
    have hw : wrap64 (j + 1) = j + 1 := w64 _ (by omega) (by omega)
    have hw2 : wrap64 (n - 1) = n - 1 := w64 _ (by omega) (by omega)
    have happ := fun bs' => bids_l1 n l most x7 x8 f0 f1 hn1 hn8 hx7 L hnext d (j + 1) bs' (ks ++ [j]) (by omega) (by omega) (by omega) (lotsOk_snoc n j (by omega) ks (-1) hk hkj (by omega)) (fun k hk' => by
      rcases List.mem_append.1 hk' with h | h
      · have := hkj k h; omega
      · simp at h; omega) (by simp; omega) (fun _ => by simp)
    have hnot := fun bs' (hh : j + 1 = n → ks.length ≠ 0) => bids_l1 n l most x7 x8 f0 f1 hn1 hn8 hx7 L hnext d (j + 1) bs' ks (by omega) (by omega) (by omega) hk (fun k hk' => by have := hkj k hk'; omega) (by omega) hh
    by_cases c1 : Int.tmod bs 2 = 1
    · obtain ⟨L, h1, h2⟩ := happ (wrap64 (Int.tdiv bs 2))
      refine ⟨L, Ev.succ ?_, h2⟩
      simp only [worldmintref27_Bids.l1]
      simp only [if_pos (show j < n by omega), if_pos c1, if_pos (show ks.length < 17592186044416 by omega), hw]
      exact h1
    · by_cases c2 : j = n - 1
      · by_cases c3 : (ks.length : Int) = 0
        · obtain ⟨L, h1, h2⟩ := happ (wrap64 (Int.tdiv bs 2))
          refine ⟨L, Ev.succ ?_, h2⟩
          simp only [worldmintref27_Bids.l1]
          simp only [if_pos (show j < n by omega), if_neg c1, hw2, if_pos c2, if_pos c3, if_pos (show ks.length < 17592186044416 by omega), hw]
          exact h1
        · obtain ⟨L, h1, h2⟩ := hnot (wrap64 (Int.tdiv bs 2)) (fun _ => by omega)
          refine ⟨L, Ev.succ ?_, h2⟩
          simp only [worldmintref27_Bids.l1]
          simp only [if_pos (show j < n by omega), if_neg c1, hw2, if_pos c2, if_neg c3, hw]
          exact h1
      · obtain ⟨L, h1, h2⟩ := hnot (wrap64 (Int.tdiv bs 2)) (fun _ => by omega)
        refine ⟨L, Ev.succ ?_, h2⟩
        simp only [worldmintref27_Bids.l1]
        simp only [if_pos (show j < n by omega), if_neg c1, hw2, if_neg c2, hw]
        exact h1
set_option maxHeartbeats 1000000 in
theorem bids_l0 (n : Int) (l : List Int) (hl : ∀ x ∈ l, (Lit.int .i64 x).wf = true) (most : Int) (hn1 : 1 ≤ n) (hn8 : n ≤ 8) (hm0 : 0 ≤ most) (hm1 : most ≤ 1000) :
    ∀ (d : Nat) (x7 : List S40), (most - x7.length).toNat = d → (x7.length : Int) ≤ most → (∀ b ∈ x7, GoodBid n b) →
    ∃ L, Ev (fun k => worldmintref27_Bids.l0 k n l most x7 x7.length) L ∧ (L.length : Int) ≤ most ∧ ∀ b ∈ L, GoodBid n b := by
  intro d
  induction d with
  | zero =>
    intro x7 hd hx hb
    obtain ⟨r, hr, hr0, hr1⟩ := pick_ok l 0 (most + 1) hl (by omega)
    refine ⟨x7, Ev.succ ?_, hx, hb⟩
    simp only [worldmintref27_Bids.l0, w64 (most + 1) (by omega) (by omega), hr, Option.bind_some]
    simp only [if_neg (show ¬ (x7.length : Int) < r by omega)]
    exact Ev.some_
  | succ d ih =>
    intro x7 hd hx hb
    obtain ⟨r, hr, hr0, hr1⟩ := pick_ok l 0 (most + 1) hl (by omega)
    by_cases hlt : (x7.length : Int) < r
    · obtain ⟨t, ht, ht0, ht1⟩ := pick_ok l (wrap64 (1 + wrap64 (3 * (x7.length : Int)))) 1000000 hl (by omega)
      obtain ⟨u, hu, hu0, hu1⟩ := pick_ok l (wrap64 (2 + wrap64 (3 * (x7.length : Int)))) 255 hl (by omega)
      obtain ⟨v, hv, hv0, hv1⟩ := pick_ok l (wrap64 (3 + wrap64 (3 * (x7.length : Int)))) 255 hl (by omega)
      have e0 : 0 ≤ Int.tmod t 6 ∧ Int.tmod t 6 < 6 := ⟨Int.tmod_nonneg _ ht0, Int.tmod_lt_of_pos _ (by omega)⟩
      have hq : 0 ≤ Int.tdiv t 6 ∧ Int.tdiv t 6 ≤ t := ⟨Int.tdiv_nonneg ht0 (by omega), Int.tdiv_le_self _ ht0⟩
      have hq2 : 0 ≤ Int.tdiv t 216 ∧ Int.tdiv t 216 ≤ t := ⟨Int.tdiv_nonneg ht0 (by omega), Int.tdiv_le_self _ ht0⟩
      have hw1 : wrap64 (Int.tdiv t 6) = Int.tdiv t 6 := w64 _ (by omega) (by omega)
      have hw2 : wrap64 (Int.tdiv t 216) = Int.tdiv t 216 := w64 _ (by omega) (by omega)
      have e1 : 0 ≤ Int.tmod (Int.tdiv t 6) 9 ∧ Int.tmod (Int.tdiv t 6) 9 < 9 := ⟨Int.tmod_nonneg _ hq.1, Int.tmod_lt_of_pos _ (by omega)⟩
      have e2 : 0 ≤ Int.tmod (Int.tdiv t 216) 50 ∧ Int.tmod (Int.tdiv t 216) 50 < 50 := ⟨Int.tmod_nonneg _ hq2.1, Int.tmod_lt_of_pos _ (by omega)⟩
      have g0 : wrap64 (1 + Int.tmod t 6) = 1 + Int.tmod t 6 := w64 _ (by omega) (by omega)
      have g1 : wrap64 (1 + Int.tmod (Int.tdiv t 6) 9) = 1 + Int.tmod (Int.tdiv t 6) 9 := w64 _ (by omega) (by omega)
      have g2 : wrap64 (1 + Int.tmod (Int.tdiv t 216) 50) = 1 + Int.tmod (Int.tdiv t 216) 50 := w64 _ (by omega) (by omega)
      have hpr : ∀ a b : Int, 1 ≤ a → a ≤ 9 → 1 ≤ b → b ≤ 50 → 1 ≤ a * b ∧ a * b ≤ 450 := fun a b a1 a2 b1 b2 => by
        have h1 : 1 * 1 ≤ a * b := Int.mul_le_mul a1 b1 (by omega) (by omega)
        have h2 : a * b ≤ 9 * 50 := Int.mul_le_mul a2 b2 (by omega) (by omega)
        omega
      have hp := hpr (1 + Int.tmod (Int.tdiv t 6) 9) (1 + Int.tmod (Int.tdiv t 216) 50) (by omega) (by omega) (by omega) (by omega)
      have g3 : wrap64 ((1 + Int.tmod (Int.tdiv t 6) 9) * (1 + Int.tmod (Int.tdiv t 216) 50)) = (1 + Int.tmod (Int.tdiv t 6) 9) * (1 + Int.tmod (Int.tdiv t 216) 50) := w64 _ (by omega) (by omega)
      have hstep : ∀ p : Int, 1 ≤ p → p ≤ 450 → ∃ L, Ev (fun k => worldmintref27_Bids.j1 k n l most x7 (x7.length : Int) (1 + Int.tmod t 6) p) L ∧ (L.length : Int) ≤ most ∧ ∀ b ∈ L, GoodBid n b := fun p hp1 hp2 => by
        obtain ⟨L, h1, h2⟩ := bids_l1 n l most x7 (x7.length : Int) (1 + Int.tmod t 6) p hn1 hn8 (by omega) [] (fun ks hk0 hk1 hk2 => by
          obtain ⟨L, h1, h2⟩ := ih (x7 ++ [⟨1 + Int.tmod t 6, p, ks⟩]) (by simp; omega) (by simp; omega) (fun b hb' => by
            rcases List.mem_append.1 hb' with h | h
            · exact hb b h
            · rw [List.mem_singleton] at h; subst h; exact ⟨by show 1 ≤ 1 + _; omega, by show 1 + _ ≤ 6; omega, hp1, hp2, hk0, hk1, hk2⟩)
          refine ⟨L, ?_, h2⟩
          rw [w64 _ (by omega) (by omega)]
          simpa using h1) n.toNat 0 (Go.bits .and .i64 u (Go.bits .or .i64 v 17)) [] (by omega) (by omega) (by omega) rfl (by simp) (by simp) (by omega)
        refine ⟨L, Ev.succ ?_, h2⟩
        simp only [worldmintref27_Bids.j1, hu, hv, Option.bind_some]
        exact h1
      by_cases c : Int.tmod (wrap64 (Int.tdiv t 54)) 4 = 0
      · obtain ⟨L, h1, h2⟩ := hstep _ hp.1 hp.2
        refine ⟨L, Ev.succ ?_, h2⟩
        simp only [worldmintref27_Bids.l0, w64 (most + 1) (by omega) (by omega), hr, ht, Option.bind_some, if_pos hlt, if_pos c, hw1, hw2, g0, g1, g2, g3]
        exact h1
      · obtain ⟨L, h1, h2⟩ := hstep (1 + Int.tmod (Int.tdiv t 6) 9) (by omega) (by omega)
        refine ⟨L, Ev.succ ?_, h2⟩
        simp only [worldmintref27_Bids.l0, w64 (most + 1) (by omega) (by omega), hr, ht, Option.bind_some, if_pos hlt, if_neg c, hw1, g0, g1]
        exact h1
    · refine ⟨x7, Ev.succ ?_, hx, hb⟩
      simp only [worldmintref27_Bids.l0, w64 (most + 1) (by omega) (by omega), hr, Option.bind_some]
      simp only [if_neg hlt]
      exact Ev.some_
theorem bids_ok (n : Int) (l : List Int) (hl : ∀ x ∈ l, (Lit.int .i64 x).wf = true) (most : Int) (hn1 : 1 ≤ n) (hn8 : n ≤ 8) (hm0 : 0 ≤ most) (hm1 : most ≤ 1000) :
    ∃ L, Ev (fun k => worldmintref27_Bids.f k n l most) L ∧ (L.length : Int) ≤ most ∧ ∀ b ∈ L, GoodBid n b := by
  have := bids_l0 n l hl most hn1 hn8 hm0 hm1 _ [] rfl (by simpa using hm0) (by simp)
  simpa [worldmintref27_Bids.f] using this
end Go.Proofs.Ytdbpdkmnnlippaa.H

/- The example of chapter 27. Plain. -/
namespace Go.Proofs.Ytdbpdkmnnlippaa.H
open Go.RowKit Go.Proofs.YtdbpdkmnnlippaaW.PrintWords Go.Proofs.YtdbpdkmnnlippaaW.PrintLast
set_option linter.unusedVariables false
set_option linter.unusedSimpArgs false
/-- Sorting by insertion: the kernel can compute it. -/
def insI (x : Int) : List Int → List Int
  | [] => [x]
  | y :: s => if x ≤ y then x :: y :: s else y :: insI x s
def sortI : List Int → List Int
  | [] => []
  | x :: s => insI x (sortI s)
theorem insI_perm (x : Int) : ∀ s, (insI x s).Perm (x :: s)
  | [] => List.Perm.refl _
  | y :: s => by
    unfold insI
    split
    · exact List.Perm.refl _
    · exact ((insI_perm x s).cons y).trans (List.Perm.swap x y s)
theorem sortI_perm : ∀ s, (sortI s).Perm s
  | [] => List.Perm.refl _
  | x :: s => (insI_perm x _).trans ((sortI_perm s).cons x)
theorem insI_sorted (x : Int) : ∀ s, s.Pairwise (· ≤ ·) → (insI x s).Pairwise (· ≤ ·)
  | [], _ => by simp [insI]
  | y :: s, h => by
    obtain ⟨h1, h2⟩ := List.pairwise_cons.1 h
    unfold insI
    split
    · rename_i hxy
      refine List.pairwise_cons.2 ⟨fun z hz => ?_, h⟩
      rcases List.mem_cons.1 hz with rfl | hz
      · exact hxy
      · have := h1 z hz; omega
    · rename_i hxy
      refine List.pairwise_cons.2 ⟨fun z hz => ?_, insI_sorted x s h2⟩
      rcases List.mem_cons.1 ((insI_perm x s).mem_iff.1 hz) with rfl | hz
      · omega
      · exact h1 z hz
theorem sortI_sorted : ∀ s, (sortI s).Pairwise (· ≤ ·)
  | [] => List.Pairwise.nil
  | x :: s => insI_sorted x _ (sortI_sorted s)
theorem sortI_eq (xs : List Int) : (xs.mergeSort fun x y => decide (x ≤ y)) = sortI xs := by
  have hs : (xs.mergeSort fun x y => decide (x ≤ y)).Pairwise (fun a b => decide (a ≤ b) = true) :=
    List.pairwise_mergeSort (fun a b c h1 h2 => by simp only [decide_eq_true_eq] at *; omega) (fun a b => by simp only [Bool.or_eq_true, decide_eq_true_eq]; omega) xs
  refine List.Perm.eq_of_pairwise (le := fun a b : Int => a ≤ b) (fun a b _ _ h1 h2 => by omega) (hs.imp (fun h => by simpa using h)) (sortI_sorted xs) ((List.mergeSort_perm xs _).trans (sortI_perm xs).symm)
def partsStepI (l : List S38) (st : List Bool × List (List Int)) (i : Nat) : List Bool × List (List Int) :=
  if st.1.getD i true then st else ((visitP l l.length i (st.1, [])).1, st.2 ++ [sortI (visitP l l.length i (st.1, [])).2])
theorem partsI (l : List S38) : partsP l = ((List.range l.length).foldl (partsStepI l) (List.replicate l.length false, [])).2 := by
  have : partsStep l = partsStepI l := by
    funext st i
    unfold partsStep partsStepI
    rw [sortI_eq]
  unfold partsP
  rw [this]
def bids_Parts.fI (l0 : List S38) : Option (List (List Int)) := if l0.length ≤ 1000000 then some ((List.range l0.length).foldl (partsStepI l0) (List.replicate l0.length false, [])).2 else none
theorem parts_fI : bids_Parts.f = bids_Parts.fI := by
  funext l
  unfold bids_Parts.f bids_Parts.fI
  rw [partsI]
def livesL : List S38 := [⟨1, 5, [0, 1]⟩, ⟨1, 5, [0]⟩, ⟨2, 3, [1]⟩, ⟨3, 2, [2]⟩]
theorem lives_parts : bids_Parts.f livesL = some [[0, 1, 2], [3]] := by rw [parts_fI]; kernel_rfl
set_option maxRecDepth 100000 in
theorem lives_ok7 : Ev (fun k => worldmintlaw27_lives.f k) true := by
  refine Ev.of_mono (fun k => worldmintlaw27_lives.mono k) ⟨30, ?_⟩
  have h := lives_parts
  unfold livesL at h
  unfold worldmintlaw27_lives.f
  rw [Option.bind_some, h]
  clear h
  show _ = some true
  kernel_rfl
end Go.Proofs.Ytdbpdkmnnlippaa.H

/- The search's answer: the best choice, and of equals the least. Plain. -/
namespace Go.Proofs.Ytdbpdkmnnlippaa.H
open Go.RowKit
set_option linter.unusedVariables false
set_option linter.unusedSimpArgs false
section
variable {U : S38 → Bool} {l : List S38}
end
end Go.Proofs.Ytdbpdkmnnlippaa.H

/- What Valid tells. Plain. -/
namespace Go.Proofs.Ytdbpdkmnnlippaa.H
open Go.RowKit Go.Proofs.YtdbpdkmnnlippaaW.PrintWords Go.Proofs.YtdbpdkmnnlippaaW.PrintLast Go.Proofs.YtdbpdkmnnlippaaW.PrintMore
set_option linter.unusedVariables false
set_option linter.unusedSimpArgs false
theorem rd_at (l : List Int) (i : Nat) (x : Int) (h : l[i]? = some x) : rd l (i : Int) = x := by
  simp [rd, List.getD, h]
theorem rdT_at (l : List S38) (i : Nat) (x : S38) (h : l[i]? = some x) : rd_T38 l (i : Int) = x := by
  simp [rd_T38, List.getD, h]
theorem wrap64_in (x : Int) (h0 : 0 ≤ x) (h1 : x ≤ 9223372036854775807) : wrap64 x = x := by
  unfold wrap64
  omega
theorem valid_l1 (n : Int) (l : List S38) (i : Int) (ks : List Int) (hk : ks.length ≤ 9223372036854775807) : ∀ (d : List Int) (p : Nat) (last : Int) (k : Nat), ks.drop p = d → p ≤ ks.length →
    bids_Valid.l1 (k + 1 + d.length) n last l (l.length : Int) i ks (ks.length : Int) (p : Int) = if lotsOk n last d then bids_Valid.l0 k n l (l.length : Int) (wrap64 (i + 1)) else some 1
  | [], p, last, k, hd, hp => by
    have : p = ks.length := by have := congrArg List.length hd; simp at this; omega
    simp [bids_Valid.l1, this, lotsOk]
  | x :: d, p, last, k, hd, hp => by
    have hlen : ks.length - p = d.length + 1 := by have := congrArg List.length hd; simpa using this
    have hx : ks[p]? = some x := by
      have := congrArg (fun t => t[0]?) hd
      simpa using this
    have hd' : ks.drop (p + 1) = d := by
      have := congrArg List.tail hd
      simpa using this
    have ih := valid_l1 n l i ks hk d (p + 1) x k hd' (by omega)
    have hw : wrap64 ((p : Int) + 1) = ((p + 1 : Nat) : Int) := by rw [wrap64_in _ (by omega) (by omega)]; omega
    have e : k + 1 + (x :: d).length = (k + 1 + d.length) + 1 := by simp; omega
    rw [e]
    simp only [bids_Valid.l1, rd_at ks p x hx, hw, ih]
    rw [if_pos (by omega), if_pos (by omega), if_pos (by omega)]
    simp only [lotsOk]
    by_cases h1 : x ≤ last
    · simp [h1]
    · by_cases h2 : n ≤ x
      · simp [h1, h2]
      · simp [h1, h2]
theorem valid_l0 (n : Int) (l : List S38) (hl : l.length ≤ 10) (hb : ∀ b ∈ l, b.f2.length ≤ 9223372036854775807) : ∀ (d : List S38) (p : Nat), l.drop p = d → p ≤ l.length →
    ∃ k, bids_Valid.l0 k n l (l.length : Int) (p : Int) = some (bidsErr n d)
  | [], p, hd, hp => by
    have : p = l.length := by have := congrArg List.length hd; simp at this; omega
    exact ⟨1, by simp [bids_Valid.l0, this, bidsErr]⟩
  | x :: d, p, hd, hp => by
    have hlen : l.length - p = d.length + 1 := by have := congrArg List.length hd; simpa using this
    have hx : l[p]? = some x := by
      have := congrArg (fun t => t[0]?) hd
      simpa using this
    have hd' : l.drop (p + 1) = d := by
      have := congrArg List.tail hd
      simpa using this
    obtain ⟨k, ih⟩ := valid_l0 n l hl hb d (p + 1) hd' (by omega)
    have hw : wrap64 ((p : Int) + 1) = ((p + 1 : Nat) : Int) := by rw [wrap64_in _ (by omega) (by omega)]; omega
    have h1 := valid_l1 n l p x.f2 (hb x (List.mem_of_getElem? hx)) x.f2 0 (-1) k rfl (Nat.zero_le _)
    rw [hw, ih] at h1
    refine ⟨(k + 1 + x.f2.length) + 1 + 1 + 1, ?_⟩
    simp only [bids_Valid.l0, bids_Valid.j2, bids_Valid.j3, rdT_at l p x hx]
    rw [if_pos (by omega), if_pos (by omega), if_pos (by omega)]
    unfold bidsErr
    simp only [Int.natCast_zero] at h1
    rw [h1]
    by_cases c1 : x.f0 < 1
    · simp [c1]
    · by_cases c2 : 1073741824 < x.f0
      · simp [c1, c2]
      · by_cases c3 : x.f1 < 1
        · simp [c1, c2, c3]
        · by_cases c4 : 1099511627776 < x.f1
          · simp [c1, c2, c3, c4]
          · by_cases c5 : x.f2.length = 0
            · simp [c1, c2, c3, c4, c5]
            · have c6 : ¬ (x.f2.length : Int) = 0 := by omega
              cases c7 : lotsOk n (-1) x.f2 <;> simp [c1, c2, c3, c4, c5, c6, c7]
theorem bids_Valid_f (n : Int) (l : List S38) (hb : ∀ b ∈ l, b.f2.length ≤ 9223372036854775807) : ∃ k, bids_Valid.f k n l = some (validP n l) := by
  by_cases h : (l.length : Int) > 10
  · have h' : 10 < l.length := by omega
    refine ⟨1, ?_⟩
    unfold bids_Valid.f validP
    simp only [bids_Valid.j0]
    by_cases c1 : n < 1 <;> by_cases c2 : 8 < n <;> simp [c1, c2, h, h']
  · have h' : ¬ 10 < l.length := by omega
    obtain ⟨k, hk⟩ := valid_l0 n l (by omega) hb l 0 rfl (Nat.zero_le _)
    refine ⟨k + 1, ?_⟩
    unfold bids_Valid.f validP
    simp only [bids_Valid.j0]
    simp only [Int.natCast_zero] at hk
    rw [hk]
    by_cases c1 : n < 1 <;> by_cases c2 : 8 < n <;> simp [c1, c2, h, h']
end Go.Proofs.Ytdbpdkmnnlippaa.H

/- What the reference of bids computes: by the same plain words. -/
namespace Go.Proofs.Ytdbpdkmnnlippaa.H
open Go.RowKit Go.Proofs.YtdbpdkmnnlippaaW.PrintWords Go.Proofs.YtdbpdkmnnlippaaW.PrintLast
set_option linter.unusedVariables false
set_option linter.unusedSimpArgs false
/-- A bid of the reference as a bid of the program. -/
def cv (b : S40) : S38 := ⟨b.f0, b.f1, b.f2⟩
theorem drop_cons {α : Type} (l : List α) (p : Nat) (x : α) (d : List α) (h : l.drop p = x :: d) : l[p]? = some x ∧ l.drop (p + 1) = d ∧ p < l.length := by
  have h1 : l[p]? = some x := by
    have := congrArg (fun t => t[0]?) h
    simpa using this
  refine ⟨h1, ?_, ?_⟩
  · have := congrArg List.tail h
    simpa using this
  · have := congrArg List.length h
    simp at this
    omega
theorem drop_nil {α : Type} (l : List α) (p : Nat) (hp : p ≤ l.length) (h : l.drop p = []) : p = l.length := by
  have := congrArg List.length h
  simp at this
  omega
theorem rdR_at (l : List S40) (i : Nat) (x : S40) (h : l[i]? = some x) : rd_T40 l (i : Int) = x := by
  simp [rd_T40, List.getD, h]
/-! ### Valid -/
theorem rvalid_l1 (n : Int) (l : List S40) (i f0 f1 : Int) (ks : List Int) (hk : ks.length ≤ 9223372036854775807) (r : Int) (hr : Ev (fun k => worldmintref27_Valid.l0 k n l (wrap64 (i + 1))) r) :
    ∀ (d : List Int) (p : Nat) (last : Int), ks.drop p = d → p ≤ ks.length → -1 ≤ last → (p = 0 → last = -1) → (∀ q, p = q + 1 → rd ks q = last) →
    Ev (fun k => worldmintref27_Valid.l1 k n l i (p : Int) f0 f1 ks) (if lotsOk n last d then r else 1)
  | [], p, last, hd, hp, hl, hz, hq => by
    have := drop_nil ks p hp hd
    refine Ev.succ ?_
    simp only [worldmintref27_Valid.l1, if_neg (show ¬ (p : Int) < (ks.length : Int) by omega), lotsOk, if_true]
    exact hr
  | x :: d, p, last, hd, hp, hl, hz, hq => by
    obtain ⟨hx, hd', hlt⟩ := drop_cons ks p x d hd
    have ih := fun h0 => rvalid_l1 n l i f0 f1 ks hk r hr d (p + 1) x hd' (by omega) h0 (by omega) (fun q e => by
      have : q = p := by omega
      subst this
      exact rd_at ks q x hx)
    have hw : wrap64 ((p : Int) + 1) = ((p + 1 : Nat) : Int) := by rw [w64 _ (by omega) (by omega)]; omega
    have hF : x ≤ last ∨ n ≤ x → lotsOk n last (x :: d) = false := fun h => by
      simp only [lotsOk]
      rw [if_pos (by simpa using h)]
    have hT : ¬ x ≤ last → ¬ n ≤ x → lotsOk n last (x :: d) = lotsOk n x d := fun h1 h2 => by
      simp only [lotsOk]
      rw [if_neg (by simp; omega)]
    refine Ev.succ ?_
    simp only [worldmintref27_Valid.l1, if_pos (show (p : Int) < (ks.length : Int) by omega), if_pos (show (0 : Int) ≤ (p : Int) by omega), rd_at ks p x hx, hw]
    by_cases c1 : x < 0
    · simp only [if_pos c1]
      rw [hF (by omega)]
      simpa using Ev.some_
    · simp only [if_neg c1]
      by_cases c2 : x ≥ n
      · simp only [if_pos c2]
        rw [hF (by omega)]
        simpa using Ev.some_
      · simp only [if_neg c2]
        cases p with
        | zero =>
          have hl1 := hz rfl
          simp only [if_neg (show ¬ ((0 : Nat) : Int) > 0 by omega)]
          rw [hT (by omega) (by omega)]
          exact ih (by omega)
        | succ q =>
          have hw2 : wrap64 (((q + 1 : Nat) : Int) - 1) = (q : Int) := by rw [w64 _ (by omega) (by omega)]; omega
          simp only [if_pos (show ((q + 1 : Nat) : Int) > 0 by omega), hw2, if_pos (show (0 : Int) ≤ (q : Int) by omega), if_pos (show (q : Int) < (ks.length : Int) by omega), hq q rfl]
          by_cases c3 : x ≤ last
          · simp only [if_pos c3]
            rw [hF (by omega)]
            simpa using Ev.some_
          · simp only [if_neg c3]
            rw [hT (by omega) (by omega)]
            exact ih (by omega)
theorem rvalid_l0 (n : Int) (l : List S40) (hl : l.length ≤ 10) (hb : ∀ b ∈ l, b.f2.length ≤ 9223372036854775807) : ∀ (d : List S40) (p : Nat), l.drop p = d → p ≤ l.length →
    Ev (fun k => worldmintref27_Valid.l0 k n l (p : Int)) (bidsErr n (d.map cv))
  | [], p, hd, hp => by
    have := drop_nil l p hp hd
    refine Ev.succ ?_
    simp only [worldmintref27_Valid.l0, if_neg (show ¬ (p : Int) < (l.length : Int) by omega)]
    exact Ev.some_
  | x :: d, p, hd, hp => by
    obtain ⟨hx, hd', hlt⟩ := drop_cons l p x d hd
    have ih := rvalid_l0 n l hl hb d (p + 1) hd' (by omega)
    have hw : wrap64 ((p : Int) + 1) = ((p + 1 : Nat) : Int) := by rw [w64 _ (by omega) (by omega)]; omega
    have h1 := rvalid_l1 n l p x.f0 x.f1 x.f2 (hb x (List.mem_of_getElem? hx)) _ (by rw [hw]; exact ih) x.f2 0 (-1) rfl (Nat.zero_le _) (by omega) (fun _ => rfl) (fun q e => by omega)
    refine Ev.succ ?_
    simp only [worldmintref27_Valid.l0, if_pos (show (p : Int) < (l.length : Int) by omega), if_pos (show (0 : Int) ≤ (p : Int) by omega), rdR_at l p x hx, List.map_cons, bidsErr, cv]
    have hj : ∀ v : Bool, Ev (fun k => worldmintref27_Valid.j2 k n l (p : Int) v x.f0 x.f1 x.f2) (if v then 1 else if x.f1 < 1 || 1099511627776 < x.f1 then 5 else if x.f2.length == 0 then 1 else if !lotsOk n (-1) x.f2 then 1 else bidsErr n (d.map cv)) := fun v => by
      refine Ev.succ ?_
      cases v
      · have hj3 : ∀ u : Bool, Ev (fun k => worldmintref27_Valid.j3 k n l (p : Int) u x.f0 x.f1 x.f2) (if u then 5 else if x.f2.length == 0 then 1 else if !lotsOk n (-1) x.f2 then 1 else bidsErr n (d.map cv)) := fun u => by
          refine Ev.succ ?_
          cases u
          · simp only [worldmintref27_Valid.j3, Bool.false_eq_true, if_false]
            by_cases c : (x.f2.length : Int) = 0
            · simp only [if_pos c]
              rw [if_pos (by simpa using c)]
              exact Ev.some_
            · simp only [if_neg c]
              rw [if_neg (by simpa using c)]
              cases hk : lotsOk n (-1) x.f2
              · simpa [hk] using h1
              · simpa [hk] using h1
          · simp only [worldmintref27_Valid.j3, if_true]
            exact Ev.some_
        simp only [worldmintref27_Valid.j2, Bool.false_eq_true, if_false]
        by_cases c : x.f1 < 1
        · simp only [if_pos c]
          have := hj3 true
          simpa [c] using this
        · simp only [if_neg c]
          have := hj3 (decide (x.f1 > 1099511627776))
          simpa [c] using this
      · simp only [worldmintref27_Valid.j2, if_true]
        exact Ev.some_
    by_cases c : x.f0 < 1
    · simp only [if_pos c]
      have := hj true
      simpa [c] using this
    · simp only [if_neg c]
      have := hj (decide (x.f0 > 1073741824))
      simpa [c] using this
theorem rvalid_ok (n : Int) (l : List S40) (hb : ∀ b ∈ l, b.f2.length ≤ 9223372036854775807) : Ev (fun k => worldmintref27_Valid.f k n l) (validP n (l.map cv)) := by
  have hj : ∀ v : Bool, Ev (fun k => worldmintref27_Valid.j0 k n l v) (if v then 5 else if 10 < l.length then 4 else bidsErr n (l.map cv)) := fun v => by
    refine Ev.succ ?_
    cases v
    · simp only [worldmintref27_Valid.j0, Bool.false_eq_true, if_false]
      by_cases c : (l.length : Int) > 10
      · simp only [if_pos c]
        rw [if_pos (by omega)]
        exact Ev.some_
      · simp only [if_neg c]
        rw [if_neg (by omega)]
        exact rvalid_l0 n l (by omega) hb l 0 rfl (Nat.zero_le _)
    · simp only [worldmintref27_Valid.j0, if_true]
      exact Ev.some_
  unfold worldmintref27_Valid.f validP
  by_cases c : n < 1
  · simp only [if_pos c]
    have := hj true
    simpa [c] using this
  · simp only [if_neg c]
    have := hj (decide (n > 8))
    simpa [c] using this
/-! ### given -/
theorem given_ok (l : List S40) (hl : l.length < 3518437208883) : Ev (fun k => worldmintlaw27_given.f k l) (l.map cv) := by
  have : ∀ (d : List S40) (p : Nat), l.drop p = d → p ≤ l.length → Ev (fun k => worldmintlaw27_given.l0 k l ((l.take p).map cv) (p : Int)) (l.map cv) := by
    intro d
    induction d with
    | nil =>
      intro p hd hp
      have := drop_nil l p hp hd
      subst this
      refine Ev.succ ?_
      simp only [worldmintlaw27_given.l0, if_neg (show ¬ (l.length : Int) < (l.length : Int) by omega), List.take_length]
      exact Ev.some_
    | cons x d ih =>
      intro p hd hp
      obtain ⟨hx, hd', hlt⟩ := drop_cons l p x d hd
      have hw : wrap64 ((p : Int) + 1) = ((p + 1 : Nat) : Int) := by rw [w64 _ (by omega) (by omega)]; omega
      have h1 := ih (p + 1) hd' (by omega)
      refine Ev.succ ?_
      simp only [worldmintlaw27_given.l0, if_pos (show (p : Int) < (l.length : Int) by omega), if_pos (show (0 : Int) ≤ (p : Int) by omega), rdR_at l p x hx, hw, List.length_map, List.length_take]
      simp only [if_pos (show min p l.length < 3518437208883 by omega)]
      have e : (l.take p).map cv ++ [⟨x.f0, x.f1, x.f2⟩] = (l.take (p + 1)).map cv := by
        have hg : l[p] = x := by
          have := List.getElem?_eq_getElem hlt
          rw [hx] at this
          injection this with this
          exact this.symm
        rw [List.take_succ_eq_append_getElem hlt, List.map_append, hg]
        rfl
      rw [e]
      exact h1
  exact this l 0 rfl (Nat.zero_le _)
end Go.Proofs.Ytdbpdkmnnlippaa.H

/- A part replaced; two lists compared. Plain. -/
namespace Go.Proofs.Ytdbpdkmnnlippaa.H
open Go.RowKit Go.Proofs.YtdbpdkmnnlippaaW.PrintWords Go.Proofs.YtdbpdkmnnlippaaW.PrintLast
set_option linter.unusedVariables false
set_option linter.unusedSimpArgs false
theorem spoilt_ok (L : List S40) (at_ how by_ : Int) (h1 : (Lit.int .i64 at_).wf = true) (h2 : (Lit.int .i64 how).wf = true) (hL : L.length ≤ 1000) (hb : ∀ b ∈ L, b.f2.length ≤ 8) :
    ∃ L2, worldmintref27_Spoilt.f L at_ how by_ = some L2 ∧ L2.length = L.length ∧ ∀ b ∈ L2, b.f2.length ≤ 9 := by
  unfold worldmintref27_Spoilt.f
  simp only [List.nil_append, List.length_nil, Nat.zero_add, if_pos (show L.length < 3518437208883 by omega), Option.bind_some]
  by_cases h0 : (L.length : Int) = 0
  · rw [if_pos h0]
    exact ⟨L, rfl, rfl, fun b hb' => by have := hb b hb'; omega⟩
  · rw [if_neg h0]
    obtain ⟨t, ht, ht0, ht1⟩ := around_ok at_ L.length h1 (by omega)
    obtain ⟨u, hu, hu0, hu1⟩ := around_ok how 5 h2 (by omega)
    simp only [ht, hu, Option.bind_some, if_pos ht0, if_pos ht1]
    have hm : rd_T40 L t ∈ L := by
      have : t.toNat < L.length := by omega
      simp [rd_T40, List.getD, this]
    have hlen := hb _ hm
    have hset : ∀ x : S40, x.f2.length ≤ 9 → ∃ L2, some (L.set t.toNat x) = some L2 ∧ L2.length = L.length ∧ ∀ b ∈ L2, b.f2.length ≤ 9 := fun x hx =>
      ⟨_, rfl, by simp, fun b hb' => by
        rcases List.mem_or_eq_of_mem_set hb' with h | h
        · have := hb b h; omega
        · subst h; exact hx⟩
    split
    · exact hset _ (by show (rd_T40 L t).f2.length ≤ 9; omega)
    · split
      · exact hset _ (by show (rd_T40 L t).f2.length ≤ 9; omega)
      · split
        · rw [if_pos (by first | omega | (simp; omega)), if_pos (by first | omega | (simp; omega))]
          exact hset _ (by simp; omega)
        · split
          · exact hset _ (by simp)
          · rw [if_pos (by simp; omega)]
            exact hset _ (by simp; omega)
end Go.Proofs.Ytdbpdkmnnlippaa.H

/- BidsValid: the plain statement. -/
namespace Go.Proofs.Ytdbpdkmnnlippaa.H
open Go.RowKit Go.Proofs.YtdbpdkmnnlippaaW.PrintWords Go.Proofs.YtdbpdkmnnlippaaW.PrintLast
set_option linter.unusedVariables false
set_option linter.unusedSimpArgs false
theorem valid_ev (n : Int) (l : List S38) (hb : ∀ b ∈ l, b.f2.length ≤ 9223372036854775807) : Ev (fun k => bids_Valid.f k n l) (validP n l) := Ev.of_mono (fun k => bids_Valid.mono n l k) (bids_Valid_f n l hb)
theorem bv_l1 (P : List (List S40)) (ks : List Int) (hP : ∀ X ∈ P, X.length ≤ 1000 ∧ ∀ b ∈ X, b.f2.length ≤ 9) (hPl : P.length = 3) (hk : ks.length = 3) (i : Nat) (hi : i < 3)
    (hnext : Ev (fun k => worldmintlaw27_BidsValid.l0 k P ks ((i + 1 : Nat) : Int)) true) : ∀ (d j : Nat), 3 - j = d → j ≤ 3 → Ev (fun k => worldmintlaw27_BidsValid.l1 k P ks (i : Int) (j : Int)) true := by
  have hwi : wrap64 ((i : Int) + 1) = ((i + 1 : Nat) : Int) := by rw [w64 _ (by omega) (by omega)]; omega
  have hm : P.getD i [] ∈ P := by
    have : i < P.length := by omega
    simp [List.getD, this]
  have hrL : rd_L7 P (i : Int) = P.getD i [] := rfl
  obtain ⟨h1, h2⟩ := hP _ hm
  intro d
  induction d with
  | zero =>
    intro j hd hj
    have hj1 : ¬ (j : Int) < 3 := by omega
    refine Ev.succ ?_
    simp only [worldmintlaw27_BidsValid.l1, if_neg hj1, hwi]
    exact hnext
  | succ d ih =>
    intro j hd hj
    have hj1 : (j : Int) < 3 := by omega
    have hj0 : (0 : Int) ≤ (j : Int) := by omega
    have hj2 : (j : Int) < (ks.length : Int) := by omega
    have hi0 : (0 : Int) ≤ (i : Int) := by omega
    have hi2 : (i : Int) < (P.length : Int) := by omega
    have hwj : wrap64 ((j : Int) + 1) = ((j + 1 : Nat) : Int) := by rw [w64 _ (by omega) (by omega)]; omega
    refine Ev.succ ?_
    simp only [worldmintlaw27_BidsValid.l1, if_pos hj1, if_pos hj0, if_pos hj2, if_pos hi0, if_pos hi2, hwj, hrL]
    refine Ev.bind (given_ok _ (by omega)) ?_
    refine Ev.bind (valid_ev _ _ (fun b hb => by
      obtain ⟨y, hy, rfl⟩ := List.mem_map.1 hb
      have := h2 y hy
      show y.f2.length ≤ _
      omega)) ?_
    refine Ev.bind (rvalid_ok _ _ (fun b hb => by have := h2 b hb; omega)) ?_
    simp only [if_true]
    exact ih (j + 1) (by omega) (by omega)
theorem bv_l0 (P : List (List S40)) (ks : List Int) (hP : ∀ X ∈ P, X.length ≤ 1000 ∧ ∀ b ∈ X, b.f2.length ≤ 9) (hPl : P.length = 3) (hk : ks.length = 3) :
    ∀ (d i : Nat), 3 - i = d → i ≤ 3 → Ev (fun k => worldmintlaw27_BidsValid.l0 k P ks (i : Int)) true := by
  intro d
  induction d with
  | zero =>
    intro i hd hi
    have hi1 : ¬ (i : Int) < 3 := by omega
    refine Ev.succ ?_
    simp only [worldmintlaw27_BidsValid.l0, if_neg hi1]
    exact Ev.bind lives_ok7 Ev.some_
  | succ d ih =>
    intro i hd hi
    have hi1 : (i : Int) < 3 := by omega
    refine Ev.succ ?_
    simp only [worldmintlaw27_BidsValid.l0, if_pos hi1]
    exact bv_l1 P ks hP hPl hk i (by omega) (ih (i + 1) (by omega) (by omega)) 3 0 (by omega) (by omega)
theorem BidsValid_pure : worldmintlaw27_BidsValid.Pure := by
  intro a0 l1 a2 a3 a4 w0 _ _ w1 w2 w3 w4
  obtain ⟨t, ht, ht0, ht1⟩ := lots_ok a0 w0
  obtain ⟨L, hL, hLl, hLg⟩ := bids_ok t l1 w1 12 ht0 ht1 (by omega) (by omega)
  obtain ⟨u, hu, hu0, hu1⟩ := around_ok a4 12 w4 (by omega)
  obtain ⟨v, hv, hv0, hv1⟩ := around_ok a0 12 w0 (by omega)
  have hb8 : ∀ b ∈ L, b.f2.length ≤ 8 := fun b hb => (hLg b hb).2.2.2.2.2.2
  obtain ⟨L2, hS, hSl, hSg⟩ := spoilt_ok L a2 a3 a4 w2 w3 (by omega) hb8
  obtain ⟨L3, hS3, hSl3, hSg3⟩ := spoilt_ok L a2 a3 (wrap64 (u - 2)) w2 w3 (by omega) hb8
  refine Ev.ex ?_
  unfold worldmintlaw27_BidsValid.f
  simp only [ht, Option.bind_some]
  refine Ev.bind hL ?_
  simp only [hS, hu, hS3, hv, Option.bind_some]
  exact bv_l0 [L, L2, L3] _ (fun X hX => by
    simp only [List.mem_cons, List.not_mem_nil, or_false] at hX
    rcases hX with rfl | rfl | rfl
    · exact ⟨by omega, fun b hb => by have := hb8 b hb; omega⟩
    · exact ⟨by omega, hSg⟩
    · exact ⟨by omega, hSg3⟩) rfl rfl 3 0 (by omega) (by omega)
end Go.Proofs.Ytdbpdkmnnlippaa.H
namespace Go.Proofs.Ytdbpdkmnnlippaa.Pure
theorem BidsValid : H.worldmintlaw27_BidsValid.Pure := H.BidsValid_pure
end Go.Proofs.Ytdbpdkmnnlippaa.Pure
