/- Texts of this claim, one behind the other. -/
import Derived.Test.YtdbpdkmnnlippaaMBidsPartsd
import Derived.Test.YtdbpdkmnnlippaaMBidsPartsb
import Derived.Test.YtdbpdkmnnlippaaMBidsPartsc
import Derived.Test.YtdbpdkmnnlippaaMBidsPartse

/- What a printed function computes with rounds enough: its laws; the generators of the reference. -/
namespace Go.Proofs.Ytdbpdkmnnlippaa.H
open Go.RowKit Go.Proofs.YtdbpdkmnnlippaaW.PrintWords Go.Proofs.YtdbpdkmnnlippaaW.PrintLast
set_option linter.unusedVariables false
set_option linter.unusedSimpArgs false
/-- With rounds enough, f tells a. -/
def Ev {α : Type} (f : Nat → Option α) (a : α) : Prop := ∃ K, ∀ k, K ≤ k → f k = some a
section
variable {α β : Type} {f : Nat → Option α} {a : α}
theorem Ev.succ (h : Ev (fun k => f (k + 1)) a) : Ev f a := by
  obtain ⟨K, h⟩ := h
  refine ⟨K + 1, fun k hk => ?_⟩
  obtain ⟨j, rfl⟩ : ∃ j, k = j + 1 := ⟨k - 1, by omega⟩
  exact h j (by omega)
theorem Ev.bind {g : Nat → α → Option β} {b : β} (hf : Ev f a) (hg : Ev (fun k => g k a) b) : Ev (fun k => (f k).bind (g k)) b := by
  obtain ⟨K, h⟩ := hf
  obtain ⟨K2, h2⟩ := hg
  exact ⟨max K K2, fun k hk => by
    show (f k).bind (g k) = some b
    rw [h k (by omega)]
    exact h2 k (by omega)⟩
theorem Ev.some_ : Ev (fun _ => some a) a := ⟨0, fun _ _ => rfl⟩
theorem Ev.ex (h : Ev f a) : ∃ k, f k = some a := by
  obtain ⟨K, h⟩ := h
  exact ⟨K, h K (Nat.le_refl _)⟩
theorem Ev.of_mono (hm : ∀ k, LeO (f k) (f (k + 1))) (h : ∃ k, f k = some a) : Ev f a := by
  obtain ⟨K, h⟩ := h
  refine ⟨K, fun k hk => ?_⟩
  obtain ⟨d, rfl⟩ := Nat.exists_eq_add_of_le hk
  clear hk
  induction d with
  | zero => exact h
  | succ d ih => exact hm (K + d) _ ih
end
theorem wf_bounds (n : Int) (h : (Lit.int .i64 n).wf = true) : -9223372036854775808 ≤ n ∧ n ≤ 9223372036854775807 := by
  simpa [Lit.wf, IntKind.min, IntKind.max, IntKind.signed, IntKind.bits] using h
theorem w64 (x : Int) (h0 : -9223372036854775808 ≤ x) (h1 : x ≤ 9223372036854775807) : wrap64 x = x := by
  unfold wrap64
  omega
theorem around_ok (n most : Int) (hn : (Lit.int .i64 n).wf = true) (hm : 0 < most) : ∃ r, worldmintref01_Around.f n most = some r ∧ 0 ≤ r ∧ r < most := by
  have hb := wf_bounds n hn
  unfold worldmintref01_Around.f
  by_cases h : n < 0
  · rw [if_pos h, if_neg (by omega), w64 (n + 1) (by omega) (by omega), w64 (-(n + 1)) (by omega) (by omega)]
    exact ⟨_, rfl, Int.tmod_nonneg _ (by omega), Int.tmod_lt_of_pos _ hm⟩
  · rw [if_neg h, if_neg (by omega)]
    exact ⟨_, rfl, Int.tmod_nonneg _ (by omega), Int.tmod_lt_of_pos _ hm⟩
theorem lots_ok (n : Int) (hn : (Lit.int .i64 n).wf = true) : ∃ r, worldmintref27_Lots.f n = some r ∧ 1 ≤ r ∧ r ≤ 8 := by
  obtain ⟨r, h, h0, h1⟩ := around_ok n 8 hn (by omega)
  unfold worldmintref27_Lots.f
  rw [h, Option.bind_some, w64 _ (by omega) (by omega)]
  exact ⟨_, rfl, by omega, by omega⟩
theorem pick_ok (l : List Int) (i most : Int) (hl : ∀ x ∈ l, (Lit.int .i64 x).wf = true) (hm : 0 < most) : ∃ r, worldmintref01_Pick.f l i most = some r ∧ 0 ≤ r ∧ r < most := by
  unfold worldmintref01_Pick.f
  by_cases h : i < 0
  · rw [if_pos h]; exact ⟨0, rfl, by omega, hm⟩
  · rw [if_neg h]
    by_cases h2 : i ≥ (l.length : Int)
    · rw [if_pos h2]; exact ⟨0, rfl, by omega, hm⟩
    · rw [if_neg h2, if_pos (by omega), if_pos (by omega)]
      have hm2 : rd l i ∈ l := by
        have : i.toNat < l.length := by omega
        simp [rd, List.getD, this]
      obtain ⟨r, h3, h4, h5⟩ := around_ok (rd l i) most (hl _ hm2) hm
      exact ⟨r, by rw [h3]; rfl, h4, h5⟩
/-- A bid as the reference draws it. -/
def GoodBid (n : Int) (b : S40) : Prop := 1 ≤ b.f0 ∧ b.f0 ≤ 6 ∧ 1 ≤ b.f1 ∧ b.f1 ≤ 450 ∧ b.f2.length ≠ 0 ∧ lotsOk n (-1) b.f2 = true ∧ b.f2.length ≤ 8
theorem lotsOk_snoc (n j : Int) (hj : j < n) : ∀ (ks : List Int) (last : Int), lotsOk n last ks = true → (∀ k ∈ ks, k < j) → last < j → lotsOk n last (ks ++ [j]) = true
  | [], last, _, _, h => by
    simp only [List.nil_append, lotsOk]
    simp [hj, h]
  | k :: ks, last, h, hk, _ => by
    simp only [List.cons_append, lotsOk] at h ⊢
    split at h
    · simp at h
    · rename_i hc
      rw [if_neg hc]
      exact lotsOk_snoc n j hj ks k h (fun x hx => hk x (by simp [hx])) (hk k (by simp))
set_option maxHeartbeats 1000000 in
theorem bids_l1 (n : Int) (l : List Int) (most : Int) (x7 : List S40) (x8 f0 f1 : Int) (hn1 : 1 ≤ n) (hn8 : n ≤ 8) (hx7 : x7.length < 3518437208883) (L : List S40)
    (hnext : ∀ ks : List Int, ks.length ≠ 0 → lotsOk n (-1) ks = true → ks.length ≤ 8 → ∃ L, Ev (fun k => worldmintref27_Bids.l0 k n l most (x7 ++ [⟨f0, f1, ks⟩]) (wrap64 (x8 + 1))) L ∧ (L.length : Int) ≤ most ∧ ∀ b ∈ L, GoodBid n b) :
    ∀ (d : Nat) (j : Int) (bs : Int) (ks : List Int), (n - j).toNat = d → 0 ≤ j → j ≤ n → lotsOk n (-1) ks = true → (∀ k ∈ ks, k < j) → (ks.length : Int) ≤ j → (j = n → ks.length ≠ 0) →
    ∃ L, Ev (fun k => worldmintref27_Bids.l1 k n l most x7 x8 bs j f0 f1 ks) L ∧ (L.length : Int) ≤ most ∧ ∀ b ∈ L, GoodBid n b
  | 0, j, bs, ks, hd, h0, hjn, hk, hkj, hkl, hne => by
    obtain ⟨L, h1, h2⟩ := hnext ks (hne (by omega)) hk (by omega)
    refine ⟨L, Ev.succ ?_, h2⟩
    simp only [worldmintref27_Bids.l1]
    simp only [if_neg (show ¬ j < n by omega), if_pos hx7]
    exact h1
  | d + 1, j, bs, ks, hd, h0, hjn, hk, hkj, hkl, hne => by
    have hw : wrap64 (j + 1) = j + 1 := w64 _ (by omega) (by omega)
    have hw2 : wrap64 (n - 1) = n - 1 := w64 _ (by omega) (by omega)
    have happ := fun bs' => bids_l1 n l most x7 x8 f0 f1 hn1 hn8 hx7 L hnext d (j + 1) bs' (ks ++ [j]) (by omega) (by omega) (by omega) (lotsOk_snoc n j (by omega) ks (-1) hk hkj (by omega)) (fun k hk' => by
      rcases List.mem_append.1 hk' with h | h
      · have := hkj k h; omega
      · simp at h; omega) (by simp; omega) (fun _ => by simp)
    have hnot := fun bs' (hh : j + 1 = n → ks.length ≠ 0) => bids_l1 n l most x7 x8 f0 f1 hn1 hn8 hx7 L hnext d (j + 1) bs' ks (by omega) (by omega) (by omega) hk (fun k hk' => by have := hkj k hk'; omega) (by omega) hh
    by_cases c1 : Int.tmod bs 2 = 1
    · obtain ⟨L, h1, h2⟩ := happ (wrap64 (Int.tdiv bs 2))
      refine ⟨L, Ev.succ ?_, h2⟩
      simp only [worldmintref27_Bids.l1]
      simp only [if_pos (show j < n by omega), if_pos c1, if_pos (show ks.length < 17592186044416 by omega), hw]
      exact h1
    · by_cases c2 : j = n - 1
      · by_cases c3 : (ks.length : Int) = 0
        · obtain ⟨L, h1, h2⟩ := happ (wrap64 (Int.tdiv bs 2))
          refine ⟨L, Ev.succ ?_, h2⟩
          simp only [worldmintref27_Bids.l1]
          simp only [if_pos (show j < n by omega), if_neg c1, hw2, if_pos c2, if_pos c3, if_pos (show ks.length < 17592186044416 by omega), hw]
          exact h1
        · obtain ⟨L, h1, h2⟩ := hnot (wrap64 (Int.tdiv bs 2)) (fun _ => by omega)
          refine ⟨L, Ev.succ ?_, h2⟩
          simp only [worldmintref27_Bids.l1]
          simp only [if_pos (show j < n by omega), if_neg c1, hw2, if_pos c2, if_neg c3, hw]
          exact h1
      · obtain ⟨L, h1, h2⟩ := hnot (wrap64 (Int.tdiv bs 2)) (fun _ => by omega)
        refine ⟨L, Ev.succ ?_, h2⟩
        simp only [worldmintref27_Bids.l1]
        simp only [if_pos (show j < n by omega), if_neg c1, hw2, if_neg c2, hw]
        exact h1
set_option maxHeartbeats 1000000 in
theorem bids_l0 (n : Int) (l : List Int) (hl : ∀ x ∈ l, (Lit.int .i64 x).wf = true) (most : Int) (hn1 : 1 ≤ n) (hn8 : n ≤ 8) (hm0 : 0 ≤ most) (hm1 : most ≤ 1000) :
    ∀ (d : Nat) (x7 : List S40), (most - x7.length).toNat = d → (x7.length : Int) ≤ most → (∀ b ∈ x7, GoodBid n b) →
    ∃ L, Ev (fun k => worldmintref27_Bids.l0 k n l most x7 x7.length) L ∧ (L.length : Int) ≤ most ∧ ∀ b ∈ L, GoodBid n b := by
  intro d
  induction d with
  | zero =>
    intro x7 hd hx hb
    obtain ⟨r, hr, hr0, hr1⟩ := pick_ok l 0 (most + 1) hl (by omega)
    refine ⟨x7, Ev.succ ?_, hx, hb⟩
    simp only [worldmintref27_Bids.l0, w64 (most + 1) (by omega) (by omega), hr, Option.bind_some]
    simp only [if_neg (show ¬ (x7.length : Int) < r by omega)]
    exact Ev.some_
  | succ d ih =>
    intro x7 hd hx hb
    obtain ⟨r, hr, hr0, hr1⟩ := pick_ok l 0 (most + 1) hl (by omega)
    by_cases hlt : (x7.length : Int) < r
    · obtain ⟨t, ht, ht0, ht1⟩ := pick_ok l (wrap64 (1 + wrap64 (3 * (x7.length : Int)))) 1000000 hl (by omega)
      obtain ⟨u, hu, hu0, hu1⟩ := pick_ok l (wrap64 (2 + wrap64 (3 * (x7.length : Int)))) 255 hl (by omega)
      obtain ⟨v, hv, hv0, hv1⟩ := pick_ok l (wrap64 (3 + wrap64 (3 * (x7.length : Int)))) 255 hl (by omega)
      have e0 : 0 ≤ Int.tmod t 6 ∧ Int.tmod t 6 < 6 := ⟨Int.tmod_nonneg _ ht0, Int.tmod_lt_of_pos _ (by omega)⟩
      have hq : 0 ≤ Int.tdiv t 6 ∧ Int.tdiv t 6 ≤ t := ⟨Int.tdiv_nonneg ht0 (by omega), Int.tdiv_le_self _ ht0⟩
      have hq2 : 0 ≤ Int.tdiv t 216 ∧ Int.tdiv t 216 ≤ t := ⟨Int.tdiv_nonneg ht0 (by omega), Int.tdiv_le_self _ ht0⟩
      have hw1 : wrap64 (Int.tdiv t 6) = Int.tdiv t 6 := w64 _ (by omega) (by omega)
      have hw2 : wrap64 (Int.tdiv t 216) = Int.tdiv t 216 := w64 _ (by omega) (by omega)
      have e1 : 0 ≤ Int.tmod (Int.tdiv t 6) 9 ∧ Int.tmod (Int.tdiv t 6) 9 < 9 := ⟨Int.tmod_nonneg _ hq.1, Int.tmod_lt_of_pos _ (by omega)⟩
      have e2 : 0 ≤ Int.tmod (Int.tdiv t 216) 50 ∧ Int.tmod (Int.tdiv t 216) 50 < 50 := ⟨Int.tmod_nonneg _ hq2.1, Int.tmod_lt_of_pos _ (by omega)⟩
      have g0 : wrap64 (1 + Int.tmod t 6) = 1 + Int.tmod t 6 := w64 _ (by omega) (by omega)
      have g1 : wrap64 (1 + Int.tmod (Int.tdiv t 6) 9) = 1 + Int.tmod (Int.tdiv t 6) 9 := w64 _ (by omega) (by omega)
      have g2 : wrap64 (1 + Int.tmod (Int.tdiv t 216) 50) = 1 + Int.tmod (Int.tdiv t 216) 50 := w64 _ (by omega) (by omega)
      have hpr : ∀ a b : Int, 1 ≤ a → a ≤ 9 → 1 ≤ b → b ≤ 50 → 1 ≤ a * b ∧ a * b ≤ 450 := fun a b a1 a2 b1 b2 => by
        have h1 : 1 * 1 ≤ a * b := Int.mul_le_mul a1 b1 (by omega) (by omega)
        have h2 : a * b ≤ 9 * 50 := Int.mul_le_mul a2 b2 (by omega) (by omega)
        omega
      have hp := hpr (1 + Int.tmod (Int.tdiv t 6) 9) (1 + Int.tmod (Int.tdiv t 216) 50) (by omega) (by omega) (by omega) (by omega)
      have g3 : wrap64 ((1 + Int.tmod (Int.tdiv t 6) 9) * (1 + Int.tmod (Int.tdiv t 216) 50)) = (1 + Int.tmod (Int.tdiv t 6) 9) * (1 + Int.tmod (Int.tdiv t 216) 50) := w64 _ (by omega) (by omega)
      have hstep : ∀ p : Int, 1 ≤ p → p ≤ 450 → ∃ L, Ev (fun k => worldmintref27_Bids.j1 k n l most x7 (x7.length : Int) (1 + Int.tmod t 6) p) L ∧ (L.length : Int) ≤ most ∧ ∀ b ∈ L, GoodBid n b := fun p hp1 hp2 => by
        obtain ⟨L, h1, h2⟩ := bids_l1 n l most x7 (x7.length : Int) (1 + Int.tmod t 6) p hn1 hn8 (by omega) [] (fun ks hk0 hk1 hk2 => by
          obtain ⟨L, h1, h2⟩ := ih (x7 ++ [⟨1 + Int.tmod t 6, p, ks⟩]) (by simp; omega) (by simp; omega) (fun b hb' => by
            rcases List.mem_append.1 hb' with h | h
            · exact hb b h
            · rw [List.mem_singleton] at h; subst h; exact ⟨by show 1 ≤ 1 + _; omega, by show 1 + _ ≤ 6; omega, hp1, hp2, hk0, hk1, hk2⟩)
          refine ⟨L, ?_, h2⟩
          rw [w64 _ (by omega) (by omega)]
          simpa using h1) n.toNat 0 (Go.bits .and .i64 u (Go.bits .or .i64 v 17)) [] (by omega) (by omega) (by omega) rfl (by simp) (by simp) (by omega)
        refine ⟨L, Ev.succ ?_, h2⟩
        simp only [worldmintref27_Bids.j1, hu, hv, Option.bind_some]
        exact h1
      by_cases c : Int.tmod (wrap64 (Int.tdiv t 54)) 4 = 0
      · obtain ⟨L, h1, h2⟩ := hstep _ hp.1 hp.2
        refine ⟨L, Ev.succ ?_, h2⟩
        simp only [worldmintref27_Bids.l0, w64 (most + 1) (by omega) (by omega), hr, ht, Option.bind_some, if_pos hlt, if_pos c, hw1, hw2, g0, g1, g2, g3]
        exact h1
      · obtain ⟨L, h1, h2⟩ := hstep (1 + Int.tmod (Int.tdiv t 6) 9) (by omega) (by omega)
        refine ⟨L, Ev.succ ?_, h2⟩
        simp only [worldmintref27_Bids.l0, w64 (most + 1) (by omega) (by omega), hr, ht, Option.bind_some, if_pos hlt, if_neg c, hw1, g0, g1]
        exact h1
    · refine ⟨x7, Ev.succ ?_, hx, hb⟩
      simp only [worldmintref27_Bids.l0, w64 (most + 1) (by omega) (by omega), hr, Option.bind_some]
      simp only [if_neg hlt]
      exact Ev.some_
theorem bids_ok (n : Int) (l : List Int) (hl : ∀ x ∈ l, (Lit.int .i64 x).wf = true) (most : Int) (hn1 : 1 ≤ n) (hn8 : n ≤ 8) (hm0 : 0 ≤ most) (hm1 : most ≤ 1000) :
    ∃ L, Ev (fun k => worldmintref27_Bids.f k n l most) L ∧ (L.length : Int) ≤ most ∧ ∀ b ∈ L, GoodBid n b := by
  have := bids_l0 n l hl most hn1 hn8 hm0 hm1 _ [] rfl (by simpa using hm0) (by simp)
  simpa [worldmintref27_Bids.f] using this
end Go.Proofs.Ytdbpdkmnnlippaa.H

/- The search's answer: the best choice, and of equals the least. Plain. -/
namespace Go.Proofs.Ytdbpdkmnnlippaa.H
open Go.RowKit
set_option linter.unusedVariables false
set_option linter.unusedSimpArgs false
section
variable {U : S38 → Bool} {l : List S38}
end
end Go.Proofs.Ytdbpdkmnnlippaa.H

/- What the reference of bids computes: by the same plain words. -/
namespace Go.Proofs.Ytdbpdkmnnlippaa.H
open Go.RowKit Go.Proofs.YtdbpdkmnnlippaaW.PrintWords Go.Proofs.YtdbpdkmnnlippaaW.PrintLast
set_option linter.unusedVariables false
set_option linter.unusedSimpArgs false
/-- A bid of the reference as a bid of the program. -/
def cv (b : S40) : S38 := ⟨b.f0, b.f1, b.f2⟩
theorem drop_cons {α : Type} (l : List α) (p : Nat) (x : α) (d : List α) (h : l.drop p = x :: d) : l[p]? = some x ∧ l.drop (p + 1) = d ∧ p < l.length := by
  have h1 : l[p]? = some x := by
    have := congrArg (fun t => t[0]?) h
    simpa using this
  refine ⟨h1, ?_, ?_⟩
  · have := congrArg List.tail h
    simpa using this
  · have := congrArg List.length h
    simp at this
    omega
theorem drop_nil {α : Type} (l : List α) (p : Nat) (hp : p ≤ l.length) (h : l.drop p = []) : p = l.length := by
  have := congrArg List.length h
  simp at this
  omega
theorem rdR_at (l : List S40) (i : Nat) (x : S40) (h : l[i]? = some x) : rd_T40 l (i : Int) = x := by
  simp [rd_T40, List.getD, h]
theorem rdR_cv (l : List S40) (i : Int) : cv (rd_T40 l i) = (l.map cv).getD i.toNat z38 := by
  simp only [rd_T40, List.getD, List.getElem?_map]
  cases l[i.toNat]? <;> rfl
/-! ### given -/
theorem given_ok (l : List S40) (hl : l.length < 3518437208883) : Ev (fun k => worldmintlaw27_given.f k l) (l.map cv) := by
  have : ∀ (d : List S40) (p : Nat), l.drop p = d → p ≤ l.length → Ev (fun k => worldmintlaw27_given.l0 k l ((l.take p).map cv) (p : Int)) (l.map cv) := by
    intro d
    induction d with
    | nil =>
      intro p hd hp
      have := drop_nil l p hp hd
      subst this
      refine Ev.succ ?_
      simp only [worldmintlaw27_given.l0, if_neg (show ¬ (l.length : Int) < (l.length : Int) by omega), List.take_length]
      exact Ev.some_
    | cons x d ih =>
      intro p hd hp
      obtain ⟨hx, hd', hlt⟩ := drop_cons l p x d hd
      have hw : wrap64 ((p : Int) + 1) = ((p + 1 : Nat) : Int) := by rw [w64 _ (by omega) (by omega)]; omega
      have h1 := ih (p + 1) hd' (by omega)
      refine Ev.succ ?_
      simp only [worldmintlaw27_given.l0, if_pos (show (p : Int) < (l.length : Int) by omega), if_pos (show (0 : Int) ≤ (p : Int) by omega), rdR_at l p x hx, hw, List.length_map, List.length_take]
      simp only [if_pos (show min p l.length < 3518437208883 by omega)]
      have e : (l.take p).map cv ++ [⟨x.f0, x.f1, x.f2⟩] = (l.take (p + 1)).map cv := by
        have hg : l[p] = x := by
          have := List.getElem?_eq_getElem hlt
          rw [hx] at this
          injection this with this
          exact this.symm
        rw [List.take_succ_eq_append_getElem hlt, List.map_append, hg]
        rfl
      rw [e]
      exact h1
  exact this l 0 rfl (Nat.zero_le _)
/-! ### Conflict, Feasible, Value, Less, Choice -/
theorem has_ok (xs : List Int) (x : Int) (hl : xs.length ≤ 9223372036854775807) : Ev (fun k => worldmintref01_Has.f k xs x) (xs.contains x) := by
  have : ∀ (d : List Int) (p : Nat), xs.drop p = d → p ≤ xs.length → Ev (fun k => worldmintref01_Has.l0 k xs x (p : Int)) (d.contains x) := by
    intro d
    induction d with
    | nil =>
      intro p hd hp
      have := drop_nil xs p hp hd
      refine Ev.succ ?_
      simp only [worldmintref01_Has.l0, if_neg (show ¬ (p : Int) < (xs.length : Int) by omega)]
      exact Ev.some_
    | cons y d ih =>
      intro p hd hp
      obtain ⟨hx, hd', hlt⟩ := drop_cons xs p y d hd
      have hw : wrap64 ((p : Int) + 1) = ((p + 1 : Nat) : Int) := by rw [w64 _ (by omega) (by omega)]; omega
      have h1 := ih (p + 1) hd' (by omega)
      refine Ev.succ ?_
      simp only [worldmintref01_Has.l0, if_pos (show (p : Int) < (xs.length : Int) by omega), if_pos (show (0 : Int) ≤ (p : Int) by omega), rd_at xs p y hx, hw]
      by_cases c : y = x
      · subst c
        simp only [if_true]
        simpa using Ev.some_
      · simp only [if_neg c]
        have e : (y :: d).contains x = d.contains x := by rw [List.contains_cons, beq_false_of_ne (fun e : x = y => c e.symm), Bool.false_or]
        rw [e]
        exact h1
  exact this xs 0 rfl (Nat.zero_le _)
theorem rconf_ok (a0 a1 : Int) (a2 : List Int) (b0 b1 : Int) (b2 : List Int) (ha : a2.length ≤ 9223372036854775807) (hb : b2.length ≤ 9223372036854775807) :
    Ev (fun k => worldmintref27_Conflict.f k a0 a1 a2 b0 b1 b2) (conf ⟨b0, b1, b2⟩ ⟨a0, a1, a2⟩) := by
  have : ∀ (d : List Int) (p : Nat), a2.drop p = d → p ≤ a2.length → Ev (fun k => worldmintref27_Conflict.l0 k (p : Int) a0 a1 a2 b0 b1 b2) (d.any fun k => b2.contains k) := by
    intro d
    induction d with
    | nil =>
      intro p hd hp
      have := drop_nil a2 p hp hd
      refine Ev.succ ?_
      simp only [worldmintref27_Conflict.l0, if_neg (show ¬ (p : Int) < (a2.length : Int) by omega)]
      exact Ev.some_
    | cons y d ih =>
      intro p hd hp
      obtain ⟨hx, hd', hlt⟩ := drop_cons a2 p y d hd
      have hw : wrap64 ((p : Int) + 1) = ((p + 1 : Nat) : Int) := by rw [w64 _ (by omega) (by omega)]; omega
      have h1 := ih (p + 1) hd' (by omega)
      refine Ev.succ ?_
      simp only [worldmintref27_Conflict.l0, if_pos (show (p : Int) < (a2.length : Int) by omega), if_pos (show (0 : Int) ≤ (p : Int) by omega), rd_at a2 p y hx, hw]
      refine Ev.bind (has_ok b2 y hb) ?_
      simp only [List.any_cons]
      cases b2.contains y
      · simpa using h1
      · simpa using Ev.some_
  unfold worldmintref27_Conflict.f conf
  by_cases c : a0 = b0
  · subst c
    simp only [if_true]
    simpa using Ev.some_
  · simp only [if_neg c]
    have e : (b0 == a0) = false := by simpa using fun e : b0 = a0 => c e.symm
    simp only [e, Bool.false_or]
    exact this a2 0 rfl (Nat.zero_le _)
end Go.Proofs.Ytdbpdkmnnlippaa.H

/- Choices as sets of places: the best one, told without lists. Plain. -/
namespace Go.Proofs.Ytdbpdkmnnlippaa.H
open Go.RowKit
set_option linter.unusedVariables false
set_option linter.unusedSimpArgs false
/-- The places from i on, n of them, at which p holds. -/
def sel (p : Nat → Bool) : Nat → Nat → List Int
  | 0, _ => []
  | n + 1, i => if p i then (i : Int) :: sel p n (i + 1) else sel p n (i + 1)
def sumF (f : Nat → Int) : Nat → Nat → Int
  | 0, _ => 0
  | n + 1, i => f i + sumF f n (i + 1)
theorem mem_sel (p : Nat → Bool) (x : Int) : ∀ n i, x ∈ sel p n i ↔ ∃ k, i ≤ k ∧ k < i + n ∧ p k = true ∧ x = (k : Int)
  | 0, i => by simp [sel]; intro k h1 h2; omega
  | n + 1, i => by
    have ih := mem_sel p x n (i + 1)
    unfold sel
    by_cases h : p i = true
    · rw [if_pos h, List.mem_cons, ih]
      constructor
      · rintro (rfl | ⟨k, h1, h2, h3, h4⟩)
        · exact ⟨i, by omega, by omega, h, rfl⟩
        · exact ⟨k, by omega, by omega, h3, h4⟩
      · rintro ⟨k, h1, h2, h3, h4⟩
        by_cases e : k = i
        · subst e; exact .inl h4
        · exact .inr ⟨k, by omega, by omega, h3, h4⟩
    · rw [if_neg h, ih]
      constructor
      · rintro ⟨k, h1, h2, h3, h4⟩
        exact ⟨k, by omega, by omega, h3, h4⟩
      · rintro ⟨k, h1, h2, h3, h4⟩
        by_cases e : k = i
        · subst e; exact absurd h3 h
        · exact ⟨k, by omega, by omega, h3, h4⟩
theorem mem_sel0 (p : Nat → Bool) (n : Nat) (x : Int) : x ∈ sel p n 0 ↔ ∃ k, k < n ∧ p k = true ∧ x = (k : Int) := by
  rw [mem_sel]
  constructor
  · rintro ⟨k, h1, h2, h3, h4⟩; exact ⟨k, by omega, h3, h4⟩
  · rintro ⟨k, h2, h3, h4⟩; exact ⟨k, by omega, by omega, h3, h4⟩
theorem rise_sel (p : Nat → Bool) : ∀ n i, (sel p n i).Pairwise (· < ·)
  | 0, _ => List.Pairwise.nil
  | n + 1, i => by
    unfold sel
    split
    · refine List.pairwise_cons.2 ⟨fun x hx => ?_, rise_sel p n (i + 1)⟩
      obtain ⟨k, h1, h2, h3, rfl⟩ := (mem_sel p x n (i + 1)).1 hx
      omega
    · exact rise_sel p n (i + 1)
theorem sel_len (p : Nat → Bool) : ∀ n i, (sel p n i).length ≤ n
  | 0, i => by simp [sel]
  | n + 1, i => by
    have := sel_len p n (i + 1)
    unfold sel
    split
    · simp; omega
    · omega
theorem rise_ext : ∀ (s t : List Int), s.Pairwise (· < ·) → t.Pairwise (· < ·) → (∀ x, x ∈ s ↔ x ∈ t) → s = t
  | [], [], _, _, _ => rfl
  | [], y :: t, _, _, h => by have := (h y).2 (by simp); simp at this
  | x :: s, [], _, _, h => by have := (h x).1 (by simp); simp at this
  | x :: s, y :: t, hs, ht, h => by
    obtain ⟨s1, s2⟩ := List.pairwise_cons.1 hs
    obtain ⟨t1, t2⟩ := List.pairwise_cons.1 ht
    have e : x = y := by
      rcases List.mem_cons.1 ((h x).1 (by simp)) with e | e
      · exact e
      · rcases List.mem_cons.1 ((h y).2 (by simp)) with e2 | e2
        · exact e2.symm
        · have := t1 x e; have := s1 y e2; omega
    subst e
    rw [rise_ext s t s2 t2 (fun z => by
      constructor
      · intro hz
        rcases List.mem_cons.1 ((h z).1 (by simp [hz])) with e | e
        · subst e; exact absurd (s1 z hz) (Int.lt_irrefl _)
        · exact e
      · intro hz
        rcases List.mem_cons.1 ((h z).2 (by simp [hz])) with e | e
        · subst e; exact absurd (t1 z hz) (Int.lt_irrefl _)
        · exact e)]
theorem sel_congr (p q : Nat → Bool) : ∀ n i, (∀ k, i ≤ k → k < i + n → p k = q k) → sel p n i = sel q n i
  | 0, _, _ => rfl
  | n + 1, i, h => by
    unfold sel
    rw [h i (by omega) (by omega), sel_congr p q n (i + 1) (fun k h1 h2 => h k (by omega) (by omega))]
theorem sumF_le (f g : Nat → Int) : ∀ n i, (∀ k, i ≤ k → k < i + n → f k ≤ g k) → sumF f n i ≤ sumF g n i
  | 0, _, _ => Int.le_refl _
  | n + 1, i, h => by
    have h1 := h i (by omega) (by omega)
    have h2 := sumF_le f g n (i + 1) (fun k h1 h2 => h k (by omega) (by omega))
    unfold sumF
    omega
def cj (l : List S38) (a b : Nat) : Bool := conf (l.getD a z38) (l.getD b z38)
theorem conf_comm (a b : S38) : conf a b = conf b a := by
  unfold conf
  have h1 : (a.f0 == b.f0) = (b.f0 == a.f0) := by rw [Bool.eq_iff_iff]; simp; exact ⟨fun h => h.symm, fun h => h.symm⟩
  have h2 : (b.f2.any fun k => a.f2.contains k) = (a.f2.any fun k => b.f2.contains k) := by
    rw [Bool.eq_iff_iff, List.any_eq_true, List.any_eq_true]
    constructor <;> (rintro ⟨x, h1, h2⟩; exact ⟨x, by simpa using h2, by simpa using h1⟩)
  rw [h1, h2]
theorem cj_comm (l : List S38) (a b : Nat) : cj l a b = cj l b a := conf_comm _ _
end Go.Proofs.Ytdbpdkmnnlippaa.H

/- What bids.Parts tells: the components of the conflicts. Plain. -/
namespace Go.Proofs.Ytdbpdkmnnlippaa.H
open Go.RowKit
set_option linter.unusedVariables false
set_option linter.unusedSimpArgs false
/-- Place j can be reached from place i by conflicts. -/
def Conn (l : List S38) (i j : Nat) : Prop := ∀ S : Nat → Prop, S i → (∀ a b, a < l.length → b < l.length → S a → cj l a b = true → S b) → S j
section
variable {l : List S38}
theorem Conn.refl (i : Nat) : Conn l i i := fun _ h _ => h
theorem Conn.trans {i j k : Nat} (h1 : Conn l i j) (h2 : Conn l j k) : Conn l i k := fun S hi hc => h2 S (h1 S hi hc) hc
theorem Conn.one {i j : Nat} (hi : i < l.length) (hj : j < l.length) (h : cj l i j = true) : Conn l i j := fun S hs hc => hc i j hi hj hs h
theorem Conn.symm {i j : Nat} (h : Conn l i j) : Conn l j i :=
  h (fun x => Conn l x i) (Conn.refl i) (fun a b ha hb hs hc => (Conn.one hb ha (by rw [cj_comm]; exact hc)).trans hs)
/-- From state a to state b of a visit from i: what is new, and all that is new is reached from i. -/
structure VNew (l : List S38) (i : Nat) (a b : List Bool × List Int) (ns : List Nat) : Prop where
  grp : b.2 = a.2 ++ ns.map (fun k : Nat => (k : Int))
  nodup : ns.Nodup
  mem : ∀ k, k ∈ ns ↔ k < l.length ∧ a.1.getD k true = false ∧ b.1.getD k true = true
  mono : ∀ k, a.1.getD k true = true → b.1.getD k true = true
  conn : ∀ k ∈ ns, Conn l i k
theorem VNew.refl (i : Nat) (a : List Bool × List Int) : VNew l i a a [] :=
  ⟨by simp, List.nodup_nil, fun k => ⟨fun h => by simp at h, fun h => by rw [h.2.1] at h; cases h.2.2⟩, fun _ h => h, fun k hk => by simp at hk⟩
theorem VNew.trans {i j : Nat} {a b c : List Bool × List Int} {ns ms : List Nat} (h1 : VNew l i a b ns) (h2 : VNew l j b c ms) (hij : Conn l i j) : VNew l i a c (ns ++ ms) := by
  refine ⟨by rw [h2.grp, h1.grp, List.map_append, List.append_assoc], ?_, fun k => ?_, fun k hk => h2.mono k (h1.mono k hk), fun k hk => ?_⟩
  · rw [List.nodup_append]
    refine ⟨h1.nodup, h2.nodup, fun x hx y hy e => ?_⟩
    subst e
    have := ((h1.mem x).1 hx).2.2
    rw [((h2.mem x).1 hy).2.1] at this
    cases this
  · rw [List.mem_append, h1.mem, h2.mem]
    constructor
    · rintro (⟨a1, a2, a3⟩ | ⟨a1, a2, a3⟩)
      · exact ⟨a1, a2, h2.mono k a3⟩
      · refine ⟨a1, ?_, a3⟩
        cases h : a.1.getD k true
        · rfl
        · rw [h1.mono k h] at a2; cases a2
    · rintro ⟨a1, a2, a3⟩
      cases h : b.1.getD k true
      · exact .inr ⟨a1, rfl, a3⟩
      · exact .inl ⟨a1, a2, rfl⟩
  · rcases List.mem_append.1 hk with hk | hk
    · exact h1.conn k hk
    · exact hij.trans (h2.conn k hk)
/-- All that is new is closed. -/
def VClosed (l : List S38) (a b : List Bool × List Int) : Prop := ∀ k, k < l.length → a.1.getD k true = false → b.1.getD k true = true → ∀ j, j < l.length → cj l k j = true → b.1.getD j true = true
theorem getD_set (s : List Bool) (i k : Nat) : (s.set i true).getD k true = if k = i then true else s.getD k true := by
  simp only [List.getD, List.getElem?_set]
  by_cases h : i = k
  · subst h
    rw [if_pos rfl, if_pos rfl]
    split <;> rfl
  · rw [if_neg h, if_neg (fun e => h e.symm)]
theorem visit_new : ∀ (f i : Nat) (st : List Bool × List Int) (n : Nat), i < l.length → st.1.getD i true = false → Vis l f n st → (∃ ns, VNew l i st (visitP l f i st) ns) ∧ VClosed l st (visitP l f i st) ∧ (visitP l f i st).1.getD i true = true := by
  intro f
  induction f with
  | zero =>
    intro i st n hi hs h
    exfalso
    have h1 := h.2.1
    have h2 := unseen_set st.1 i hs
    omega
  | succ f ih =>
    intro i st n hi hs h
    have h0 : Vis l f n (st.1.set i true, st.2 ++ [(i : Int)]) := by
      have := unseen_set st.1 i hs
      refine ⟨by simpa using h.1, ?_, ?_⟩
      · have := h.2.1; simp only []; omega
      · have := h.2.2; simp only [List.length_append, List.length_cons, List.length_nil]; omega
    have hn0 : VNew l i st (st.1.set i true, st.2 ++ [(i : Int)]) [i] := by
      refine ⟨by simp, by simp, fun k => ?_, fun k hk => ?_, fun k hk => ?_⟩
      · rw [List.mem_singleton, getD_set]
        constructor
        · rintro rfl; exact ⟨hi, hs, by simp⟩
        · rintro ⟨a1, a2, a3⟩
          by_cases e : k = i
          · exact e
          · rw [if_neg e, a2] at a3; cases a3
      · rw [getD_set]; split
        · rfl
        · exact hk
      · rw [List.mem_singleton] at hk; subst hk; exact Conn.refl _
    have h1 : ∀ (js : List Nat) (s : List Bool × List Int) (ns : List Nat), (∀ j ∈ js, j < l.length) → Vis l f n s → VNew l i st s ns → s.1.getD i true = true →
        (∀ k, k < l.length → st.1.getD k true = false → k ≠ i → s.1.getD k true = true → ∀ j, j < l.length → cj l k j = true → s.1.getD j true = true) →
        (∃ ms, VNew l i st (js.foldl (vstep l f i) s) ms) ∧ (∀ k, s.1.getD k true = true → (js.foldl (vstep l f i) s).1.getD k true = true) ∧
        (∀ k, k < l.length → st.1.getD k true = false → k ≠ i → (js.foldl (vstep l f i) s).1.getD k true = true → ∀ j, j < l.length → cj l k j = true → (js.foldl (vstep l f i) s).1.getD j true = true) ∧
        (∀ j ∈ js, cj l i j = true → (js.foldl (vstep l f i) s).1.getD j true = true) := by
      intro js
      induction js with
      | nil => intro s ns _ _ hn _ hc; exact ⟨⟨ns, hn⟩, fun _ h => h, hc, by simp⟩
      | cons j js ihj =>
        intro s ns hj hv hn hsi hc
        have hjl := hj j (by simp)
        simp only [List.foldl_cons]
        have key : ∃ ms, VNew l i st (vstep l f i s j) ms ∧ Vis l f n (vstep l f i s j) ∧ (∀ k, s.1.getD k true = true → (vstep l f i s j).1.getD k true = true) ∧
            (∀ k, k < l.length → st.1.getD k true = false → k ≠ i → (vstep l f i s j).1.getD k true = true → ∀ m, m < l.length → cj l k m = true → (vstep l f i s j).1.getD m true = true) ∧
            (cj l i j = true → (vstep l f i s j).1.getD j true = true) := by
          obtain ⟨sn, gr⟩ := s
          cases hsj : sn.getD j true
          · cases hcj : cj l i j
            · rw [vstep_apart hcj]
              exact ⟨ns, hn, hv, fun _ h => h, hc, by simp⟩
            · rw [vstep_in hsj hcj]
              obtain ⟨⟨ms, hm⟩, hcl, hself⟩ := ih j (sn, gr) n hjl hsj hv
              refine ⟨ns ++ ms, hn.trans hm (Conn.one hi hjl hcj), visit_vis l f j (sn, gr) n hjl hsj hv, hm.mono, ?_, fun _ => hself⟩
              intro k hk hk0 hki hk1 m hml hkm
              cases hks : sn.getD k true
              · exact hcl k hk hks hk1 m hml hkm
              · exact hm.mono m (hc k hk hk0 hki hks m hml hkm)
          · rw [vstep_seen hsj]
            exact ⟨ns, hn, hv, fun _ h => h, hc, fun _ => hsj⟩
        obtain ⟨ms, k1, k2, k3, k4, k5⟩ := key
        obtain ⟨r1, r2, r3, r4⟩ := ihj (vstep l f i s j) ms (fun x hx => hj x (by simp [hx])) k2 k1 (k3 i hsi) k4
        refine ⟨r1, fun k hk => r2 k (k3 k hk), r3, fun x hx hcx => ?_⟩
        rcases List.mem_cons.1 hx with rfl | hx
        · exact r2 _ (k5 hcx)
        · exact r4 x hx hcx
    obtain ⟨r1, r2, r3, r4⟩ := h1 (List.range l.length) _ _ (fun j hj => List.mem_range.1 hj) h0 hn0 (by simp only [getD_set]; simp) (fun k hk hk0 hki hk1 j hj hc => by
      simp only [getD_set] at hk1
      rw [if_neg hki, hk0] at hk1
      cases hk1)
    rw [visit_succ]
    have hself := r2 i (by simp only [getD_set]; simp)
    refine ⟨r1, fun k hk hk0 hk1 j hj hc => ?_, hself⟩
    by_cases e : k = i
    · subst e; exact r4 j (List.mem_range.2 hj) hc
    · exact r3 k hk hk0 e hk1 j hj hc
end
open Classical in
/-- The places reached from i, in their order. -/
noncomputable def compP (l : List S38) (i : Nat) : List Int := sel (fun k => decide (Conn l i k)) l.length 0
open Classical in
/-- The first of its component. -/
noncomputable def isMin (l : List S38) (i : Nat) : Bool := decide (∀ j, j < i → ¬ Conn l i j)
theorem sorted_eq (xs ys : List Int) (hn : xs.Nodup) (hy : ys.Pairwise (· < ·)) (h : ∀ x, x ∈ xs ↔ x ∈ ys) : (xs.mergeSort fun x y => decide (x ≤ y)) = ys := by
  have hp := List.mergeSort_perm xs (fun x y => decide (x ≤ y))
  have hs : (xs.mergeSort fun x y => decide (x ≤ y)).Pairwise (fun a b => decide (a ≤ b) = true) :=
    List.pairwise_mergeSort (fun a b c h1 h2 => by simp only [decide_eq_true_eq] at *; omega) (fun a b => by simp only [Bool.or_eq_true, decide_eq_true_eq]; omega) xs
  have hnd : (xs.mergeSort fun x y => decide (x ≤ y)).Nodup := hp.nodup_iff.2 hn
  refine rise_ext _ _ ?_ hy (fun x => by rw [hp.mem_iff]; exact h x)
  have := List.Pairwise.and hs (List.nodup_iff_pairwise_ne.1 hnd)
  refine this.imp (fun {a b} hab => ?_)
  have h1 : a ≤ b := by simpa using hab.1
  have h2 := hab.2
  omega
open Classical in
theorem parts_eq (l : List S38) : partsP l = ((List.range l.length).filter (isMin l)).map (compP l) := by
  have h : ∀ m, m ≤ l.length → ∃ sn, (List.range m).foldl (partsStep l) (List.replicate l.length false, []) = (sn, ((List.range m).filter (isMin l)).map (compP l)) ∧ sn.length = l.length ∧ ∀ k, k < l.length → (sn.getD k true = true ↔ ∃ i, i < m ∧ Conn l i k) := by
    intro m
    induction m with
    | zero =>
      intro _
      refine ⟨List.replicate l.length false, rfl, by simp, fun k hk => ?_⟩
      constructor
      · intro h; simp [List.getD, List.getElem?_replicate, hk] at h
      · rintro ⟨i, hi, _⟩; omega
    | succ m ih =>
      intro hm
      obtain ⟨sn, h1, h2, h3⟩ := ih (by omega)
      rw [List.range_succ, List.foldl_append, h1, List.filter_append, List.map_append]
      simp only [List.foldl_cons, List.foldl_nil]
      cases hs : sn.getD m true
      · have hmin : isMin l m = true := by
          unfold isMin
          rw [decide_eq_true_eq]
          intro j hj hc
          have := (h3 m (by omega)).2 ⟨j, hj, hc.symm⟩
          rw [hs] at this
          cases this
        have hv : Vis l l.length (unseen sn) (sn, []) := ⟨h2, by have := unseen_le sn; simp only []; omega, by simp⟩
        obtain ⟨⟨ns, hn⟩, hcl, hself⟩ := visit_new l.length m (sn, []) (unseen sn) (by omega) hs hv
        have hv2 := visit_vis l l.length m (sn, []) (unseen sn) (by omega) hs hv
        have hstep : partsStep l (sn, ((List.range m).filter (isMin l)).map (compP l)) m = ((visitP l l.length m (sn, [])).1, ((List.range m).filter (isMin l)).map (compP l) ++ [(visitP l l.length m (sn, [])).2.mergeSort fun x y => decide (x ≤ y)]) := by
          unfold partsStep; rw [show (sn, ((List.range m).filter (isMin l)).map (compP l)).1 = sn from rfl, hs]; rfl
        generalize visitP l l.length m (sn, []) = r at *
        have hmem : ∀ k, k < l.length → (k ∈ ns ↔ Conn l m k) := by
          intro k hk
          constructor
          · exact hn.conn k
          · intro hc
            have hu : sn.getD k true = false := by
              cases hsk : sn.getD k true
              · rfl
              · obtain ⟨i, hi, hik⟩ := (h3 k hk).1 hsk
                have := (h3 m (by omega)).2 ⟨i, hi, hik.trans hc.symm⟩
                rw [hs] at this
                cases this
            refine (hn.mem k).2 ⟨hk, hu, hc (fun x => r.1.getD x true = true) hself (fun a b ha hb hra hab => ?_)⟩
            cases hsa : sn.getD a true
            · exact hcl a ha hsa hra b hb hab
            · obtain ⟨i, hi, hia⟩ := (h3 a ha).1 hsa
              exact hn.mono b ((h3 b hb).2 ⟨i, hi, hia.trans (Conn.one ha hb hab)⟩)
        have hsort : (r.2.mergeSort fun x y => decide (x ≤ y)) = compP l m := by
          refine sorted_eq _ _ ?_ (rise_sel _ _ _) (fun x => ?_)
          · rw [hn.grp]
            simp only [List.nil_append]
            rw [List.nodup_iff_pairwise_ne, List.pairwise_map]
            exact (List.nodup_iff_pairwise_ne.1 hn.nodup).imp (fun h e => h (by omega))
          · unfold compP
            rw [hn.grp, mem_sel0]
            simp only [List.nil_append, List.mem_map, decide_eq_true_eq]
            constructor
            · rintro ⟨k, hk, rfl⟩
              have hkl := ((hn.mem k).1 hk).1
              exact ⟨k, hkl, (hmem k hkl).1 hk, rfl⟩
            · rintro ⟨k, hk, hc, rfl⟩
              exact ⟨k, (hmem k hk).2 hc, rfl⟩
        refine ⟨r.1, by rw [hstep, hsort]; simp [hmin], hv2.1, fun k hk => ?_⟩
        constructor
        · intro hrk
          cases hsk : sn.getD k true
          · exact ⟨m, by omega, hn.conn k ((hn.mem k).2 ⟨hk, hsk, hrk⟩)⟩
          · obtain ⟨i, hi, hik⟩ := (h3 k hk).1 hsk
            exact ⟨i, by omega, hik⟩
        · rintro ⟨i, hi, hik⟩
          by_cases e : i = m
          · subst e; exact ((hn.mem k).1 ((hmem k hk).2 hik)).2.2
          · exact hn.mono k ((h3 k hk).2 ⟨i, by omega, hik⟩)
      · obtain ⟨i, hi, him⟩ := (h3 m (by omega)).1 hs
        have hmin : isMin l m = false := by
          unfold isMin
          rw [decide_eq_false_iff_not]
          exact fun h => h i hi him.symm
        refine ⟨sn, by unfold partsStep; rw [show (sn, ((List.range m).filter (isMin l)).map (compP l)).1 = sn from rfl, hs]; simp [hmin], h2, fun k hk => ?_⟩
        rw [h3 k hk]
        constructor
        · rintro ⟨j, hj, hjk⟩; exact ⟨j, by omega, hjk⟩
        · rintro ⟨j, hj, hjk⟩
          by_cases e : j = m
          · subst e; exact ⟨i, hi, him.trans hjk⟩
          · exact ⟨j, by omega, hjk⟩
  obtain ⟨sn, h1, _⟩ := h l.length (Nat.le_refl _)
  unfold partsP
  rw [h1]
end Go.Proofs.Ytdbpdkmnnlippaa.H

/- The best choice, group by group; what Reduce leaves. Plain. -/
namespace Go.Proofs.Ytdbpdkmnnlippaa.H
open Go.RowKit
set_option linter.unusedVariables false
set_option linter.unusedSimpArgs false
section
variable {l : List S38}
end
section
variable {l : List S38} {g : List Int} (hr : g.Pairwise (· < ·)) (hg : ∀ k ∈ g, 0 ≤ k ∧ k < l.length)
include hr hg
end
/-! ### the groups of Parts -/
theorem part_mem (l : List S38) (g : List Int) (hg : g ∈ partsP l) : ∃ i, i < l.length ∧ isMin l i = true ∧ g = compP l i := by
  rw [parts_eq] at hg
  obtain ⟨i, hi, e⟩ := List.mem_map.1 hg
  obtain ⟨h1, h2⟩ := List.mem_filter.1 hi
  exact ⟨i, List.mem_range.1 h1, h2, e.symm⟩
open Classical in
theorem isMin_iff (l : List S38) (i : Nat) : isMin l i = true ↔ ∀ j, j < i → ¬ Conn l i j := by
  unfold isMin
  exact decide_eq_true_iff
theorem min_of (l : List S38) : ∀ k, ∃ i, i ≤ k ∧ isMin l i = true ∧ Conn l i k := by
  intro k
  induction k using Nat.strongRecOn with
  | ind k ih =>
    cases h : isMin l k
    · have h' : ¬ ∀ j, j < k → ¬ Conn l k j := fun h2 => by rw [(isMin_iff l k).2 h2] at h; cases h
      simp only [Classical.not_forall, Classical.not_not] at h'
      obtain ⟨j, hj, hc⟩ := h'
      obtain ⟨i, h1, h2, h3⟩ := ih j hj
      exact ⟨i, by omega, h2, h3.trans hc.symm⟩
    · exact ⟨k, Nat.le_refl _, h, Conn.refl k⟩
theorem parts_len (l : List S38) : (partsP l).length ≤ l.length := by
  rw [parts_eq, List.length_map]
  have := List.length_filter_le (isMin l) (List.range l.length)
  simpa using this
end Go.Proofs.Ytdbpdkmnnlippaa.H

/- What the reference's Groups and Parts compute: the components. Plain. -/
namespace Go.Proofs.Ytdbpdkmnnlippaa.H
open Go.RowKit Go.Proofs.YtdbpdkmnnlippaaW.PrintWords Go.Proofs.YtdbpdkmnnlippaaW.PrintLast
set_option linter.unusedVariables false
set_option linter.unusedSimpArgs false
def gStep (l : List S38) (i : Nat) (out : List Int) (k : Nat) : List Int := if cj l i k && decide (out.getD k 0 < out.getD i 0) then out.set i (out.getD k 0) else out
def gRow (l : List S38) (out : List Int) (i : Nat) : List Int := (List.range l.length).foldl (gStep l i) out
def gPass (l : List S38) (out : List Int) : List Int := (List.range l.length).foldl (gRow l) out
def groupsP (l : List S38) : List Int := (List.range l.length).foldl (fun out _ => gPass l out) ((List.range l.length).map fun k : Nat => (k : Int))
theorem gStep_len (l : List S38) (i : Nat) (out : List Int) (k : Nat) : (gStep l i out k).length = out.length := by
  unfold gStep; split <;> simp
theorem foldl_len {α : Type} (f : List Int → α → List Int) (hf : ∀ o a, (f o a).length = o.length) : ∀ (s : List α) (o : List Int), (s.foldl f o).length = o.length
  | [], _ => rfl
  | a :: s, o => by rw [List.foldl_cons, foldl_len f hf s, hf]
theorem gRow_len (l : List S38) (out : List Int) (i : Nat) : (gRow l out i).length = out.length := foldl_len _ (fun o k => gStep_len l i o k) _ _
theorem gPass_len (l : List S38) (out : List Int) : (gPass l out).length = out.length := foldl_len _ (fun o i => gRow_len l o i) _ _
section
variable (L : List S40) (hb : ∀ b ∈ L, b.f2.length ≤ 9223372036854775807) (hL : L.length ≤ 1000)
theorem cvR_at (i : Nat) : (L.map cv).getD i z38 = cv (rd_T40 L (i : Int)) := by
  rw [rdR_cv]; rfl
include hb hL
theorem rg_l3 (pass : Int) (i : Nat) (hi : i < L.length) (r : List Int) : ∀ (d k : Nat) (out : List Int), k + d = L.length → out.length = L.length →
    Ev (fun q => worldmintref27_Groups.l2 q L ((List.range' k d).foldl (gStep (L.map cv) i) out) pass ((i + 1 : Nat) : Int)) r → Ev (fun q => worldmintref27_Groups.l3 q L out pass (i : Int) (k : Int)) r := by
  have hwi : wrap64 ((i : Int) + 1) = ((i + 1 : Nat) : Int) := by rw [w64 _ (by omega) (by omega)]; omega
  have hi0 : (0 : Int) ≤ (i : Int) := by omega
  have hi1 : (i : Int) < (L.length : Int) := by omega
  have hbi : (rd_T40 L (i : Int)).f2.length ≤ 9223372036854775807 := hb _ (by simp [rd_T40, List.getD, hi])
  intro d
  induction d with
  | zero =>
    intro k out hk ho h
    have hk1 : ¬ (k : Int) < (L.length : Int) := by omega
    refine Ev.succ ?_
    simp only [worldmintref27_Groups.l3, if_neg hk1, hwi]
    simpa using h
  | succ d ih =>
    intro k out hk ho h
    have hk1 : (k : Int) < (L.length : Int) := by omega
    have hk0 : (0 : Int) ≤ (k : Int) := by omega
    have hk2 : (k : Int) < (out.length : Int) := by omega
    have hi2 : (i : Int) < (out.length : Int) := by omega
    have hwk : wrap64 ((k : Int) + 1) = ((k + 1 : Nat) : Int) := by rw [w64 _ (by omega) (by omega)]; omega
    have hbk : (rd_T40 L (k : Int)).f2.length ≤ 9223372036854775807 := hb _ (by simp [rd_T40, List.getD, show k < L.length by omega])
    rw [List.range'_succ, List.foldl_cons] at h
    have hc := rconf_ok (rd_T40 L (i : Int)).f0 (rd_T40 L (i : Int)).f1 (rd_T40 L (i : Int)).f2 (rd_T40 L (k : Int)).f0 (rd_T40 L (k : Int)).f1 (rd_T40 L (k : Int)).f2 hbi hbk
    have hcj : cj (L.map cv) i k = conf ⟨(rd_T40 L (k : Int)).f0, (rd_T40 L (k : Int)).f1, (rd_T40 L (k : Int)).f2⟩ ⟨(rd_T40 L (i : Int)).f0, (rd_T40 L (i : Int)).f1, (rd_T40 L (i : Int)).f2⟩ := by
      rw [cj_comm]
      unfold cj
      rw [cvR_at, cvR_at]
      rfl
    have hr1 : rd out (k : Int) = out.getD k 0 := rfl
    have hr2 : rd out (i : Int) = out.getD i 0 := rfl
    refine Ev.succ ?_
    simp only [worldmintref27_Groups.l3, if_pos hk1, if_pos hi0, if_pos hi1, if_pos hk0, if_pos hk2, if_pos hi2, hwk, hr1, hr2]
    refine Ev.bind hc ?_
    have hstep : gStep (L.map cv) i out k = if conf ⟨(rd_T40 L (k : Int)).f0, (rd_T40 L (k : Int)).f1, (rd_T40 L (k : Int)).f2⟩ ⟨(rd_T40 L (i : Int)).f0, (rd_T40 L (i : Int)).f1, (rd_T40 L (i : Int)).f2⟩ && decide (out.getD k 0 < out.getD i 0) then out.set i (out.getD k 0) else out := by unfold gStep; rw [hcj]
    have hih := fun o ho' => ih (k + 1) o (by omega) ho'
    rw [hstep] at h
    cases hcc : conf ⟨(rd_T40 L (k : Int)).f0, (rd_T40 L (k : Int)).f1, (rd_T40 L (k : Int)).f2⟩ ⟨(rd_T40 L (i : Int)).f0, (rd_T40 L (i : Int)).f1, (rd_T40 L (i : Int)).f2⟩
    · rw [hcc, Bool.false_and, if_neg (by simp)] at h
      simp only [Bool.false_eq_true, if_false]
      exact hih out ho h
    · rw [hcc, Bool.true_and] at h
      simp only [if_true]
      by_cases c : out.getD k 0 < out.getD i 0
      · rw [if_pos (by simpa using c)] at h
        simp only [if_pos c]
        exact hih _ (by simp [ho]) h
      · rw [if_neg (by simpa using c)] at h
        simp only [if_neg c]
        exact hih out ho h
theorem rg_l2 (pass : Nat) (hpass : pass < 1000) (r : List Int) : ∀ (d i : Nat) (out : List Int), i + d = L.length → out.length = L.length →
    Ev (fun q => worldmintref27_Groups.l1 q L ((List.range' i d).foldl (gRow (L.map cv)) out) ((pass + 1 : Nat) : Int)) r → Ev (fun q => worldmintref27_Groups.l2 q L out (pass : Int) (i : Int)) r := by
  have hwi : wrap64 ((pass : Int) + 1) = ((pass + 1 : Nat) : Int) := by rw [w64 _ (by omega) (by omega)]; omega
  intro d
  induction d with
  | zero =>
    intro i out hi ho h
    have hi1 : ¬ (i : Int) < (L.length : Int) := by omega
    refine Ev.succ ?_
    simp only [worldmintref27_Groups.l2, if_neg hi1, hwi]
    simpa using h
  | succ d ih =>
    intro i out hi ho h
    have hi1 : (i : Int) < (L.length : Int) := by omega
    rw [List.range'_succ, List.foldl_cons] at h
    refine Ev.succ ?_
    simp only [worldmintref27_Groups.l2, if_pos hi1]
    refine rg_l3 L hb hL pass i (by omega) r L.length 0 out (by omega) ho ?_
    have he : (List.range' 0 L.length).foldl (gStep (L.map cv) i) out = gRow (L.map cv) out i := by unfold gRow; rw [List.range_eq_range', List.length_map]
    rw [he]
    exact ih (i + 1) _ (by omega) (by rw [gRow_len]; exact ho) h
theorem rgroups_ok : Ev (fun q => worldmintref27_Groups.f q L) (groupsP (L.map cv)) := by
  have h1 : ∀ (d p : Nat) (out : List Int), p + d = L.length → out.length = L.length → Ev (fun q => worldmintref27_Groups.l1 q L out (p : Int)) ((List.range' p d).foldl (fun out _ => gPass (L.map cv) out) out) := by
    intro d
    induction d with
    | zero =>
      intro p out hp ho
      have hp1 : ¬ (p : Int) < (L.length : Int) := by omega
      refine Ev.succ ?_
      simp only [worldmintref27_Groups.l1, if_neg hp1]
      exact Ev.some_
    | succ d ih =>
      intro p out hp ho
      have hp1 : (p : Int) < (L.length : Int) := by omega
      rw [List.range'_succ, List.foldl_cons]
      refine Ev.succ ?_
      simp only [worldmintref27_Groups.l1, if_pos hp1]
      refine rg_l2 L hb hL p (by omega) _ L.length 0 out (by omega) ho ?_
      have he : (List.range' 0 L.length).foldl (gRow (L.map cv)) out = gPass (L.map cv) out := by unfold gPass; rw [List.range_eq_range', List.length_map]
      rw [he]
      exact ih (p + 1) _ (by omega) (by rw [gPass_len]; exact ho)
  have h0 : ∀ (d i : Nat), i + d = L.length → Ev (fun q => worldmintref27_Groups.l0 q L ((List.range i).map fun k : Nat => (k : Int)) (i : Int)) (groupsP (L.map cv)) := by
    intro d
    induction d with
    | zero =>
      intro i hi
      obtain rfl : i = L.length := by omega
      have hi1 : ¬ (L.length : Int) < (L.length : Int) := by omega
      refine Ev.succ ?_
      simp only [worldmintref27_Groups.l0, if_neg hi1]
      have h := h1 L.length 0 ((List.range L.length).map fun k : Nat => (k : Int)) (by omega) (by simp)
      unfold groupsP
      rw [List.length_map, List.range_eq_range']
      rw [List.range_eq_range'] at h
      exact h
    | succ d ih =>
      intro i hi
      have hi1 : (i : Int) < (L.length : Int) := by omega
      have hwi : wrap64 ((i : Int) + 1) = ((i + 1 : Nat) : Int) := by rw [w64 _ (by omega) (by omega)]; omega
      have hlen : ((List.range i).map fun k : Nat => (k : Int)).length < 17592186044416 := by simp; omega
      have hih := ih (i + 1) (by omega)
      rw [List.range_succ, List.map_append] at hih
      refine Ev.succ ?_
      simp only [worldmintref27_Groups.l0, if_pos hi1, if_pos hlen, hwi]
      exact hih
  exact h0 L.length 0 (by omega)
end
/-! ### the labels are the first places of the components -/
/-- Labels: places from which theirs is reached. -/
def Lab (l : List S38) (out : List Int) : Prop := out.length = l.length ∧ ∀ i, i < l.length → ∃ m : Nat, out.getD i 0 = (m : Int) ∧ Conn l m i
def Good (l : List S38) (out : List Int) (i : Nat) : Prop := ∃ m : Nat, isMin l m = true ∧ Conn l m i ∧ out.getD i 0 = (m : Int)
section
variable {l : List S38}
theorem min_le {m k i : Nat} (hm : isMin l m = true) (h1 : Conn l m i) (h2 : Conn l k i) : m ≤ k := by
  rcases Nat.lt_or_ge k m with h | h
  · exact absurd (h1.trans h2.symm) ((isMin_iff l m).1 hm k h)
  · exact h
theorem min_same {m k i : Nat} (hm : isMin l m = true) (hk : isMin l k = true) (h1 : Conn l m i) (h2 : Conn l k i) : m = k :=
  Nat.le_antisymm (min_le hm h1 h2) (min_le hk h2 h1)
theorem getD_set0 (out : List Int) (i k : Nat) (x : Int) (hi : i < out.length) : (out.set i x).getD k 0 = if k = i then x else out.getD k 0 := by
  simp only [List.getD, List.getElem?_set]
  by_cases h : i = k
  · subst h; simp [hi]
  · rw [if_neg h, if_neg (fun e => h e.symm)]
theorem gStep_lab {out : List Int} (h : Lab l out) (i k : Nat) (hi : i < l.length) (hk : k < l.length) : Lab l (gStep l i out k) ∧ (∀ j, Good l out j → j < l.length → Good l (gStep l i out k) j) ∧ (cj l i k = true → Good l out k → Good l (gStep l i out k) i) := by
  obtain ⟨mi, ei, ci⟩ := h.2 i hi
  obtain ⟨mk, ek, ck⟩ := h.2 k hk
  have hil : i < out.length := by rw [h.1]; exact hi
  by_cases hc : (cj l i k && decide (out.getD k 0 < out.getD i 0)) = true
  · have hs : gStep l i out k = out.set i (out.getD k 0) := by unfold gStep; rw [if_pos hc]
    rw [hs]
    simp only [Bool.and_eq_true, decide_eq_true_eq] at hc
    have hki : Conn l k i := (Conn.one hi hk hc.1).symm
    refine ⟨⟨by simpa using h.1, fun j hj => ?_⟩, fun j hg hj => ?_, fun _ hg => ?_⟩
    · rw [getD_set0 out i j _ hil]
      by_cases e : j = i
      · subst e
        rw [if_pos rfl]
        exact ⟨mk, ek, ck.trans hki⟩
      · rw [if_neg e]
        exact h.2 j hj
    · by_cases e : j = i
      · subst e
        obtain ⟨m, hm, hmc, hme⟩ := hg
        have := min_le hm hmc (ck.trans hki)
        have := hc.2
        omega
      · obtain ⟨m, hm, hmc, hme⟩ := hg
        exact ⟨m, hm, hmc, by rw [getD_set0 out i j _ hil, if_neg e]; exact hme⟩
    · obtain ⟨m, hm, hmc, hme⟩ := hg
      exact ⟨m, hm, hmc.trans hki, by rw [getD_set0 out i i _ hil, if_pos rfl]; exact hme⟩
  · have hs : gStep l i out k = out := by unfold gStep; rw [if_neg hc]
    rw [hs]
    refine ⟨h, fun j hg _ => hg, fun hcj hg => ?_⟩
    obtain ⟨m, hm, hmc, hme⟩ := hg
    have hki : Conn l k i := (Conn.one hi hk hcj).symm
    have h1 : ¬ out.getD k 0 < out.getD i 0 := fun h2 => hc (by rw [hcj]; simpa using h2)
    have h2 := min_le hm (hmc.trans hki) ci
    exact ⟨m, hm, hmc.trans hki, by omega⟩
theorem gRow_lab (i : Nat) (hi : i < l.length) : ∀ (ks : List Nat) (out : List Int), (∀ k ∈ ks, k < l.length) → Lab l out →
    Lab l (ks.foldl (gStep l i) out) ∧ (∀ j, j < l.length → Good l out j → Good l (ks.foldl (gStep l i) out) j) ∧ ∀ k ∈ ks, cj l i k = true → Good l out k → Good l (ks.foldl (gStep l i) out) i
  | [], out, _, h => ⟨h, fun _ _ hg => hg, by simp⟩
  | k :: ks, out, hk, h => by
    obtain ⟨a1, a2, a3⟩ := gStep_lab h i k hi (hk k (by simp))
    obtain ⟨b1, b2, b3⟩ := gRow_lab i hi ks (gStep l i out k) (fun x hx => hk x (by simp [hx])) a1
    refine ⟨b1, fun j hj hg => b2 j hj (a2 j hg hj), fun x hx hc hg => ?_⟩
    rcases List.mem_cons.1 hx with rfl | hx
    · exact b2 i hi (a3 hc hg)
    · exact b3 x hx hc (a2 x hg (hk x (by simp [hx])))
theorem gPass_lab : ∀ (is : List Nat) (out : List Int), (∀ i ∈ is, i < l.length) → Lab l out →
    Lab l (is.foldl (gRow l) out) ∧ (∀ j, j < l.length → Good l out j → Good l (is.foldl (gRow l) out) j) ∧ ∀ i ∈ is, ∀ k, k < l.length → cj l i k = true → Good l out k → Good l (is.foldl (gRow l) out) i
  | [], out, _, h => ⟨h, fun _ _ hg => hg, by simp⟩
  | i :: is, out, hi, h => by
    obtain ⟨a1, a2, a3⟩ := gRow_lab i (hi i (by simp)) (List.range l.length) out (fun k hk => List.mem_range.1 hk) h
    obtain ⟨b1, b2, b3⟩ := gPass_lab is (gRow l out i) (fun x hx => hi x (by simp [hx])) a1
    refine ⟨b1, fun j hj hg => b2 j hj (a2 j hj hg), fun x hx k hk hc hg => ?_⟩
    rcases List.mem_cons.1 hx with rfl | hx
    · exact b2 x (hi x (by simp)) (a3 k (List.mem_range.2 hk) hc hg)
    · exact b3 x hx k hk hc (a2 k hk hg)
end
open Classical in
noncomputable def cntG (l : List S38) (out : List Int) : Int := sumF (fun k => if Good l out k then 1 else 0) l.length 0
theorem sumF_lt (f g : Nat → Int) (a : Nat) : ∀ n i, (∀ k, i ≤ k → k < i + n → f k ≤ g k) → i ≤ a → a < i + n → f a < g a → sumF f n i < sumF g n i
  | 0, i, _, h1, h2, _ => by omega
  | n + 1, i, h, h1, h2, h3 => by
    have h0 := h i (by omega) (by omega)
    unfold sumF
    by_cases e : i = a
    · subst e
      have := sumF_le f g n (i + 1) (fun k a b => h k (by omega) (by omega))
      omega
    · have := sumF_lt f g a n (i + 1) (fun k a b => h k (by omega) (by omega)) (by omega) (by omega) h3
      omega
theorem sumF_const (c : Int) : ∀ n i, sumF (fun _ => c) n i = n * c
  | 0, _ => by simp [sumF]
  | n + 1, i => by
    unfold sumF
    rw [sumF_const c n (i + 1)]
    have : ((n + 1 : Nat) : Int) * c = (n : Int) * c + c := by rw [Int.natCast_add, Int.add_mul]; simp
    omega
open Classical in
theorem groups_good (l : List S38) : Lab l (groupsP l) ∧ ∀ i, i < l.length → Good l (groupsP l) i := by
  have h0 : Lab l ((List.range l.length).map fun k : Nat => (k : Int)) := ⟨by simp, fun i hi => ⟨i, by simp [List.getD, hi], Conn.refl i⟩⟩
  have hstart : ∀ m, m < l.length → isMin l m = true → Good l ((List.range l.length).map fun k : Nat => (k : Int)) m := fun m hm h => ⟨m, h, Conn.refl m, by simp [List.getD, hm]⟩
  have key : ∀ p, ∃ out, (List.range p).foldl (fun out _ => gPass l out) ((List.range l.length).map fun k : Nat => (k : Int)) = out ∧ Lab l out ∧ (∀ m, m < l.length → isMin l m = true → Good l out m) ∧ ((∀ i, i < l.length → Good l out i) ∨ (p : Int) + 1 ≤ cntG l out) := by
    intro p
    induction p with
    | zero =>
      refine ⟨(List.range l.length).map fun k : Nat => (k : Int), rfl, h0, hstart, ?_⟩
      rcases Nat.eq_zero_or_pos l.length with hz | hz
      · exact .inl (fun i hi => by omega)
      · right
        have hm0 : isMin l 0 = true := (isMin_iff l 0).2 (fun j hj => by omega)
        have hg0 := hstart 0 hz hm0
        have hlt := sumF_lt (fun _ => 0) (fun k => if Good l ((List.range l.length).map fun k : Nat => (k : Int)) k then (1 : Int) else 0) 0 l.length 0 (fun k _ _ => by show (0 : Int) ≤ _; split <;> omega) (by omega) (by omega) (by show (0 : Int) < _; rw [if_pos hg0]; omega)
        rw [sumF_const] at hlt
        unfold cntG
        omega
    | succ p ih =>
      obtain ⟨out, h1, h2, h3, h4⟩ := ih
      obtain ⟨a1, a2', a3⟩ := gPass_lab (List.range l.length) out (fun i hi => List.mem_range.1 hi) h2
      have a2 : ∀ j, j < l.length → Good l out j → Good l (gPass l out) j := a2'
      refine ⟨gPass l out, by rw [List.range_succ, List.foldl_append, h1]; rfl, a1, fun m hm hmin => a2 m hm (h3 m hm hmin), ?_⟩
      by_cases hall : ∀ i, i < l.length → Good l (gPass l out) i
      · exact .inl hall
      · right
        have hnot : ¬ ∀ i, i < l.length → Good l out i := fun h => hall (fun i hi => a2 i hi (h i hi))
        rcases h4 with h4 | h4
        · exact absurd h4 hnot
        · -- a place beside a good one that is not yet good
          have hex : ∃ i k, i < l.length ∧ k < l.length ∧ cj l i k = true ∧ Good l out k ∧ ¬ Good l out i := by
            refine Classical.byContradiction (fun hne => hnot (fun i hi => ?_))
            obtain ⟨m, hm1, hm2, hm3⟩ := min_of l i
            refine hm3 (fun x => Good l out x) (h3 m (by omega) hm2) (fun a b ha hb hga hab => ?_)
            refine Classical.byContradiction (fun hgb => hne ⟨b, a, hb, ha, by rw [cj_comm]; exact hab, hga, hgb⟩)
          obtain ⟨i, k, hi, hk, hc, hgk, hgi⟩ := hex
          have hgi2 := a3 i (List.mem_range.2 hi) k hk hc hgk
          have hlt := sumF_lt (fun k => if Good l out k then (1 : Int) else 0) (fun k => if Good l (gPass l out) k then (1 : Int) else 0) i l.length 0 (fun x _ hx => by
            show (if Good l out x then (1 : Int) else 0) ≤ (if Good l (gPass l out) x then (1 : Int) else 0)
            by_cases hgx : Good l out x
            · rw [if_pos hgx, if_pos (a2 x (by omega) hgx)]; omega
            · rw [if_neg hgx]; split <;> omega) (by omega) (by omega) (by
            show (if Good l out i then (1 : Int) else 0) < (if Good l (gPass l out) i then (1 : Int) else 0)
            rw [if_neg hgi]
            have h5 : Good l (gPass l out) i := hgi2
            rw [if_pos h5]
            omega)
          unfold cntG at h4 ⊢
          omega
  obtain ⟨out, h1, h2, h3, h4⟩ := key l.length
  have he : groupsP l = out := h1
  rw [he]
  refine ⟨h2, ?_⟩
  rcases h4 with h4 | h4
  · exact h4
  · exfalso
    have hle := sumF_le (fun k => if Good l out k then (1 : Int) else 0) (fun _ => 1) l.length 0 (fun k _ _ => by show (if Good l out k then (1 : Int) else 0) ≤ 1; split <;> omega)
    rw [sumF_const] at hle
    unfold cntG at h4
    omega
/-! ### Parts -/
/-- One group for each place at which p holds. -/
def selM (f : Nat → List Int) (p : Nat → Bool) : Nat → Nat → List (List Int)
  | 0, _ => []
  | n + 1, i => if p i then f i :: selM f p n (i + 1) else selM f p n (i + 1)
theorem selM_eq (f : Nat → List Int) (p : Nat → Bool) : ∀ n i, selM f p n i = ((List.range' i n).filter p).map f
  | 0, _ => rfl
  | n + 1, i => by
    unfold selM
    rw [List.range'_succ, List.filter_cons, selM_eq f p n (i + 1)]
    split <;> rfl
theorem selM_congr (f g : Nat → List Int) (p q : Nat → Bool) : ∀ n i, (∀ k, i ≤ k → k < i + n → p k = q k ∧ (q k = true → f k = g k)) → selM f p n i = selM g q n i
  | 0, _, _ => rfl
  | n + 1, i, h => by
    have h1 := h i (by omega) (by omega)
    unfold selM
    rw [h1.1, selM_congr f g p q n (i + 1) (fun k a b => h k (by omega) (by omega))]
    by_cases c : q i = true
    · rw [if_pos c, if_pos c, h1.2 c]
    · rw [if_neg c, if_neg c]
open Classical in
theorem parts_sel (l : List S38) : partsP l = selM (fun i => sel (fun k => decide ((groupsP l).getD k 0 = (i : Int))) l.length 0) (fun i => decide ((groupsP l).getD i 0 = (i : Int))) l.length 0 := by
  obtain ⟨hL, hG⟩ := groups_good l
  rw [parts_eq, List.range_eq_range', ← selM_eq]
  refine selM_congr _ _ _ _ _ _ (fun i _ hi => ?_)
  have hi' : i < l.length := by omega
  obtain ⟨m, hm, hc, he⟩ := hG i hi'
  have h1 : isMin l i = decide ((groupsP l).getD i 0 = (i : Int)) := by
    rw [Bool.eq_iff_iff, decide_eq_true_eq]
    constructor
    · intro h
      have := min_same hm h hc (Conn.refl i)
      rw [he, this]
    · intro h
      have : m = i := by omega
      rw [← this]; exact hm
  refine ⟨h1, fun h2 => ?_⟩
  unfold compP
  refine sel_congr _ _ _ _ (fun k _ hk => ?_)
  have hk' : k < l.length := by omega
  obtain ⟨q, hq, hqc, hqe⟩ := hG k hk'
  have hmin : isMin l i = true := by rw [h1]; exact h2
  rw [Bool.eq_iff_iff, decide_eq_true_eq, decide_eq_true_eq, hqe]
  constructor
  · intro h
    rw [min_same hq hmin hqc h]
  · intro h
    have : q = i := by omega
    rw [← this]; exact hqc
section
variable (L : List S40) (hL : L.length ≤ 1000)
include hL
theorem rp_l1 (out : List Int) (ho : out.length = L.length) (acc : List (List Int)) (hacc : acc.length ≤ 1000) (i : Nat) (hi : i < L.length) (r : List (List Int)) : ∀ (d k : Nat) (grp : List Int), k + d = L.length → grp.length ≤ k →
    Ev (fun q => worldmintref27_Parts.l0 q L out (acc ++ [grp ++ sel (fun k => decide (out.getD k 0 = (i : Int))) d k]) ((i + 1 : Nat) : Int)) r → Ev (fun q => worldmintref27_Parts.l1 q L out acc (i : Int) grp (k : Int)) r := by
  have hwi : wrap64 ((i : Int) + 1) = ((i + 1 : Nat) : Int) := by rw [w64 _ (by omega) (by omega)]; omega
  have hal : acc.length < 5864062014805 := by omega
  intro d
  induction d with
  | zero =>
    intro k grp hk hg h
    have hk1 : ¬ (k : Int) < (L.length : Int) := by omega
    refine Ev.succ ?_
    simp only [worldmintref27_Parts.l1, if_neg hk1, if_pos hal, hwi]
    simpa [sel] using h
  | succ d ih =>
    intro k grp hk hg h
    have hk1 : (k : Int) < (L.length : Int) := by omega
    have hk0 : (0 : Int) ≤ (k : Int) := by omega
    have hk2 : (k : Int) < (out.length : Int) := by omega
    have hwk : wrap64 ((k : Int) + 1) = ((k + 1 : Nat) : Int) := by rw [w64 _ (by omega) (by omega)]; omega
    have hgl : grp.length < 17592186044416 := by omega
    have hr1 : rd out (k : Int) = out.getD k 0 := rfl
    unfold sel at h
    refine Ev.succ ?_
    simp only [worldmintref27_Parts.l1, if_pos hk1, if_pos hk0, if_pos hk2, hr1, hwk]
    by_cases c : out.getD k 0 = (i : Int)
    · rw [if_pos (by simpa using c)] at h
      simp only [if_pos c, if_pos hgl]
      refine ih (k + 1) (grp ++ [(k : Int)]) (by omega) (by simp; omega) ?_
      rw [List.append_assoc]
      exact h
    · rw [if_neg (by simpa using c)] at h
      simp only [if_neg c]
      exact ih (k + 1) grp (by omega) (by omega) h
theorem rp_l0 (out : List Int) (ho : out.length = L.length) : ∀ (d i : Nat) (acc : List (List Int)), i + d = L.length → acc.length ≤ i →
    Ev (fun q => worldmintref27_Parts.l0 q L out acc (i : Int)) (acc ++ selM (fun i => sel (fun k => decide (out.getD k 0 = (i : Int))) L.length 0) (fun i => decide (out.getD i 0 = (i : Int))) d i) := by
  intro d
  induction d with
  | zero =>
    intro i acc hi ha
    have hi1 : ¬ (i : Int) < (L.length : Int) := by omega
    refine Ev.succ ?_
    simp only [worldmintref27_Parts.l0, if_neg hi1, selM, List.append_nil]
    exact Ev.some_
  | succ d ih =>
    intro i acc hi ha
    have hi1 : (i : Int) < (L.length : Int) := by omega
    have hi0 : (0 : Int) ≤ (i : Int) := by omega
    have hi2 : (i : Int) < (out.length : Int) := by omega
    have hwi : wrap64 ((i : Int) + 1) = ((i + 1 : Nat) : Int) := by rw [w64 _ (by omega) (by omega)]; omega
    have hr1 : rd out (i : Int) = out.getD i 0 := rfl
    refine Ev.succ ?_
    simp only [worldmintref27_Parts.l0, if_pos hi1, if_pos hi0, if_pos hi2, hr1, hwi]
    unfold selM
    by_cases c : out.getD i 0 = (i : Int)
    · rw [if_pos (by simpa using c)]
      simp only [if_pos c]
      refine rp_l1 L hL out ho acc (by omega) i (by omega) _ L.length 0 [] (by omega) (by simp) ?_
      have := ih (i + 1) (acc ++ [sel (fun k => decide (out.getD k 0 = (i : Int))) L.length 0]) (by omega) (by simp; omega)
      rw [List.append_assoc] at this
      rw [List.nil_append]
      exact this
    · rw [if_neg (by simpa using c)]
      simp only [if_neg c]
      exact ih (i + 1) acc (by omega) (by omega)
theorem rparts_ok (hb : ∀ b ∈ L, b.f2.length ≤ 9223372036854775807) : Ev (fun q => worldmintref27_Parts.f q L) (partsP (L.map cv)) := by
  have hg := rgroups_ok L hb hL
  have hlm : (L.map cv).length = L.length := List.length_map ..
  have hlen : (groupsP (L.map cv)).length = L.length := by rw [(groups_good (L.map cv)).1.1, hlm]
  have h := rp_l0 L hL (groupsP (L.map cv)) hlen L.length 0 [] (by omega) (by simp)
  unfold worldmintref27_Parts.f
  refine Ev.bind hg ?_
  rw [parts_sel, hlm]
  exact h
end
end Go.Proofs.Ytdbpdkmnnlippaa.H

/- A part replaced; two lists compared. Plain. -/
namespace Go.Proofs.Ytdbpdkmnnlippaa.H
open Go.RowKit Go.Proofs.YtdbpdkmnnlippaaW.PrintWords Go.Proofs.YtdbpdkmnnlippaaW.PrintLast
set_option linter.unusedVariables false
set_option linter.unusedSimpArgs false
theorem same_ok (a b : List Int) (ha : a.length ≤ 9223372036854775807) : Ev (fun k => worldmintref01_SameInts.f k a b) (decide (a = b)) := by
  unfold worldmintref01_SameInts.f
  by_cases hl : (a.length : Int) = (b.length : Int)
  · simp only [if_pos hl]
    have : ∀ (d e : List Int) (p : Nat), a.drop p = d → b.drop p = e → p ≤ a.length → Ev (fun k => worldmintref01_SameInts.l0 k a b (p : Int)) (decide (d = e)) := by
      intro d
      induction d with
      | nil =>
        intro e p hd he hp
        have h1 := drop_nil a p hp hd
        have h2 : e = [] := by
          rw [← he]
          exact List.drop_eq_nil_of_le (by omega)
        subst h2
        refine Ev.succ ?_
        simp only [worldmintref01_SameInts.l0, if_neg (show ¬ (p : Int) < (a.length : Int) by omega)]
        simpa using Ev.some_
      | cons x d ih =>
        intro e p hd he hp
        obtain ⟨hx, hd', hlt⟩ := drop_cons a p x d hd
        have hw : wrap64 ((p : Int) + 1) = ((p + 1 : Nat) : Int) := by rw [w64 _ (by omega) (by omega)]; omega
        cases e with
        | nil =>
          have := drop_nil b p (by omega) he
          omega
        | cons y e =>
          obtain ⟨hy, he', _⟩ := drop_cons b p y e he
          refine Ev.succ ?_
          simp only [worldmintref01_SameInts.l0, if_pos (show (p : Int) < (a.length : Int) by omega), if_pos (show (0 : Int) ≤ (p : Int) by omega), if_pos (show (p : Int) < (b.length : Int) by omega), rd_at a p x hx, rd_at b p y hy, hw]
          by_cases c : x = y
          · subst c
            simp only [if_true]
            have := ih e (p + 1) hd' he' (by omega)
            simpa using this
          · simp only [if_neg c]
            have e2 : decide (x :: d = y :: e) = false := by simp [c]
            rw [e2]
            exact Ev.some_
    exact this a b 0 rfl rfl (Nat.zero_le _)
  · simp only [if_neg hl]
    have e : decide (a = b) = false := decide_eq_false (fun e => hl (by rw [e]))
    rw [e]
    exact Ev.some_
end Go.Proofs.Ytdbpdkmnnlippaa.H

/- The example of chapter 27. Plain. -/
namespace Go.Proofs.Ytdbpdkmnnlippaa.H
open Go.RowKit Go.Proofs.YtdbpdkmnnlippaaW.PrintWords Go.Proofs.YtdbpdkmnnlippaaW.PrintLast
set_option linter.unusedVariables false
set_option linter.unusedSimpArgs false
/-- Sorting by insertion: the kernel can compute it. -/
def insI (x : Int) : List Int → List Int
  | [] => [x]
  | y :: s => if x ≤ y then x :: y :: s else y :: insI x s
def sortI : List Int → List Int
  | [] => []
  | x :: s => insI x (sortI s)
theorem insI_perm (x : Int) : ∀ s, (insI x s).Perm (x :: s)
  | [] => List.Perm.refl _
  | y :: s => by
    unfold insI
    split
    · exact List.Perm.refl _
    · exact ((insI_perm x s).cons y).trans (List.Perm.swap x y s)
theorem sortI_perm : ∀ s, (sortI s).Perm s
  | [] => List.Perm.refl _
  | x :: s => (insI_perm x _).trans ((sortI_perm s).cons x)
theorem insI_sorted (x : Int) : ∀ s, s.Pairwise (· ≤ ·) → (insI x s).Pairwise (· ≤ ·)
  | [], _ => by simp [insI]
  | y :: s, h => by
    obtain ⟨h1, h2⟩ := List.pairwise_cons.1 h
    unfold insI
    split
    · rename_i hxy
      refine List.pairwise_cons.2 ⟨fun z hz => ?_, h⟩
      rcases List.mem_cons.1 hz with rfl | hz
      · exact hxy
      · have := h1 z hz; omega
    · rename_i hxy
      refine List.pairwise_cons.2 ⟨fun z hz => ?_, insI_sorted x s h2⟩
      rcases List.mem_cons.1 ((insI_perm x s).mem_iff.1 hz) with rfl | hz
      · omega
      · exact h1 z hz
theorem sortI_sorted : ∀ s, (sortI s).Pairwise (· ≤ ·)
  | [] => List.Pairwise.nil
  | x :: s => insI_sorted x _ (sortI_sorted s)
theorem sortI_eq (xs : List Int) : (xs.mergeSort fun x y => decide (x ≤ y)) = sortI xs := by
  have hs : (xs.mergeSort fun x y => decide (x ≤ y)).Pairwise (fun a b => decide (a ≤ b) = true) :=
    List.pairwise_mergeSort (fun a b c h1 h2 => by simp only [decide_eq_true_eq] at *; omega) (fun a b => by simp only [Bool.or_eq_true, decide_eq_true_eq]; omega) xs
  refine List.Perm.eq_of_pairwise (le := fun a b : Int => a ≤ b) (fun a b _ _ h1 h2 => by omega) (hs.imp (fun h => by simpa using h)) (sortI_sorted xs) ((List.mergeSort_perm xs _).trans (sortI_perm xs).symm)
def partsStepI (l : List S38) (st : List Bool × List (List Int)) (i : Nat) : List Bool × List (List Int) :=
  if st.1.getD i true then st else ((visitP l l.length i (st.1, [])).1, st.2 ++ [sortI (visitP l l.length i (st.1, [])).2])
theorem partsI (l : List S38) : partsP l = ((List.range l.length).foldl (partsStepI l) (List.replicate l.length false, [])).2 := by
  have : partsStep l = partsStepI l := by
    funext st i
    unfold partsStep partsStepI
    rw [sortI_eq]
  unfold partsP
  rw [this]
def bids_Parts.fI (l0 : List S38) : Option (List (List Int)) := if l0.length ≤ 1000000 then some ((List.range l0.length).foldl (partsStepI l0) (List.replicate l0.length false, [])).2 else none
theorem parts_fI : bids_Parts.f = bids_Parts.fI := by
  funext l
  unfold bids_Parts.f bids_Parts.fI
  rw [partsI]
def livesL : List S38 := [⟨1, 5, [0, 1]⟩, ⟨1, 5, [0]⟩, ⟨2, 3, [1]⟩, ⟨3, 2, [2]⟩]
theorem lives_parts : bids_Parts.f livesL = some [[0, 1, 2], [3]] := by rw [parts_fI]; kernel_rfl
set_option maxRecDepth 100000 in
theorem lives_ok7 : Ev (fun k => worldmintlaw27_lives.f k) true := by
  refine Ev.of_mono (fun k => worldmintlaw27_lives.mono k) ⟨30, ?_⟩
  have h := lives_parts
  unfold livesL at h
  unfold worldmintlaw27_lives.f
  rw [Option.bind_some, h]
  clear h
  show _ = some true
  kernel_rfl
end Go.Proofs.Ytdbpdkmnnlippaa.H

/- BidsParts: the plain statement. -/
namespace Go.Proofs.Ytdbpdkmnnlippaa.H
open Go.RowKit Go.Proofs.YtdbpdkmnnlippaaW.PrintWords Go.Proofs.YtdbpdkmnnlippaaW.PrintLast
set_option linter.unusedVariables false
set_option linter.unusedSimpArgs false
theorem same_lists (P : List (List Int)) (hP : P.length ≤ 1000) (hg : ∀ g ∈ P, g.length ≤ 1000) : Ev (fun k => worldmintlaw27_same.f k P P) true := by
  have h : ∀ (d i : Nat), i + d = P.length → Ev (fun k => worldmintlaw27_same.l0 k P P (i : Int)) true := by
    intro d
    induction d with
    | zero =>
      intro i hi
      have hi1 : ¬ (i : Int) < (P.length : Int) := by omega
      refine Ev.succ ?_
      simp only [worldmintlaw27_same.l0, if_neg hi1]
      exact Ev.some_
    | succ d ih =>
      intro i hi
      have hi1 : (i : Int) < (P.length : Int) := by omega
      have hi0 : (0 : Int) ≤ (i : Int) := by omega
      have hwi : wrap64 ((i : Int) + 1) = ((i + 1 : Nat) : Int) := by rw [w64 _ (by omega) (by omega)]; omega
      have hm : P.getD i [] ∈ P := by
        have : i < P.length := by omega
        simp [List.getD, this]
      have hrL : rd_L1 P (i : Int) = P.getD i [] := rfl
      refine Ev.succ ?_
      simp only [worldmintlaw27_same.l0, if_pos hi1, if_pos hi0, hrL, hwi]
      refine Ev.bind (same_ok _ _ (by have := hg _ hm; omega)) ?_
      simp only [decide_true, if_true]
      exact ih (i + 1) (by omega)
  unfold worldmintlaw27_same.f
  simp only [if_true]
  exact h P.length 0 (by omega)
theorem part_len (l : List S38) (g : List Int) (hg : g ∈ partsP l) : g.length ≤ l.length := by
  obtain ⟨i, _, _, rfl⟩ := part_mem l g hg
  exact sel_len _ _ _
theorem BidsParts_pure : worldmintlaw27_BidsParts.Pure := by
  intro a0 l1 w0 _ _ w1
  obtain ⟨t, ht, ht0, ht1⟩ := lots_ok a0 w0
  obtain ⟨L, hL, hLl, hLg⟩ := bids_ok t l1 w1 10 ht0 ht1 (by omega) (by omega)
  have hb8 : ∀ b ∈ L, b.f2.length ≤ 9223372036854775807 := fun b hb => by have := (hLg b hb).2.2.2.2.2.2; omega
  have hlen : (L.map cv).length = L.length := List.length_map ..
  have hparts : bids_Parts.f (L.map cv) = some (partsP (L.map cv)) := by unfold bids_Parts.f; rw [if_pos (by omega)]
  have hPl := parts_len (L.map cv)
  have hPg := part_len (L.map cv)
  refine Ev.ex ?_
  unfold worldmintlaw27_BidsParts.f
  simp only [ht, Option.bind_some]
  refine Ev.bind hL ?_
  refine Ev.bind (given_ok L (by omega)) ?_
  simp only [hparts, Option.bind_some]
  refine Ev.bind (rparts_ok L (by omega) hb8) ?_
  refine Ev.bind (same_lists _ (by omega) (fun g hg => by have := hPg g hg; omega)) ?_
  simp only [if_true]
  exact Ev.bind lives_ok7 Ev.some_
end Go.Proofs.Ytdbpdkmnnlippaa.H
namespace Go.Proofs.Ytdbpdkmnnlippaa.Pure
theorem BidsParts : H.worldmintlaw27_BidsParts.Pure := H.BidsParts_pure
end Go.Proofs.Ytdbpdkmnnlippaa.Pure
