/- Texts of this claim, one behind the other. -/
import Derived.Test.YtdbpdkmnnlippaaMBidsReducec
import Derived.Test.YtdbpdkmnnlippaaMBidsReduceb
import Derived.Test.YtdbpdkmnnlippaaMBidsReduced

/- What a printed function computes with rounds enough: its laws; the generators of the reference. -/
namespace Go.Proofs.Ytdbpdkmnnlippaa.H
open Go.RowKit Go.Proofs.YtdbpdkmnnlippaaW.PrintWords Go.Proofs.YtdbpdkmnnlippaaW.PrintLast
set_option linter.unusedVariables false
set_option linter.unusedSimpArgs false
/-- With rounds enough, f tells a. -/
def Ev {α : Type} (f : Nat → Option α) (a : α) : Prop := ∃ K, ∀ k, K ≤ k → f k = some a
section
variable {α β : Type} {f : Nat → Option α} {a : α}
theorem Ev.succ (h : Ev (fun k => f (k + 1)) a) : Ev f a := by
  obtain ⟨K, h⟩ := h
  refine ⟨K + 1, fun k hk => ?_⟩
  obtain ⟨j, rfl⟩ : ∃ j, k = j + 1 := ⟨k - 1, by omega⟩
  exact h j (by omega)
theorem Ev.bind {g : Nat → α → Option β} {b : β} (hf : Ev f a) (hg : Ev (fun k => g k a) b) : Ev (fun k => (f k).bind (g k)) b := by
  obtain ⟨K, h⟩ := hf
  obtain ⟨K2, h2⟩ := hg
  exact ⟨max K K2, fun k hk => by
    show (f k).bind (g k) = some b
    rw [h k (by omega)]
    exact h2 k (by omega)⟩
theorem Ev.some_ : Ev (fun _ => some a) a := ⟨0, fun _ _ => rfl⟩
theorem Ev.ex (h : Ev f a) : ∃ k, f k = some a := by
  obtain ⟨K, h⟩ := h
  exact ⟨K, h K (Nat.le_refl _)⟩
theorem Ev.of_mono (hm : ∀ k, LeO (f k) (f (k + 1))) (h : ∃ k, f k = some a) : Ev f a := by
  obtain ⟨K, h⟩ := h
  refine ⟨K, fun k hk => ?_⟩
  obtain ⟨d, rfl⟩ := Nat.exists_eq_add_of_le hk
  clear hk
  induction d with
  | zero => exact h
  | succ d ih => exact hm (K + d) _ ih
end
theorem wf_bounds (n : Int) (h : (Lit.int .i64 n).wf = true) : -9223372036854775808 ≤ n ∧ n ≤ 9223372036854775807 := by
  simpa [Lit.wf, IntKind.min, IntKind.max, IntKind.signed, IntKind.bits] using h
theorem w64 (x : Int) (h0 : -9223372036854775808 ≤ x) (h1 : x ≤ 9223372036854775807) : wrap64 x = x := by
  unfold wrap64
  omega
theorem around_ok (n most : Int) (hn : (Lit.int .i64 n).wf = true) (hm : 0 < most) : ∃ r, worldmintref01_Around.f n most = some r ∧ 0 ≤ r ∧ r < most := by
  have hb := wf_bounds n hn
  unfold worldmintref01_Around.f
  by_cases h : n < 0
  · rw [if_pos h, if_neg (by omega), w64 (n + 1) (by omega) (by omega), w64 (-(n + 1)) (by omega) (by omega)]
    exact ⟨_, rfl, Int.tmod_nonneg _ (by omega), Int.tmod_lt_of_pos _ hm⟩
  · rw [if_neg h, if_neg (by omega)]
    exact ⟨_, rfl, Int.tmod_nonneg _ (by omega), Int.tmod_lt_of_pos _ hm⟩
theorem lots_ok (n : Int) (hn : (Lit.int .i64 n).wf = true) : ∃ r, worldmintref27_Lots.f n = some r ∧ 1 ≤ r ∧ r ≤ 8 := by
  obtain ⟨r, h, h0, h1⟩ := around_ok n 8 hn (by omega)
  unfold worldmintref27_Lots.f
  rw [h, Option.bind_some, w64 _ (by omega) (by omega)]
  exact ⟨_, rfl, by omega, by omega⟩
theorem pick_ok (l : List Int) (i most : Int) (hl : ∀ x ∈ l, (Lit.int .i64 x).wf = true) (hm : 0 < most) : ∃ r, worldmintref01_Pick.f l i most = some r ∧ 0 ≤ r ∧ r < most := by
  unfold worldmintref01_Pick.f
  by_cases h : i < 0
  · rw [if_pos h]; exact ⟨0, rfl, by omega, hm⟩
  · rw [if_neg h]
    by_cases h2 : i ≥ (l.length : Int)
    · rw [if_pos h2]; exact ⟨0, rfl, by omega, hm⟩
    · rw [if_neg h2, if_pos (by omega), if_pos (by omega)]
      have hm2 : rd l i ∈ l := by
        have : i.toNat < l.length := by omega
        simp [rd, List.getD, this]
      obtain ⟨r, h3, h4, h5⟩ := around_ok (rd l i) most (hl _ hm2) hm
      exact ⟨r, by rw [h3]; rfl, h4, h5⟩
/-- A bid as the reference draws it. -/
def GoodBid (n : Int) (b : S40) : Prop := 1 ≤ b.f0 ∧ b.f0 ≤ 6 ∧ 1 ≤ b.f1 ∧ b.f1 ≤ 450 ∧ b.f2.length ≠ 0 ∧ lotsOk n (-1) b.f2 = true ∧ b.f2.length ≤ 8
theorem lotsOk_snoc (n j : Int) (hj : j < n) : ∀ (ks : List Int) (last : Int), lotsOk n last ks = true → (∀ k ∈ ks, k < j) → last < j → lotsOk n last (ks ++ [j]) = true
  | [], last, _, _, h => by
    simp only [List.nil_append, lotsOk]
    simp [hj, h]
  | k :: ks, last, h, hk, _ => by
    simp only [List.cons_append, lotsOk] at h ⊢
    split at h
    · simp at h
    · rename_i hc
      rw [if_neg hc]
      exact lotsOk_snoc n j hj ks k h (fun x hx => hk x (by simp [hx])) (hk k (by simp))
set_option maxHeartbeats 1000000 in
theorem bids_l1 (n : Int) (l : List Int) (most : Int) (x7 : List S40) (x8 f0 f1 : Int) (hn1 : 1 ≤ n) (hn8 : n ≤ 8) (hx7 : x7.length < 3518437208883) (L : List S40)
    (hnext : ∀ ks : List Int, ks.length ≠ 0 → lotsOk n (-1) ks = true → ks.length ≤ 8 → ∃ L, Ev (fun k => worldmintref27_Bids.l0 k n l most (x7 ++ [⟨f0, f1, ks⟩]) (wrap64 (x8 + 1))) L ∧ (L.length : Int) ≤ most ∧ ∀ b ∈ L, GoodBid n b) :
    ∀ (d : Nat) (j : Int) (bs : Int) (ks : List Int), (n - j).toNat = d → 0 ≤ j → j ≤ n → lotsOk n (-1) ks = true → (∀ k ∈ ks, k < j) → (ks.length : Int) ≤ j → (j = n → ks.length ≠ 0) →
    ∃ L, Ev (fun k => worldmintref27_Bids.l1 k n l most x7 x8 bs j f0 f1 ks) L ∧ (L.length : Int) ≤ most ∧ ∀ b ∈ L, GoodBid n b
  | 0, j, bs, ks, hd, h0, hjn, hk, hkj, hkl, hne => by
    obtain ⟨L, h1, h2⟩ := hnext ks (hne (by omega)) hk (by omega)
    refine ⟨L, Ev.succ ?_, h2⟩
    simp only [worldmintref27_Bids.l1]
    simp only [if_neg (show ¬ j < n by omega), if_pos hx7]
    exact h1
  | d + 1, j, bs, ks, hd, h0, hjn, hk, hkj, hkl, hne => by
    have hw : wrap64 (j + 1) = j + 1 := w64 _ (by omega) (by omega)
    have hw2 : wrap64 (n - 1) = n - 1 := w64 _ (by omega) (by omega)
    have happ := fun bs' => bids_l1 n l most x7 x8 f0 f1 hn1 hn8 hx7 L hnext d (j + 1) bs' (ks ++ [j]) (by omega) (by omega) (by omega) (lotsOk_snoc n j (by omega) ks (-1) hk hkj (by omega)) (fun k hk' => by
      rcases List.mem_append.1 hk' with h | h
      · have := hkj k h; omega
      · simp at h; omega) (by simp; omega) (fun _ => by simp)
    have hnot := fun bs' (hh : j + 1 = n → ks.length ≠ 0) => bids_l1 n l most x7 x8 f0 f1 hn1 hn8 hx7 L hnext d (j + 1) bs' ks (by omega) (by omega) (by omega) hk (fun k hk' => by have := hkj k hk'; omega) (by omega) hh
    by_cases c1 : Int.tmod bs 2 = 1
    · obtain ⟨L, h1, h2⟩ := happ (wrap64 (Int.tdiv bs 2))
      refine ⟨L, Ev.succ ?_, h2⟩
      simp only [worldmintref27_Bids.l1]
      simp only [if_pos (show j < n by omega), if_pos c1, if_pos (show ks.length < 17592186044416 by omega), hw]
      exact h1
    · by_cases c2 : j = n - 1
      · by_cases c3 : (ks.length : Int) = 0
        · obtain ⟨L, h1, h2⟩ := happ (wrap64 (Int.tdiv bs 2))
          refine ⟨L, Ev.succ ?_, h2⟩
          simp only [worldmintref27_Bids.l1]
          simp only [if_pos (show j < n by omega), if_neg c1, hw2, if_pos c2, if_pos c3, if_pos (show ks.length < 17592186044416 by omega), hw]
          exact h1
        · obtain ⟨L, h1, h2⟩ := hnot (wrap64 (Int.tdiv bs 2)) (fun _ => by omega)
          refine ⟨L, Ev.succ ?_, h2⟩
          simp only [worldmintref27_Bids.l1]
          simp only [if_pos (show j < n by omega), if_neg c1, hw2, if_pos c2, if_neg c3, hw]
          exact h1
      · obtain ⟨L, h1, h2⟩ := hnot (wrap64 (Int.tdiv bs 2)) (fun _ => by omega)
        refine ⟨L, Ev.succ ?_, h2⟩
        simp only [worldmintref27_Bids.l1]
        simp only [if_pos (show j < n by omega), if_neg c1, hw2, if_neg c2, hw]
        exact h1
set_option maxHeartbeats 1000000 in
theorem bids_l0 (n : Int) (l : List Int) (hl : ∀ x ∈ l, (Lit.int .i64 x).wf = true) (most : Int) (hn1 : 1 ≤ n) (hn8 : n ≤ 8) (hm0 : 0 ≤ most) (hm1 : most ≤ 1000) :
    ∀ (d : Nat) (x7 : List S40), (most - x7.length).toNat = d → (x7.length : Int) ≤ most → (∀ b ∈ x7, GoodBid n b) →
    ∃ L, Ev (fun k => worldmintref27_Bids.l0 k n l most x7 x7.length) L ∧ (L.length : Int) ≤ most ∧ ∀ b ∈ L, GoodBid n b := by
  intro d
  induction d with
  | zero =>
    intro x7 hd hx hb
    obtain ⟨r, hr, hr0, hr1⟩ := pick_ok l 0 (most + 1) hl (by omega)
    refine ⟨x7, Ev.succ ?_, hx, hb⟩
    simp only [worldmintref27_Bids.l0, w64 (most + 1) (by omega) (by omega), hr, Option.bind_some]
    simp only [if_neg (show ¬ (x7.length : Int) < r by omega)]
    exact Ev.some_
  | succ d ih =>
    intro x7 hd hx hb
    obtain ⟨r, hr, hr0, hr1⟩ := pick_ok l 0 (most + 1) hl (by omega)
    by_cases hlt : (x7.length : Int) < r
    · obtain ⟨t, ht, ht0, ht1⟩ := pick_ok l (wrap64 (1 + wrap64 (3 * (x7.length : Int)))) 1000000 hl (by omega)
      obtain ⟨u, hu, hu0, hu1⟩ := pick_ok l (wrap64 (2 + wrap64 (3 * (x7.length : Int)))) 255 hl (by omega)
      obtain ⟨v, hv, hv0, hv1⟩ := pick_ok l (wrap64 (3 + wrap64 (3 * (x7.length : Int)))) 255 hl (by omega)
      have e0 : 0 ≤ Int.tmod t 6 ∧ Int.tmod t 6 < 6 := ⟨Int.tmod_nonneg _ ht0, Int.tmod_lt_of_pos _ (by omega)⟩
      have hq : 0 ≤ Int.tdiv t 6 ∧ Int.tdiv t 6 ≤ t := ⟨Int.tdiv_nonneg ht0 (by omega), Int.tdiv_le_self _ ht0⟩
      have hq2 : 0 ≤ Int.tdiv t 216 ∧ Int.tdiv t 216 ≤ t := ⟨Int.tdiv_nonneg ht0 (by omega), Int.tdiv_le_self _ ht0⟩
      have hw1 : wrap64 (Int.tdiv t 6) = Int.tdiv t 6 := w64 _ (by omega) (by omega)
      have hw2 : wrap64 (Int.tdiv t 216) = Int.tdiv t 216 := w64 _ (by omega) (by omega)
      have e1 : 0 ≤ Int.tmod (Int.tdiv t 6) 9 ∧ Int.tmod (Int.tdiv t 6) 9 < 9 := ⟨Int.tmod_nonneg _ hq.1, Int.tmod_lt_of_pos _ (by omega)⟩
      have e2 : 0 ≤ Int.tmod (Int.tdiv t 216) 50 ∧ Int.tmod (Int.tdiv t 216) 50 < 50 := ⟨Int.tmod_nonneg _ hq2.1, Int.tmod_lt_of_pos _ (by omega)⟩
      have g0 : wrap64 (1 + Int.tmod t 6) = 1 + Int.tmod t 6 := w64 _ (by omega) (by omega)
      have g1 : wrap64 (1 + Int.tmod (Int.tdiv t 6) 9) = 1 + Int.tmod (Int.tdiv t 6) 9 := w64 _ (by omega) (by omega)
      have g2 : wrap64 (1 + Int.tmod (Int.tdiv t 216) 50) = 1 + Int.tmod (Int.tdiv t 216) 50 := w64 _ (by omega) (by omega)
      have hpr : ∀ a b : Int, 1 ≤ a → a ≤ 9 → 1 ≤ b → b ≤ 50 → 1 ≤ a * b ∧ a * b ≤ 450 := fun a b a1 a2 b1 b2 => by
        have h1 : 1 * 1 ≤ a * b := Int.mul_le_mul a1 b1 (by omega) (by omega)
        have h2 : a * b ≤ 9 * 50 := Int.mul_le_mul a2 b2 (by omega) (by omega)
        omega
      have hp := hpr (1 + Int.tmod (Int.tdiv t 6) 9) (1 + Int.tmod (Int.tdiv t 216) 50) (by omega) (by omega) (by omega) (by omega)
      have g3 : wrap64 ((1 + Int.tmod (Int.tdiv t 6) 9) * (1 + Int.tmod (Int.tdiv t 216) 50)) = (1 + Int.tmod (Int.tdiv t 6) 9) * (1 + Int.tmod (Int.tdiv t 216) 50) := w64 _ (by omega) (by omega)
      have hstep : ∀ p : Int, 1 ≤ p → p ≤ 450 → ∃ L, Ev (fun k => worldmintref27_Bids.j1 k n l most x7 (x7.length : Int) (1 + Int.tmod t 6) p) L ∧ (L.length : Int) ≤ most ∧ ∀ b ∈ L, GoodBid n b := fun p hp1 hp2 => by
        obtain ⟨L, h1, h2⟩ := bids_l1 n l most x7 (x7.length : Int) (1 + Int.tmod t 6) p hn1 hn8 (by omega) [] (fun ks hk0 hk1 hk2 => by
          obtain ⟨L, h1, h2⟩ := ih (x7 ++ [⟨1 + Int.tmod t 6, p, ks⟩]) (by simp; omega) (by simp; omega) (fun b hb' => by
            rcases List.mem_append.1 hb' with h | h
            · exact hb b h
            · rw [List.mem_singleton] at h; subst h; exact ⟨by show 1 ≤ 1 + _; omega, by show 1 + _ ≤ 6; omega, hp1, hp2, hk0, hk1, hk2⟩)
          refine ⟨L, ?_, h2⟩
          rw [w64 _ (by omega) (by omega)]
          simpa using h1) n.toNat 0 (Go.bits .and .i64 u (Go.bits .or .i64 v 17)) [] (by omega) (by omega) (by omega) rfl (by simp) (by simp) (by omega)
        refine ⟨L, Ev.succ ?_, h2⟩
        simp only [worldmintref27_Bids.j1, hu, hv, Option.bind_some]
        exact h1
      by_cases c : Int.tmod (wrap64 (Int.tdiv t 54)) 4 = 0
      · obtain ⟨L, h1, h2⟩ := hstep _ hp.1 hp.2
        refine ⟨L, Ev.succ ?_, h2⟩
        simp only [worldmintref27_Bids.l0, w64 (most + 1) (by omega) (by omega), hr, ht, Option.bind_some, if_pos hlt, if_pos c, hw1, hw2, g0, g1, g2, g3]
        exact h1
      · obtain ⟨L, h1, h2⟩ := hstep (1 + Int.tmod (Int.tdiv t 6) 9) (by omega) (by omega)
        refine ⟨L, Ev.succ ?_, h2⟩
        simp only [worldmintref27_Bids.l0, w64 (most + 1) (by omega) (by omega), hr, ht, Option.bind_some, if_pos hlt, if_neg c, hw1, g0, g1]
        exact h1
    · refine ⟨x7, Ev.succ ?_, hx, hb⟩
      simp only [worldmintref27_Bids.l0, w64 (most + 1) (by omega) (by omega), hr, Option.bind_some]
      simp only [if_neg hlt]
      exact Ev.some_
theorem bids_ok (n : Int) (l : List Int) (hl : ∀ x ∈ l, (Lit.int .i64 x).wf = true) (most : Int) (hn1 : 1 ≤ n) (hn8 : n ≤ 8) (hm0 : 0 ≤ most) (hm1 : most ≤ 1000) :
    ∃ L, Ev (fun k => worldmintref27_Bids.f k n l most) L ∧ (L.length : Int) ≤ most ∧ ∀ b ∈ L, GoodBid n b := by
  have := bids_l0 n l hl most hn1 hn8 hm0 hm1 _ [] rfl (by simpa using hm0) (by simp)
  simpa [worldmintref27_Bids.f] using this
end Go.Proofs.Ytdbpdkmnnlippaa.H

/- The search's answer: the best choice, and of equals the least. Plain. -/
namespace Go.Proofs.Ytdbpdkmnnlippaa.H
open Go.RowKit
set_option linter.unusedVariables false
set_option linter.unusedSimpArgs false
section
variable {U : S38 → Bool} {l : List S38}
end
end Go.Proofs.Ytdbpdkmnnlippaa.H

/- What the reference of bids computes: by the same plain words. -/
namespace Go.Proofs.Ytdbpdkmnnlippaa.H
open Go.RowKit Go.Proofs.YtdbpdkmnnlippaaW.PrintWords Go.Proofs.YtdbpdkmnnlippaaW.PrintLast
set_option linter.unusedVariables false
set_option linter.unusedSimpArgs false
/-- A bid of the reference as a bid of the program. -/
def cv (b : S40) : S38 := ⟨b.f0, b.f1, b.f2⟩
theorem drop_cons {α : Type} (l : List α) (p : Nat) (x : α) (d : List α) (h : l.drop p = x :: d) : l[p]? = some x ∧ l.drop (p + 1) = d ∧ p < l.length := by
  have h1 : l[p]? = some x := by
    have := congrArg (fun t => t[0]?) h
    simpa using this
  refine ⟨h1, ?_, ?_⟩
  · have := congrArg List.tail h
    simpa using this
  · have := congrArg List.length h
    simp at this
    omega
theorem drop_nil {α : Type} (l : List α) (p : Nat) (hp : p ≤ l.length) (h : l.drop p = []) : p = l.length := by
  have := congrArg List.length h
  simp at this
  omega
theorem rdR_at (l : List S40) (i : Nat) (x : S40) (h : l[i]? = some x) : rd_T40 l (i : Int) = x := by
  simp [rd_T40, List.getD, h]
theorem rdR_cv (l : List S40) (i : Int) : cv (rd_T40 l i) = (l.map cv).getD i.toNat z38 := by
  simp only [rd_T40, List.getD, List.getElem?_map]
  cases l[i.toNat]? <;> rfl
/-! ### given -/
theorem given_ok (l : List S40) (hl : l.length < 3518437208883) : Ev (fun k => worldmintlaw27_given.f k l) (l.map cv) := by
  have : ∀ (d : List S40) (p : Nat), l.drop p = d → p ≤ l.length → Ev (fun k => worldmintlaw27_given.l0 k l ((l.take p).map cv) (p : Int)) (l.map cv) := by
    intro d
    induction d with
    | nil =>
      intro p hd hp
      have := drop_nil l p hp hd
      subst this
      refine Ev.succ ?_
      simp only [worldmintlaw27_given.l0, if_neg (show ¬ (l.length : Int) < (l.length : Int) by omega), List.take_length]
      exact Ev.some_
    | cons x d ih =>
      intro p hd hp
      obtain ⟨hx, hd', hlt⟩ := drop_cons l p x d hd
      have hw : wrap64 ((p : Int) + 1) = ((p + 1 : Nat) : Int) := by rw [w64 _ (by omega) (by omega)]; omega
      have h1 := ih (p + 1) hd' (by omega)
      refine Ev.succ ?_
      simp only [worldmintlaw27_given.l0, if_pos (show (p : Int) < (l.length : Int) by omega), if_pos (show (0 : Int) ≤ (p : Int) by omega), rdR_at l p x hx, hw, List.length_map, List.length_take]
      simp only [if_pos (show min p l.length < 3518437208883 by omega)]
      have e : (l.take p).map cv ++ [⟨x.f0, x.f1, x.f2⟩] = (l.take (p + 1)).map cv := by
        have hg : l[p] = x := by
          have := List.getElem?_eq_getElem hlt
          rw [hx] at this
          injection this with this
          exact this.symm
        rw [List.take_succ_eq_append_getElem hlt, List.map_append, hg]
        rfl
      rw [e]
      exact h1
  exact this l 0 rfl (Nat.zero_le _)
/-! ### Conflict, Feasible, Value, Less, Choice -/
theorem has_ok (xs : List Int) (x : Int) (hl : xs.length ≤ 9223372036854775807) : Ev (fun k => worldmintref01_Has.f k xs x) (xs.contains x) := by
  have : ∀ (d : List Int) (p : Nat), xs.drop p = d → p ≤ xs.length → Ev (fun k => worldmintref01_Has.l0 k xs x (p : Int)) (d.contains x) := by
    intro d
    induction d with
    | nil =>
      intro p hd hp
      have := drop_nil xs p hp hd
      refine Ev.succ ?_
      simp only [worldmintref01_Has.l0, if_neg (show ¬ (p : Int) < (xs.length : Int) by omega)]
      exact Ev.some_
    | cons y d ih =>
      intro p hd hp
      obtain ⟨hx, hd', hlt⟩ := drop_cons xs p y d hd
      have hw : wrap64 ((p : Int) + 1) = ((p + 1 : Nat) : Int) := by rw [w64 _ (by omega) (by omega)]; omega
      have h1 := ih (p + 1) hd' (by omega)
      refine Ev.succ ?_
      simp only [worldmintref01_Has.l0, if_pos (show (p : Int) < (xs.length : Int) by omega), if_pos (show (0 : Int) ≤ (p : Int) by omega), rd_at xs p y hx, hw]
      by_cases c : y = x
      · subst c
        simp only [if_true]
        simpa using Ev.some_
      · simp only [if_neg c]
        have e : (y :: d).contains x = d.contains x := by rw [List.contains_cons, beq_false_of_ne (fun e : x = y => c e.symm), Bool.false_or]
        rw [e]
        exact h1
  exact this xs 0 rfl (Nat.zero_le _)
end Go.Proofs.Ytdbpdkmnnlippaa.H

/- Choices as sets of places: the best one, told without lists. Plain. -/
namespace Go.Proofs.Ytdbpdkmnnlippaa.H
open Go.RowKit
set_option linter.unusedVariables false
set_option linter.unusedSimpArgs false
/-- The places from i on, n of them, at which p holds. -/
def sel (p : Nat → Bool) : Nat → Nat → List Int
  | 0, _ => []
  | n + 1, i => if p i then (i : Int) :: sel p n (i + 1) else sel p n (i + 1)
def cj (l : List S38) (a b : Nat) : Bool := conf (l.getD a z38) (l.getD b z38)
theorem conf_comm (a b : S38) : conf a b = conf b a := by
  unfold conf
  have h1 : (a.f0 == b.f0) = (b.f0 == a.f0) := by rw [Bool.eq_iff_iff]; simp; exact ⟨fun h => h.symm, fun h => h.symm⟩
  have h2 : (b.f2.any fun k => a.f2.contains k) = (a.f2.any fun k => b.f2.contains k) := by
    rw [Bool.eq_iff_iff, List.any_eq_true, List.any_eq_true]
    constructor <;> (rintro ⟨x, h1, h2⟩; exact ⟨x, by simpa using h2, by simpa using h1⟩)
  rw [h1, h2]
theorem cj_comm (l : List S38) (a b : Nat) : cj l a b = cj l b a := conf_comm _ _
end Go.Proofs.Ytdbpdkmnnlippaa.H

/- What bids.Parts tells: the components of the conflicts. Plain. -/
namespace Go.Proofs.Ytdbpdkmnnlippaa.H
open Go.RowKit
set_option linter.unusedVariables false
set_option linter.unusedSimpArgs false
/-- Place j can be reached from place i by conflicts. -/
def Conn (l : List S38) (i j : Nat) : Prop := ∀ S : Nat → Prop, S i → (∀ a b, a < l.length → b < l.length → S a → cj l a b = true → S b) → S j
section
variable {l : List S38}
theorem Conn.refl (i : Nat) : Conn l i i := fun _ h _ => h
theorem Conn.trans {i j k : Nat} (h1 : Conn l i j) (h2 : Conn l j k) : Conn l i k := fun S hi hc => h2 S (h1 S hi hc) hc
theorem Conn.one {i j : Nat} (hi : i < l.length) (hj : j < l.length) (h : cj l i j = true) : Conn l i j := fun S hs hc => hc i j hi hj hs h
theorem Conn.symm {i j : Nat} (h : Conn l i j) : Conn l j i :=
  h (fun x => Conn l x i) (Conn.refl i) (fun a b ha hb hs hc => (Conn.one hb ha (by rw [cj_comm]; exact hc)).trans hs)
/-- From state a to state b of a visit from i: what is new, and all that is new is reached from i. -/
structure VNew (l : List S38) (i : Nat) (a b : List Bool × List Int) (ns : List Nat) : Prop where
  grp : b.2 = a.2 ++ ns.map (fun k : Nat => (k : Int))
  nodup : ns.Nodup
  mem : ∀ k, k ∈ ns ↔ k < l.length ∧ a.1.getD k true = false ∧ b.1.getD k true = true
  mono : ∀ k, a.1.getD k true = true → b.1.getD k true = true
  conn : ∀ k ∈ ns, Conn l i k
theorem VNew.refl (i : Nat) (a : List Bool × List Int) : VNew l i a a [] :=
  ⟨by simp, List.nodup_nil, fun k => ⟨fun h => by simp at h, fun h => by rw [h.2.1] at h; cases h.2.2⟩, fun _ h => h, fun k hk => by simp at hk⟩
theorem VNew.trans {i j : Nat} {a b c : List Bool × List Int} {ns ms : List Nat} (h1 : VNew l i a b ns) (h2 : VNew l j b c ms) (hij : Conn l i j) : VNew l i a c (ns ++ ms) := by
  refine ⟨by rw [h2.grp, h1.grp, List.map_append, List.append_assoc], ?_, fun k => ?_, fun k hk => h2.mono k (h1.mono k hk), fun k hk => ?_⟩
  · rw [List.nodup_append]
    refine ⟨h1.nodup, h2.nodup, fun x hx y hy e => ?_⟩
    subst e
    have := ((h1.mem x).1 hx).2.2
    rw [((h2.mem x).1 hy).2.1] at this
    cases this
  · rw [List.mem_append, h1.mem, h2.mem]
    constructor
    · rintro (⟨a1, a2, a3⟩ | ⟨a1, a2, a3⟩)
      · exact ⟨a1, a2, h2.mono k a3⟩
      · refine ⟨a1, ?_, a3⟩
        cases h : a.1.getD k true
        · rfl
        · rw [h1.mono k h] at a2; cases a2
    · rintro ⟨a1, a2, a3⟩
      cases h : b.1.getD k true
      · exact .inr ⟨a1, rfl, a3⟩
      · exact .inl ⟨a1, a2, rfl⟩
  · rcases List.mem_append.1 hk with hk | hk
    · exact h1.conn k hk
    · exact hij.trans (h2.conn k hk)
end
end Go.Proofs.Ytdbpdkmnnlippaa.H

/- The best choice, group by group; what Reduce leaves. Plain. -/
namespace Go.Proofs.Ytdbpdkmnnlippaa.H
open Go.RowKit
set_option linter.unusedVariables false
set_option linter.unusedSimpArgs false
section
variable {l : List S38}
end
section
variable {l : List S38} {g : List Int} (hr : g.Pairwise (· < ·)) (hg : ∀ k ∈ g, 0 ≤ k ∧ k < l.length)
include hr hg
end
/-! ### Reduce -/
def reduceP (l : List S38) : List Int := sel (fun i => !(List.range l.length).any fun j => uselessP l (i : Int) (j : Int)) l.length 0
end Go.Proofs.Ytdbpdkmnnlippaa.H

/- What Reduce computes. Plain. -/
namespace Go.Proofs.Ytdbpdkmnnlippaa.H
open Go.RowKit Go.Proofs.YtdbpdkmnnlippaaW.PrintWords Go.Proofs.YtdbpdkmnnlippaaW.PrintLast
set_option linter.unusedVariables false
set_option linter.unusedSimpArgs false
theorem reduce_l1 (l : List S38) (hl : l.length ≤ 1000) (acc : List Int) (hacc : acc.length ≤ 1000) (i : Nat) (hi : i < l.length) (r : List Int) :
    ∀ (d j : Nat) (b : Bool), j + d = l.length → (if (b || (List.range' j d).any fun m => uselessP l (i : Int) (m : Int)) = true then Ev (fun k => bids_Reduce.l0 k l acc (l.length : Int) ((i + 1 : Nat) : Int)) r else Ev (fun k => bids_Reduce.l0 k l (acc ++ [(i : Int)]) (l.length : Int) ((i + 1 : Nat) : Int)) r) →
      Ev (fun k => bids_Reduce.l1 k l acc (i : Int) b (l.length : Int) (i : Int) (l.length : Int) (j : Int)) r := by
  have hwi : wrap64 ((i : Int) + 1) = ((i + 1 : Nat) : Int) := by rw [w64 _ (by omega) (by omega)]; omega
  intro d
  induction d with
  | zero =>
    intro j b hj h
    have hj1 : ¬ (j : Int) < (l.length : Int) := by omega
    have ha : acc.length < 17592186044416 := by omega
    simp only [List.range'_zero, List.any_nil, Bool.or_false] at h
    refine Ev.succ ?_
    simp only [bids_Reduce.l1, if_neg hj1, hwi, if_pos ha]
    cases b
    · simp only [Bool.false_eq_true, if_false] at h ⊢; exact h
    · simp only [if_true] at h ⊢; exact h
  | succ d ih =>
    intro j b hj h
    have hj1 : (j : Int) < (l.length : Int) := by omega
    have hwj : wrap64 ((j : Int) + 1) = ((j + 1 : Nat) : Int) := by rw [w64 _ (by omega) (by omega)]; omega
    have hin : 0 ≤ (i : Int) ∧ (i : Int) < l.length ∧ 0 ≤ (j : Int) ∧ (j : Int) < l.length := by omega
    rw [List.range'_succ, List.any_cons] at h
    refine Ev.succ ?_
    simp only [bids_Reduce.l1, if_pos hj1, hwj, bids_useless.f, if_pos hin, Option.bind_some]
    cases b
    · simp only [Bool.false_eq_true, if_false]
      rw [Bool.false_or] at h
      exact ih (j + 1) _ (by omega) h
    · simp only [if_true]
      rw [Bool.true_or] at h
      exact ih (j + 1) true (by omega) (by rw [Bool.true_or]; exact h)
theorem reduce_ok (l : List S38) (hl : l.length ≤ 1000) : Ev (fun k => bids_Reduce.f k l) (reduceP l) := by
  have h : ∀ (d i : Nat) (acc : List Int), i + d = l.length → acc.length ≤ i → Ev (fun k => bids_Reduce.l0 k l acc (l.length : Int) (i : Int)) (acc ++ sel (fun i => !(List.range l.length).any fun j => uselessP l (i : Int) (j : Int)) d i) := by
    intro d
    induction d with
    | zero =>
      intro i acc hi ha
      have hi1 : ¬ (i : Int) < (l.length : Int) := by omega
      refine Ev.succ ?_
      simp only [bids_Reduce.l0, if_neg hi1, sel, List.append_nil]
      exact Ev.some_
    | succ d ih =>
      intro i acc hi ha
      have hi1 : (i : Int) < (l.length : Int) := by omega
      refine Ev.succ ?_
      simp only [bids_Reduce.l0, if_pos hi1]
      refine reduce_l1 l hl acc (by omega) i (by omega) _ l.length 0 false (by omega) ?_
      rw [Bool.false_or, ← List.range_eq_range']
      unfold sel
      cases hu : (List.range l.length).any fun m => uselessP l (i : Int) (m : Int)
      · rw [if_neg (by simp), if_pos (by simp)]
        have := ih (i + 1) (acc ++ [(i : Int)]) (by omega) (by simp; omega)
        rwa [List.append_assoc] at this
      · rw [if_pos rfl, if_neg (by simp)]
        exact ih (i + 1) acc (by omega) (by omega)
  have := h l.length 0 [] (by omega) (by simp)
  unfold bids_Reduce.f
  exact this
end Go.Proofs.Ytdbpdkmnnlippaa.H

/- What the reference's Useless and Reduce compute. Plain. -/
namespace Go.Proofs.Ytdbpdkmnnlippaa.H
open Go.RowKit Go.Proofs.YtdbpdkmnnlippaaW.PrintWords Go.Proofs.YtdbpdkmnnlippaaW.PrintLast
set_option linter.unusedVariables false
set_option linter.unusedSimpArgs false
section
variable (l : List S40) (hb : ∀ b ∈ l, b.f2.length ≤ 9223372036854775807)
theorem rdR_mem {l : List S40} (i : Nat) (hi : i < l.length) : rd_T40 l (i : Int) ∈ l := by simp [rd_T40, List.getD, hi]
theorem cv_at {l : List S40} (i : Nat) : (l.map cv).getD i z38 = cv (rd_T40 l (i : Int)) := by
  rw [rdR_cv]; rfl
include hb in
theorem ruseless_ok (i j : Nat) (hi : i < l.length) (hj : j < l.length) : Ev (fun k => worldmintref27_Useless.f k l (i : Int) (j : Int)) (uselessP (l.map cv) (i : Int) (j : Int)) := by
  have hi0 : (0 : Int) ≤ (i : Int) := by omega
  have hi1 : (i : Int) < (l.length : Int) := by omega
  have hj0 : (0 : Int) ≤ (j : Int) := by omega
  have hj1 : (j : Int) < (l.length : Int) := by omega
  have hbi := hb _ (rdR_mem i hi)
  have hbj := hb _ (rdR_mem j hj)
  have hno : Ev (fun k => worldmintref27_Useless.j0 k l (i : Int) (j : Int) true) false := by
    refine Ev.succ ?_
    simp only [worldmintref27_Useless.j0, if_true]
    exact Ev.some_
  have hU : uselessP (l.map cv) (i : Int) (j : Int) = (!((i : Int) == (j : Int) || (rd_T40 l (i : Int)).f0 != (rd_T40 l (j : Int)).f0 || decide ((rd_T40 l (j : Int)).f1 < (rd_T40 l (i : Int)).f1) || ((rd_T40 l (j : Int)).f1 == (rd_T40 l (i : Int)).f1 && decide ((i : Int) < (j : Int)))) && !((rd_T40 l (j : Int)).f2.any fun k => !(rd_T40 l (i : Int)).f2.contains k)) := by
    unfold uselessP
    rw [Int.toNat_natCast, Int.toNat_natCast, cv_at i, cv_at j]
    rfl
  rw [hU]
  generalize hA : rd_T40 l (i : Int) = a at *
  generalize hB : rd_T40 l (j : Int) = b at *
  unfold worldmintref27_Useless.f
  by_cases e : (i : Int) = (j : Int)
  · simp only [if_pos e]
    have h1 : ((i : Int) == (j : Int)) = true := by simpa using e
    simp only [h1, Bool.true_or, Bool.not_true, Bool.false_and]
    exact hno
  · have h1 : ((i : Int) == (j : Int)) = false := by simpa using e
    simp only [if_neg e, if_pos hi0, if_pos hi1, if_pos hj0, if_pos hj1, hA, hB, h1, Bool.false_or]
    cases hf : (a.f0 != b.f0)
    · simp only [Bool.false_or]
      have hloop : ∀ (d : List Int) (p : Nat), b.f2.drop p = d → p ≤ b.f2.length → Ev (fun k => worldmintref27_Useless.l0 k l (i : Int) (j : Int) (p : Int)) (!(decide (b.f1 < a.f1) || (b.f1 == a.f1 && decide ((i : Int) < (j : Int)))) && !(d.any fun k => !a.f2.contains k)) := by
        intro d
        induction d with
        | nil =>
          intro p hd hp
          have := drop_nil b.f2 p hp hd
          have hp1 : ¬ (p : Int) < (b.f2.length : Int) := by omega
          refine Ev.succ ?_
          simp only [worldmintref27_Useless.l0, if_pos hi0, if_pos hi1, if_pos hj0, if_pos hj1, hA, hB, if_neg hp1, List.any_nil, Bool.not_false, Bool.and_true]
          by_cases c1 : b.f1 > a.f1
          · have c2 : decide (b.f1 < a.f1) = false := decide_eq_false (by omega)
            have c3 : (b.f1 == a.f1) = false := by rw [beq_eq_false_iff_ne]; omega
            simp only [if_pos c1, c2, c3, Bool.false_and, Bool.or_false, Bool.not_false]
            exact Ev.some_
          · by_cases c4 : b.f1 = a.f1
            · have c2 : decide (b.f1 < a.f1) = false := decide_eq_false (by omega)
              have c3 : (b.f1 == a.f1) = true := by simpa using c4
              have c5 : decide ((j : Int) < (i : Int)) = !decide ((i : Int) < (j : Int)) := by
                by_cases c6 : (i : Int) < (j : Int)
                · rw [decide_eq_true c6, decide_eq_false (by omega)]; rfl
                · rw [decide_eq_false c6, decide_eq_true (by omega)]; rfl
              simp only [if_neg c1, if_pos c4, c2, c3, Bool.true_and, Bool.false_or, c5]
              exact Ev.some_
            · have c2 : decide (b.f1 < a.f1) = true := decide_eq_true (by omega)
              simp only [if_neg c1, if_neg c4, c2, Bool.true_or, Bool.not_true]
              exact Ev.some_
        | cons y d ih =>
          intro p hd hp
          obtain ⟨hy, hd', hlt⟩ := drop_cons b.f2 p y d hd
          have hp1 : (p : Int) < (b.f2.length : Int) := by omega
          have hp0 : (0 : Int) ≤ (p : Int) := by omega
          have hwp : wrap64 ((p : Int) + 1) = ((p + 1 : Nat) : Int) := by rw [w64 _ (by omega) (by omega)]; omega
          have hih := ih (p + 1) hd' (by omega)
          refine Ev.succ ?_
          simp only [worldmintref27_Useless.l0, if_pos hi0, if_pos hi1, if_pos hj0, if_pos hj1, hA, hB, if_pos hp1, if_pos hp0, rd_at b.f2 p y hy, hwp, List.any_cons]
          refine Ev.bind (has_ok a.f2 y hbi) ?_
          cases hc : a.f2.contains y
          · simp only [Bool.false_eq_true, if_false, Bool.not_false, Bool.true_or, Bool.not_true, Bool.and_false]
            exact Ev.some_
          · simp only [if_true, Bool.not_true, Bool.false_or]
            exact hih
      refine Ev.succ ?_
      simp only [worldmintref27_Useless.j0, Bool.false_eq_true, if_false]
      exact hloop b.f2 0 rfl (Nat.zero_le _)
    · simp only [Bool.true_or, Bool.not_true, Bool.false_and]
      exact hno
include hb in
theorem rreduce_ok (hl : l.length ≤ 1000) : Ev (fun k => worldmintref27_Reduce.f k l) (reduceP (l.map cv)) := by
  have hlm : (l.map cv).length = l.length := List.length_map ..
  have h1 : ∀ (acc : List Int), acc.length ≤ 1000 → ∀ (i : Nat), i < l.length → ∀ (r : List Int) (d j : Nat) (b : Bool), j + d = l.length →
      (if (b || (List.range' j d).any fun m => uselessP (l.map cv) (i : Int) (m : Int)) = true then Ev (fun k => worldmintref27_Reduce.l0 k l acc ((i + 1 : Nat) : Int)) r else Ev (fun k => worldmintref27_Reduce.l0 k l (acc ++ [(i : Int)]) ((i + 1 : Nat) : Int)) r) →
      Ev (fun k => worldmintref27_Reduce.l1 k l acc (i : Int) b (j : Int)) r := by
    intro acc hacc i hi r
    have hwi : wrap64 ((i : Int) + 1) = ((i + 1 : Nat) : Int) := by rw [w64 _ (by omega) (by omega)]; omega
    intro d
    induction d with
    | zero =>
      intro j b hj h
      have hj1 : ¬ (j : Int) < (l.length : Int) := by omega
      have ha : acc.length < 17592186044416 := by omega
      simp only [List.range'_zero, List.any_nil, Bool.or_false] at h
      refine Ev.succ ?_
      simp only [worldmintref27_Reduce.l1, if_neg hj1, hwi, if_pos ha]
      cases b
      · simp only [Bool.false_eq_true, if_false] at h ⊢; exact h
      · simp only [if_true] at h ⊢; exact h
    | succ d ih =>
      intro j b hj h
      have hj1 : (j : Int) < (l.length : Int) := by omega
      have hwj : wrap64 ((j : Int) + 1) = ((j + 1 : Nat) : Int) := by rw [w64 _ (by omega) (by omega)]; omega
      rw [List.range'_succ, List.any_cons] at h
      refine Ev.succ ?_
      simp only [worldmintref27_Reduce.l1, if_pos hj1, hwj]
      refine Ev.bind (ruseless_ok l hb i j hi (by omega)) ?_
      cases b
      · simp only [Bool.false_eq_true, if_false]
        rw [Bool.false_or] at h
        exact ih (j + 1) _ (by omega) h
      · simp only [if_true]
        rw [Bool.true_or] at h
        exact ih (j + 1) true (by omega) (by rw [Bool.true_or]; exact h)
  have h : ∀ (d i : Nat) (acc : List Int), i + d = l.length → acc.length ≤ i → Ev (fun k => worldmintref27_Reduce.l0 k l acc (i : Int)) (acc ++ sel (fun i => !(List.range (l.map cv).length).any fun j => uselessP (l.map cv) (i : Int) (j : Int)) d i) := by
    intro d
    induction d with
    | zero =>
      intro i acc hi ha
      have hi1 : ¬ (i : Int) < (l.length : Int) := by omega
      refine Ev.succ ?_
      simp only [worldmintref27_Reduce.l0, if_neg hi1, sel, List.append_nil]
      exact Ev.some_
    | succ d ih =>
      intro i acc hi ha
      have hi1 : (i : Int) < (l.length : Int) := by omega
      refine Ev.succ ?_
      simp only [worldmintref27_Reduce.l0, if_pos hi1]
      refine h1 acc (by omega) i (by omega) _ l.length 0 false (by omega) ?_
      rw [Bool.false_or, ← List.range_eq_range']
      unfold sel
      rw [hlm]
      rw [hlm] at ih
      cases hu : (List.range l.length).any fun m => uselessP (l.map cv) (i : Int) (m : Int)
      · rw [if_neg (by simp), if_pos (by simp)]
        have := ih (i + 1) (acc ++ [(i : Int)]) (by omega) (by simp; omega)
        rwa [List.append_assoc] at this
      · rw [if_pos rfl, if_neg (by simp)]
        exact ih (i + 1) acc (by omega) (by omega)
  have := h l.length 0 [] (by omega) (by simp)
  unfold worldmintref27_Reduce.f reduceP
  rw [hlm] at this ⊢
  exact this
end
end Go.Proofs.Ytdbpdkmnnlippaa.H

/- A part replaced; two lists compared. Plain. -/
namespace Go.Proofs.Ytdbpdkmnnlippaa.H
open Go.RowKit Go.Proofs.YtdbpdkmnnlippaaW.PrintWords Go.Proofs.YtdbpdkmnnlippaaW.PrintLast
set_option linter.unusedVariables false
set_option linter.unusedSimpArgs false
theorem same_ok (a b : List Int) (ha : a.length ≤ 9223372036854775807) : Ev (fun k => worldmintref01_SameInts.f k a b) (decide (a = b)) := by
  unfold worldmintref01_SameInts.f
  by_cases hl : (a.length : Int) = (b.length : Int)
  · simp only [if_pos hl]
    have : ∀ (d e : List Int) (p : Nat), a.drop p = d → b.drop p = e → p ≤ a.length → Ev (fun k => worldmintref01_SameInts.l0 k a b (p : Int)) (decide (d = e)) := by
      intro d
      induction d with
      | nil =>
        intro e p hd he hp
        have h1 := drop_nil a p hp hd
        have h2 : e = [] := by
          rw [← he]
          exact List.drop_eq_nil_of_le (by omega)
        subst h2
        refine Ev.succ ?_
        simp only [worldmintref01_SameInts.l0, if_neg (show ¬ (p : Int) < (a.length : Int) by omega)]
        simpa using Ev.some_
      | cons x d ih =>
        intro e p hd he hp
        obtain ⟨hx, hd', hlt⟩ := drop_cons a p x d hd
        have hw : wrap64 ((p : Int) + 1) = ((p + 1 : Nat) : Int) := by rw [w64 _ (by omega) (by omega)]; omega
        cases e with
        | nil =>
          have := drop_nil b p (by omega) he
          omega
        | cons y e =>
          obtain ⟨hy, he', _⟩ := drop_cons b p y e he
          refine Ev.succ ?_
          simp only [worldmintref01_SameInts.l0, if_pos (show (p : Int) < (a.length : Int) by omega), if_pos (show (0 : Int) ≤ (p : Int) by omega), if_pos (show (p : Int) < (b.length : Int) by omega), rd_at a p x hx, rd_at b p y hy, hw]
          by_cases c : x = y
          · subst c
            simp only [if_true]
            have := ih e (p + 1) hd' he' (by omega)
            simpa using this
          · simp only [if_neg c]
            have e2 : decide (x :: d = y :: e) = false := by simp [c]
            rw [e2]
            exact Ev.some_
    exact this a b 0 rfl rfl (Nat.zero_le _)
  · simp only [if_neg hl]
    have e : decide (a = b) = false := decide_eq_false (fun e => hl (by rw [e]))
    rw [e]
    exact Ev.some_
end Go.Proofs.Ytdbpdkmnnlippaa.H

/- The example of chapter 27. Plain. -/
namespace Go.Proofs.Ytdbpdkmnnlippaa.H
open Go.RowKit Go.Proofs.YtdbpdkmnnlippaaW.PrintWords Go.Proofs.YtdbpdkmnnlippaaW.PrintLast
set_option linter.unusedVariables false
set_option linter.unusedSimpArgs false
/-- Sorting by insertion: the kernel can compute it. -/
def insI (x : Int) : List Int → List Int
  | [] => [x]
  | y :: s => if x ≤ y then x :: y :: s else y :: insI x s
def sortI : List Int → List Int
  | [] => []
  | x :: s => insI x (sortI s)
theorem insI_perm (x : Int) : ∀ s, (insI x s).Perm (x :: s)
  | [] => List.Perm.refl _
  | y :: s => by
    unfold insI
    split
    · exact List.Perm.refl _
    · exact ((insI_perm x s).cons y).trans (List.Perm.swap x y s)
theorem sortI_perm : ∀ s, (sortI s).Perm s
  | [] => List.Perm.refl _
  | x :: s => (insI_perm x _).trans ((sortI_perm s).cons x)
theorem insI_sorted (x : Int) : ∀ s, s.Pairwise (· ≤ ·) → (insI x s).Pairwise (· ≤ ·)
  | [], _ => by simp [insI]
  | y :: s, h => by
    obtain ⟨h1, h2⟩ := List.pairwise_cons.1 h
    unfold insI
    split
    · rename_i hxy
      refine List.pairwise_cons.2 ⟨fun z hz => ?_, h⟩
      rcases List.mem_cons.1 hz with rfl | hz
      · exact hxy
      · have := h1 z hz; omega
    · rename_i hxy
      refine List.pairwise_cons.2 ⟨fun z hz => ?_, insI_sorted x s h2⟩
      rcases List.mem_cons.1 ((insI_perm x s).mem_iff.1 hz) with rfl | hz
      · omega
      · exact h1 z hz
theorem sortI_sorted : ∀ s, (sortI s).Pairwise (· ≤ ·)
  | [] => List.Pairwise.nil
  | x :: s => insI_sorted x _ (sortI_sorted s)
theorem sortI_eq (xs : List Int) : (xs.mergeSort fun x y => decide (x ≤ y)) = sortI xs := by
  have hs : (xs.mergeSort fun x y => decide (x ≤ y)).Pairwise (fun a b => decide (a ≤ b) = true) :=
    List.pairwise_mergeSort (fun a b c h1 h2 => by simp only [decide_eq_true_eq] at *; omega) (fun a b => by simp only [Bool.or_eq_true, decide_eq_true_eq]; omega) xs
  refine List.Perm.eq_of_pairwise (le := fun a b : Int => a ≤ b) (fun a b _ _ h1 h2 => by omega) (hs.imp (fun h => by simpa using h)) (sortI_sorted xs) ((List.mergeSort_perm xs _).trans (sortI_perm xs).symm)
def partsStepI (l : List S38) (st : List Bool × List (List Int)) (i : Nat) : List Bool × List (List Int) :=
  if st.1.getD i true then st else ((visitP l l.length i (st.1, [])).1, st.2 ++ [sortI (visitP l l.length i (st.1, [])).2])
theorem partsI (l : List S38) : partsP l = ((List.range l.length).foldl (partsStepI l) (List.replicate l.length false, [])).2 := by
  have : partsStep l = partsStepI l := by
    funext st i
    unfold partsStep partsStepI
    rw [sortI_eq]
  unfold partsP
  rw [this]
def bids_Parts.fI (l0 : List S38) : Option (List (List Int)) := if l0.length ≤ 1000000 then some ((List.range l0.length).foldl (partsStepI l0) (List.replicate l0.length false, [])).2 else none
theorem parts_fI : bids_Parts.f = bids_Parts.fI := by
  funext l
  unfold bids_Parts.f bids_Parts.fI
  rw [partsI]
def livesL : List S38 := [⟨1, 5, [0, 1]⟩, ⟨1, 5, [0]⟩, ⟨2, 3, [1]⟩, ⟨3, 2, [2]⟩]
theorem lives_parts : bids_Parts.f livesL = some [[0, 1, 2], [3]] := by rw [parts_fI]; kernel_rfl
set_option maxRecDepth 100000 in
theorem lives_ok7 : Ev (fun k => worldmintlaw27_lives.f k) true := by
  refine Ev.of_mono (fun k => worldmintlaw27_lives.mono k) ⟨30, ?_⟩
  have h := lives_parts
  unfold livesL at h
  unfold worldmintlaw27_lives.f
  rw [Option.bind_some, h]
  clear h
  show _ = some true
  kernel_rfl
end Go.Proofs.Ytdbpdkmnnlippaa.H

/- BidsReduce: the plain statement. -/
namespace Go.Proofs.Ytdbpdkmnnlippaa.H
open Go.RowKit Go.Proofs.YtdbpdkmnnlippaaW.PrintWords Go.Proofs.YtdbpdkmnnlippaaW.PrintLast
set_option linter.unusedVariables false
set_option linter.unusedSimpArgs false
theorem sel_len (p : Nat → Bool) : ∀ n i, (sel p n i).length ≤ n
  | 0, i => by simp [sel]
  | n + 1, i => by
    have := sel_len p n (i + 1)
    unfold sel
    split
    · simp; omega
    · omega
theorem BidsReduce_pure : worldmintlaw27_BidsReduce.Pure := by
  intro a0 l1 w0 _ _ w1
  obtain ⟨t, ht, ht0, ht1⟩ := lots_ok a0 w0
  obtain ⟨L, hL, hLl, hLg⟩ := bids_ok t l1 w1 10 ht0 ht1 (by omega) (by omega)
  have hb8 : ∀ b ∈ L, b.f2.length ≤ 9223372036854775807 := fun b hb => by have := (hLg b hb).2.2.2.2.2.2; omega
  have hlen : (L.map cv).length = L.length := List.length_map ..
  have hrl : (reduceP (L.map cv)).length ≤ 1000 := by
    have := sel_len (fun i => !(List.range (L.map cv).length).any fun j => uselessP (L.map cv) (i : Int) (j : Int)) (L.map cv).length 0
    unfold reduceP
    omega
  refine Ev.ex ?_
  unfold worldmintlaw27_BidsReduce.f
  simp only [ht, Option.bind_some]
  refine Ev.bind hL ?_
  refine Ev.bind (given_ok L (by omega)) ?_
  refine Ev.bind (reduce_ok (L.map cv) (by omega)) ?_
  refine Ev.bind (rreduce_ok L hb8 (by omega)) ?_
  refine Ev.bind (same_ok _ _ (by omega)) ?_
  simp only [decide_true, if_true]
  exact Ev.bind lives_ok7 Ev.some_
end Go.Proofs.Ytdbpdkmnnlippaa.H
namespace Go.Proofs.Ytdbpdkmnnlippaa.Pure
theorem BidsReduce : H.worldmintlaw27_BidsReduce.Pure := H.BidsReduce_pure
end Go.Proofs.Ytdbpdkmnnlippaa.Pure
