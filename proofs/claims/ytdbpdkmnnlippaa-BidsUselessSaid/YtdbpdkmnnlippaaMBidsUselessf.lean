/- Texts of this claim, one behind the other. -/
import Derived.Test.YtdbpdkmnnlippaaMBidsUselessc
import Derived.Test.YtdbpdkmnnlippaaMBidsUselessb
import Derived.Test.YtdbpdkmnnlippaaMBidsUselessd
import Derived.Test.YtdbpdkmnnlippaaMBidsUselesse

/- What a printed function computes with rounds enough: its laws; the generators of the reference. -/
namespace Go.Proofs.Ytdbpdkmnnlippaa.H
open Go.RowKit Go.Proofs.YtdbpdkmnnlippaaW.PrintWords Go.Proofs.YtdbpdkmnnlippaaW.PrintLast
set_option linter.unusedVariables false
set_option linter.unusedSimpArgs false
/-- With rounds enough, f tells a. -/
def Ev {α : Type} (f : Nat → Option α) (a : α) : Prop := ∃ K, ∀ k, K ≤ k → f k = some a
section
variable {α β : Type} {f : Nat → Option α} {a : α}
theorem Ev.succ (h : Ev (fun k => f (k + 1)) a) : Ev f a := by
  obtain ⟨K, h⟩ := h
  refine ⟨K + 1, fun k hk => ?_⟩
  obtain ⟨j, rfl⟩ : ∃ j, k = j + 1 := ⟨k - 1, by omega⟩
  exact h j (by omega)
theorem Ev.bind {g : Nat → α → Option β} {b : β} (hf : Ev f a) (hg : Ev (fun k => g k a) b) : Ev (fun k => (f k).bind (g k)) b := by
  obtain ⟨K, h⟩ := hf
  obtain ⟨K2, h2⟩ := hg
  exact ⟨max K K2, fun k hk => by
    show (f k).bind (g k) = some b
    rw [h k (by omega)]
    exact h2 k (by omega)⟩
theorem Ev.some_ : Ev (fun _ => some a) a := ⟨0, fun _ _ => rfl⟩
theorem Ev.ex (h : Ev f a) : ∃ k, f k = some a := by
  obtain ⟨K, h⟩ := h
  exact ⟨K, h K (Nat.le_refl _)⟩
theorem Ev.of_mono (hm : ∀ k, LeO (f k) (f (k + 1))) (h : ∃ k, f k = some a) : Ev f a := by
  obtain ⟨K, h⟩ := h
  refine ⟨K, fun k hk => ?_⟩
  obtain ⟨d, rfl⟩ := Nat.exists_eq_add_of_le hk
  clear hk
  induction d with
  | zero => exact h
  | succ d ih => exact hm (K + d) _ ih
end
theorem wf_bounds (n : Int) (h : (Lit.int .i64 n).wf = true) : -9223372036854775808 ≤ n ∧ n ≤ 9223372036854775807 := by
  simpa [Lit.wf, IntKind.min, IntKind.max, IntKind.signed, IntKind.bits] using h
theorem w64 (x : Int) (h0 : -9223372036854775808 ≤ x) (h1 : x ≤ 9223372036854775807) : wrap64 x = x := by
  unfold wrap64
  omega
theorem around_ok (n most : Int) (hn : (Lit.int .i64 n).wf = true) (hm : 0 < most) : ∃ r, worldmintref01_Around.f n most = some r ∧ 0 ≤ r ∧ r < most := by
  have hb := wf_bounds n hn
  unfold worldmintref01_Around.f
  by_cases h : n < 0
  · rw [if_pos h, if_neg (by omega), w64 (n + 1) (by omega) (by omega), w64 (-(n + 1)) (by omega) (by omega)]
    exact ⟨_, rfl, Int.tmod_nonneg _ (by omega), Int.tmod_lt_of_pos _ hm⟩
  · rw [if_neg h, if_neg (by omega)]
    exact ⟨_, rfl, Int.tmod_nonneg _ (by omega), Int.tmod_lt_of_pos _ hm⟩
theorem lots_ok (n : Int) (hn : (Lit.int .i64 n).wf = true) : ∃ r, worldmintref27_Lots.f n = some r ∧ 1 ≤ r ∧ r ≤ 8 := by
  obtain ⟨r, h, h0, h1⟩ := around_ok n 8 hn (by omega)
  unfold worldmintref27_Lots.f
  rw [h, Option.bind_some, w64 _ (by omega) (by omega)]
  exact ⟨_, rfl, by omega, by omega⟩
theorem pick_ok (l : List Int) (i most : Int) (hl : ∀ x ∈ l, (Lit.int .i64 x).wf = true) (hm : 0 < most) : ∃ r, worldmintref01_Pick.f l i most = some r ∧ 0 ≤ r ∧ r < most := by
  unfold worldmintref01_Pick.f
  by_cases h : i < 0
  · rw [if_pos h]; exact ⟨0, rfl, by omega, hm⟩
  · rw [if_neg h]
    by_cases h2 : i ≥ (l.length : Int)
    · rw [if_pos h2]; exact ⟨0, rfl, by omega, hm⟩
    · rw [if_neg h2, if_pos (by omega), if_pos (by omega)]
      have hm2 : rd l i ∈ l := by
        have : i.toNat < l.length := by omega
        simp [rd, List.getD, this]
      obtain ⟨r, h3, h4, h5⟩ := around_ok (rd l i) most (hl _ hm2) hm
      exact ⟨r, by rw [h3]; rfl, h4, h5⟩
/-- A bid as the reference draws it. -/
def GoodBid (n : Int) (b : S40) : Prop := 1 ≤ b.f0 ∧ b.f0 ≤ 6 ∧ 1 ≤ b.f1 ∧ b.f1 ≤ 450 ∧ b.f2.length ≠ 0 ∧ lotsOk n (-1) b.f2 = true ∧ b.f2.length ≤ 8
theorem lotsOk_snoc (n j : Int) (hj : j < n) : ∀ (ks : List Int) (last : Int), lotsOk n last ks = true → (∀ k ∈ ks, k < j) → last < j → lotsOk n last (ks ++ [j]) = true
  | [], last, _, _, h => by
    simp only [List.nil_append, lotsOk]
    simp [hj, h]
  | k :: ks, last, h, hk, _ => by
    simp only [List.cons_append, lotsOk] at h ⊢
    split at h
    · simp at h
    · rename_i hc
      rw [if_neg hc]
      exact lotsOk_snoc n j hj ks k h (fun x hx => hk x (by simp [hx])) (hk k (by simp))
set_option maxHeartbeats 1000000 in
theorem bids_l1 (n : Int) (l : List Int) (most : Int) (x7 : List S40) (x8 f0 f1 : Int) (hn1 : 1 ≤ n) (hn8 : n ≤ 8) (hx7 : x7.length < 3518437208883) (L : List S40)
    (hnext : ∀ ks : List Int, ks.length ≠ 0 → lotsOk n (-1) ks = true → ks.length ≤ 8 → ∃ L, Ev (fun k => worldmintref27_Bids.l0 k n l most (x7 ++ [⟨f0, f1, ks⟩]) (wrap64 (x8 + 1))) L ∧ (L.length : Int) ≤ most ∧ ∀ b ∈ L, GoodBid n b) :
    ∀ (d : Nat) (j : Int) (bs : Int) (ks : List Int), (n - j).toNat = d → 0 ≤ j → j ≤ n → lotsOk n (-1) ks = true → (∀ k ∈ ks, k < j) → (ks.length : Int) ≤ j → (j = n → ks.length ≠ 0) →
    ∃ L, Ev (fun k => worldmintref27_Bids.l1 k n l most x7 x8 bs j f0 f1 ks) L ∧ (L.length : Int) ≤ most ∧ ∀ b ∈ L, GoodBid n b
  | 0, j, bs, ks, hd, h0, hjn, hk, hkj, hkl, hne => by
    obtain ⟨L, h1, h2⟩ := hnext ks (hne (by omega)) hk (by omega)
    refine ⟨L, Ev.succ ?_, h2⟩
    simp only [worldmintref27_Bids.l1]
    simp only [if_neg (show ¬ j < n by omega), if_pos hx7]
    exact h1
  | d + 1, j, bs, ks, hd, h0, hjn, hk, hkj, hkl, hne => by
    have hw : wrap64 (j + 1) = j + 1 := w64 _ (by omega) (by omega)
    have hw2 : wrap64 (n - 1) = n - 1 := w64 _ (by omega) (by omega)
    have happ := fun bs' => bids_l1 n l most x7 x8 f0 f1 hn1 hn8 hx7 L hnext d (j + 1) bs' (ks ++ [j]) (by omega) (by omega) (by omega) (lotsOk_snoc n j (by omega) ks (-1) hk hkj (by omega)) (fun k hk' => by
      rcases List.mem_append.1 hk' with h | h
      · have := hkj k h; omega
      · simp at h; omega) (by simp; omega) (fun _ => by simp)
    have hnot := fun bs' (hh : j + 1 = n → ks.length ≠ 0) => bids_l1 n l most x7 x8 f0 f1 hn1 hn8 hx7 L hnext d (j + 1) bs' ks (by omega) (by omega) (by omega) hk (fun k hk' => by have := hkj k hk'; omega) (by omega) hh
    by_cases c1 : Int.tmod bs 2 = 1
    · obtain ⟨L, h1, h2⟩ := happ (wrap64 (Int.tdiv bs 2))
      refine ⟨L, Ev.succ ?_, h2⟩
      simp only [worldmintref27_Bids.l1]
      simp only [if_pos (show j < n by omega), if_pos c1, if_pos (show ks.length < 17592186044416 by omega), hw]
      exact h1
    · by_cases c2 : j = n - 1
      · by_cases c3 : (ks.length : Int) = 0
        · obtain ⟨L, h1, h2⟩ := happ (wrap64 (Int.tdiv bs 2))
          refine ⟨L, Ev.succ ?_, h2⟩
          simp only [worldmintref27_Bids.l1]
          simp only [if_pos (show j < n by omega), if_neg c1, hw2, if_pos c2, if_pos c3, if_pos (show ks.length < 17592186044416 by omega), hw]
          exact h1
        · obtain ⟨L, h1, h2⟩ := hnot (wrap64 (Int.tdiv bs 2)) (fun _ => by omega)
          refine ⟨L, Ev.succ ?_, h2⟩
          simp only [worldmintref27_Bids.l1]
          simp only [if_pos (show j < n by omega), if_neg c1, hw2, if_pos c2, if_neg c3, hw]
          exact h1
      · obtain ⟨L, h1, h2⟩ := hnot (wrap64 (Int.tdiv bs 2)) (fun _ => by omega)
        refine ⟨L, Ev.succ ?_, h2⟩
        simp only [worldmintref27_Bids.l1]
        simp only [if_pos (show j < n by omega), if_neg c1, hw2, if_neg c2, hw]
        exact h1
set_option maxHeartbeats 1000000 in
theorem bids_l0 (n : Int) (l : List Int) (hl : ∀ x ∈ l, (Lit.int .i64 x).wf = true) (most : Int) (hn1 : 1 ≤ n) (hn8 : n ≤ 8) (hm0 : 0 ≤ most) (hm1 : most ≤ 1000) :
    ∀ (d : Nat) (x7 : List S40), (most - x7.length).toNat = d → (x7.length : Int) ≤ most → (∀ b ∈ x7, GoodBid n b) →
    ∃ L, Ev (fun k => worldmintref27_Bids.l0 k n l most x7 x7.length) L ∧ (L.length : Int) ≤ most ∧ ∀ b ∈ L, GoodBid n b := by
  intro d
  induction d with
  | zero =>
    intro x7 hd hx hb
    obtain ⟨r, hr, hr0, hr1⟩ := pick_ok l 0 (most + 1) hl (by omega)
    refine ⟨x7, Ev.succ ?_, hx, hb⟩
    simp only [worldmintref27_Bids.l0, w64 (most + 1) (by omega) (by omega), hr, Option.bind_some]
    simp only [if_neg (show ¬ (x7.length : Int) < r by omega)]
    exact Ev.some_
  | succ d ih =>
    intro x7 hd hx hb
    obtain ⟨r, hr, hr0, hr1⟩ := pick_ok l 0 (most + 1) hl (by omega)
    by_cases hlt : (x7.length : Int) < r
    · obtain ⟨t, ht, ht0, ht1⟩ := pick_ok l (wrap64 (1 + wrap64 (3 * (x7.length : Int)))) 1000000 hl (by omega)
      obtain ⟨u, hu, hu0, hu1⟩ := pick_ok l (wrap64 (2 + wrap64 (3 * (x7.length : Int)))) 255 hl (by omega)
      obtain ⟨v, hv, hv0, hv1⟩ := pick_ok l (wrap64 (3 + wrap64 (3 * (x7.length : Int)))) 255 hl (by omega)
      have e0 : 0 ≤ Int.tmod t 6 ∧ Int.tmod t 6 < 6 := ⟨Int.tmod_nonneg _ ht0, Int.tmod_lt_of_pos _ (by omega)⟩
      have hq : 0 ≤ Int.tdiv t 6 ∧ Int.tdiv t 6 ≤ t := ⟨Int.tdiv_nonneg ht0 (by omega), Int.tdiv_le_self _ ht0⟩
      have hq2 : 0 ≤ Int.tdiv t 216 ∧ Int.tdiv t 216 ≤ t := ⟨Int.tdiv_nonneg ht0 (by omega), Int.tdiv_le_self _ ht0⟩
      have hw1 : wrap64 (Int.tdiv t 6) = Int.tdiv t 6 := w64 _ (by omega) (by omega)
      have hw2 : wrap64 (Int.tdiv t 216) = Int.tdiv t 216 := w64 _ (by omega) (by omega)
      have e1 : 0 ≤ Int.tmod (Int.tdiv t 6) 9 ∧ Int.tmod (Int.tdiv t 6) 9 < 9 := ⟨Int.tmod_nonneg _ hq.1, Int.tmod_lt_of_pos _ (by omega)⟩
      have e2 : 0 ≤ Int.tmod (Int.tdiv t 216) 50 ∧ Int.tmod (Int.tdiv t 216) 50 < 50 := ⟨Int.tmod_nonneg _ hq2.1, Int.tmod_lt_of_pos _ (by omega)⟩
      have g0 : wrap64 (1 + Int.tmod t 6) = 1 + Int.tmod t 6 := w64 _ (by omega) (by omega)
      have g1 : wrap64 (1 + Int.tmod (Int.tdiv t 6) 9) = 1 + Int.tmod (Int.tdiv t 6) 9 := w64 _ (by omega) (by omega)
      have g2 : wrap64 (1 + Int.tmod (Int.tdiv t 216) 50) = 1 + Int.tmod (Int.tdiv t 216) 50 := w64 _ (by omega) (by omega)
      have hpr : ∀ a b : Int, 1 ≤ a → a ≤ 9 → 1 ≤ b → b ≤ 50 → 1 ≤ a * b ∧ a * b ≤ 450 := fun a b a1 a2 b1 b2 => by
        have h1 : 1 * 1 ≤ a * b := Int.mul_le_mul a1 b1 (by omega) (by omega)
        have h2 : a * b ≤ 9 * 50 := Int.mul_le_mul a2 b2 (by omega) (by omega)
        omega
      have hp := hpr (1 + Int.tmod (Int.tdiv t 6) 9) (1 + Int.tmod (Int.tdiv t 216) 50) (by omega) (by omega) (by omega) (by omega)
      have g3 : wrap64 ((1 + Int.tmod (Int.tdiv t 6) 9) * (1 + Int.tmod (Int.tdiv t 216) 50)) = (1 + Int.tmod (Int.tdiv t 6) 9) * (1 + Int.tmod (Int.tdiv t 216) 50) := w64 _ (by omega) (by omega)
      have hstep : ∀ p : Int, 1 ≤ p → p ≤ 450 → ∃ L, Ev (fun k => worldmintref27_Bids.j1 k n l most x7 (x7.length : Int) (1 + Int.tmod t 6) p) L ∧ (L.length : Int) ≤ most ∧ ∀ b ∈ L, GoodBid n b := fun p hp1 hp2 => by
        obtain ⟨L, h1, h2⟩ := bids_l1 n l most x7 (x7.length : Int) (1 + Int.tmod t 6) p hn1 hn8 (by omega) [] (fun ks hk0 hk1 hk2 => by
          obtain ⟨L, h1, h2⟩ := ih (x7 ++ [⟨1 + Int.tmod t 6, p, ks⟩]) (by simp; omega) (by simp; omega) (fun b hb' => by
            rcases List.mem_append.1 hb' with h | h
            · exact hb b h
            · rw [List.mem_singleton] at h; subst h; exact ⟨by show 1 ≤ 1 + _; omega, by show 1 + _ ≤ 6; omega, hp1, hp2, hk0, hk1, hk2⟩)
          refine ⟨L, ?_, h2⟩
          rw [w64 _ (by omega) (by omega)]
          simpa using h1) n.toNat 0 (Go.bits .and .i64 u (Go.bits .or .i64 v 17)) [] (by omega) (by omega) (by omega) rfl (by simp) (by simp) (by omega)
        refine ⟨L, Ev.succ ?_, h2⟩
        simp only [worldmintref27_Bids.j1, hu, hv, Option.bind_some]
        exact h1
      by_cases c : Int.tmod (wrap64 (Int.tdiv t 54)) 4 = 0
      · obtain ⟨L, h1, h2⟩ := hstep _ hp.1 hp.2
        refine ⟨L, Ev.succ ?_, h2⟩
        simp only [worldmintref27_Bids.l0, w64 (most + 1) (by omega) (by omega), hr, ht, Option.bind_some, if_pos hlt, if_pos c, hw1, hw2, g0, g1, g2, g3]
        exact h1
      · obtain ⟨L, h1, h2⟩ := hstep (1 + Int.tmod (Int.tdiv t 6) 9) (by omega) (by omega)
        refine ⟨L, Ev.succ ?_, h2⟩
        simp only [worldmintref27_Bids.l0, w64 (most + 1) (by omega) (by omega), hr, ht, Option.bind_some, if_pos hlt, if_neg c, hw1, g0, g1]
        exact h1
    · refine ⟨x7, Ev.succ ?_, hx, hb⟩
      simp only [worldmintref27_Bids.l0, w64 (most + 1) (by omega) (by omega), hr, Option.bind_some]
      simp only [if_neg hlt]
      exact Ev.some_
theorem bids_ok (n : Int) (l : List Int) (hl : ∀ x ∈ l, (Lit.int .i64 x).wf = true) (most : Int) (hn1 : 1 ≤ n) (hn8 : n ≤ 8) (hm0 : 0 ≤ most) (hm1 : most ≤ 1000) :
    ∃ L, Ev (fun k => worldmintref27_Bids.f k n l most) L ∧ (L.length : Int) ≤ most ∧ ∀ b ∈ L, GoodBid n b := by
  have := bids_l0 n l hl most hn1 hn8 hm0 hm1 _ [] rfl (by simpa using hm0) (by simp)
  simpa [worldmintref27_Bids.f] using this
end Go.Proofs.Ytdbpdkmnnlippaa.H

/- The search's answer: the best choice, and of equals the least. Plain. -/
namespace Go.Proofs.Ytdbpdkmnnlippaa.H
open Go.RowKit
set_option linter.unusedVariables false
set_option linter.unusedSimpArgs false
/-- Do places a and b conflict? -/
def cf (l : List S38) (a b : Int) : Bool := conf (l.getD a.toNat z38) (l.getD b.toNat z38)
/-- The places from i on, n of them, whose bit is set. -/
def choiceP : Nat → Nat → Nat → List Int
  | 0, _, _ => []
  | n + 1, bits, i => if bits % 2 = 1 then (i : Int) :: choiceP n (bits / 2) (i + 1) else choiceP n (bits / 2) (i + 1)
/-- Places that go with those taken, and among each other. -/
def okS (U : S38 → Bool) (l : List S38) : List Int → List Int → Bool
  | _, [] => true
  | win, k :: s => U (l.getD k.toNat z38) && !(win.any fun w => cf l w k) && okS U l (win ++ [k]) s
def valP (l : List S38) (s : List Int) : Int := (s.map fun k => (l.getD k.toNat z38).f1).sum
def lessP : List Int → List Int → Bool
  | [], [] => false
  | [], _ :: _ => true
  | _ :: _, [] => false
  | a :: s, b :: t => if a = b then lessP s t else decide (a < b)
section
variable {U : S38 → Bool} {l : List S38}
theorem choice_ge : ∀ (n bits i : Nat), ∀ k ∈ choiceP n bits i, (i : Int) ≤ k ∧ k < (i : Int) + n
  | 0, _, _ => by simp [choiceP]
  | n + 1, bits, i => by
    intro k hk
    have ih := choice_ge n (bits / 2) (i + 1)
    unfold choiceP at hk
    split at hk
    · rcases List.mem_cons.1 hk with rfl | hk
      · constructor <;> omega
      · have := ih k hk; constructor <;> omega
    · have := ih k hk; constructor <;> omega
end
end Go.Proofs.Ytdbpdkmnnlippaa.H

/- Choices as sets of places: the best one, told without lists. Plain. -/
namespace Go.Proofs.Ytdbpdkmnnlippaa.H
open Go.RowKit
set_option linter.unusedVariables false
set_option linter.unusedSimpArgs false
/-- The places from i on, n of them, at which p holds. -/
def sel (p : Nat → Bool) : Nat → Nat → List Int
  | 0, _ => []
  | n + 1, i => if p i then (i : Int) :: sel p n (i + 1) else sel p n (i + 1)
def sumF (f : Nat → Int) : Nat → Nat → Int
  | 0, _ => 0
  | n + 1, i => f i + sumF f n (i + 1)
theorem mem_sel (p : Nat → Bool) (x : Int) : ∀ n i, x ∈ sel p n i ↔ ∃ k, i ≤ k ∧ k < i + n ∧ p k = true ∧ x = (k : Int)
  | 0, i => by simp [sel]; intro k h1 h2; omega
  | n + 1, i => by
    have ih := mem_sel p x n (i + 1)
    unfold sel
    by_cases h : p i = true
    · rw [if_pos h, List.mem_cons, ih]
      constructor
      · rintro (rfl | ⟨k, h1, h2, h3, h4⟩)
        · exact ⟨i, by omega, by omega, h, rfl⟩
        · exact ⟨k, by omega, by omega, h3, h4⟩
      · rintro ⟨k, h1, h2, h3, h4⟩
        by_cases e : k = i
        · subst e; exact .inl h4
        · exact .inr ⟨k, by omega, by omega, h3, h4⟩
    · rw [if_neg h, ih]
      constructor
      · rintro ⟨k, h1, h2, h3, h4⟩
        exact ⟨k, by omega, by omega, h3, h4⟩
      · rintro ⟨k, h1, h2, h3, h4⟩
        by_cases e : k = i
        · subst e; exact absurd h3 h
        · exact ⟨k, by omega, by omega, h3, h4⟩
theorem mem_sel0 (p : Nat → Bool) (n : Nat) (x : Int) : x ∈ sel p n 0 ↔ ∃ k, k < n ∧ p k = true ∧ x = (k : Int) := by
  rw [mem_sel]
  constructor
  · rintro ⟨k, h1, h2, h3, h4⟩; exact ⟨k, by omega, h3, h4⟩
  · rintro ⟨k, h2, h3, h4⟩; exact ⟨k, by omega, by omega, h3, h4⟩
theorem rise_sel (p : Nat → Bool) : ∀ n i, (sel p n i).Pairwise (· < ·)
  | 0, _ => List.Pairwise.nil
  | n + 1, i => by
    unfold sel
    split
    · refine List.pairwise_cons.2 ⟨fun x hx => ?_, rise_sel p n (i + 1)⟩
      obtain ⟨k, h1, h2, h3, rfl⟩ := (mem_sel p x n (i + 1)).1 hx
      omega
    · exact rise_sel p n (i + 1)
theorem sel_len (p : Nat → Bool) : ∀ n i, (sel p n i).length ≤ n
  | 0, i => by simp [sel]
  | n + 1, i => by
    have := sel_len p n (i + 1)
    unfold sel
    split
    · simp; omega
    · omega
theorem rise_ext : ∀ (s t : List Int), s.Pairwise (· < ·) → t.Pairwise (· < ·) → (∀ x, x ∈ s ↔ x ∈ t) → s = t
  | [], [], _, _, _ => rfl
  | [], y :: t, _, _, h => by have := (h y).2 (by simp); simp at this
  | x :: s, [], _, _, h => by have := (h x).1 (by simp); simp at this
  | x :: s, y :: t, hs, ht, h => by
    obtain ⟨s1, s2⟩ := List.pairwise_cons.1 hs
    obtain ⟨t1, t2⟩ := List.pairwise_cons.1 ht
    have e : x = y := by
      rcases List.mem_cons.1 ((h x).1 (by simp)) with e | e
      · exact e
      · rcases List.mem_cons.1 ((h y).2 (by simp)) with e2 | e2
        · exact e2.symm
        · have := t1 x e; have := s1 y e2; omega
    subst e
    rw [rise_ext s t s2 t2 (fun z => by
      constructor
      · intro hz
        rcases List.mem_cons.1 ((h z).1 (by simp [hz])) with e | e
        · subst e; exact absurd (s1 z hz) (Int.lt_irrefl _)
        · exact e
      · intro hz
        rcases List.mem_cons.1 ((h z).2 (by simp [hz])) with e | e
        · subst e; exact absurd (t1 z hz) (Int.lt_irrefl _)
        · exact e)]
theorem sel_of (n : Nat) (s : List Int) (h0 : ∀ k ∈ s, 0 ≤ k ∧ k < n) (h1 : s.Pairwise (· < ·)) : s = sel (fun k => decide ((k : Int) ∈ s)) n 0 := by
  refine rise_ext _ _ h1 (rise_sel _ _ _) (fun x => ?_)
  rw [mem_sel0]
  constructor
  · intro hx
    obtain ⟨a, b⟩ := h0 x hx
    obtain ⟨k, rfl⟩ := Int.eq_ofNat_of_zero_le a
    exact ⟨k, by omega, by simpa using hx, rfl⟩
  · rintro ⟨k, h2, h3, rfl⟩; simpa using h3
theorem sumF_congr (f g : Nat → Int) : ∀ n i, (∀ k, i ≤ k → k < i + n → f k = g k) → sumF f n i = sumF g n i
  | 0, _, _ => rfl
  | n + 1, i, h => by
    unfold sumF
    rw [h i (by omega) (by omega), sumF_congr f g n (i + 1) (fun k h1 h2 => h k (by omega) (by omega))]
theorem sumF_add (f g : Nat → Int) : ∀ n i, sumF (fun k => f k + g k) n i = sumF f n i + sumF g n i
  | 0, _ => rfl
  | n + 1, i => by unfold sumF; rw [sumF_add f g n (i + 1)]; omega
theorem sumF_zero : ∀ (f : Nat → Int) n i, (∀ k, i ≤ k → k < i + n → f k = 0) → sumF f n i = 0
  | f, 0, _, _ => rfl
  | f, n + 1, i, h => by
    unfold sumF
    rw [h i (by omega) (by omega), sumF_zero f n (i + 1) (fun k h1 h2 => h k (by omega) (by omega))]
    rfl
theorem sumF_one (f : Nat → Int) (a : Nat) : ∀ n i, i ≤ a → a < i + n → (∀ k, i ≤ k → k < i + n → k ≠ a → f k = 0) → sumF f n i = f a
  | 0, i, h1, h2, _ => by omega
  | n + 1, i, h1, h2, h => by
    unfold sumF
    by_cases e : i = a
    · subst e
      rw [sumF_zero f n (i + 1) (fun k h3 h4 => h k (by omega) (by omega) (by omega))]
      omega
    · rw [h i (by omega) (by omega) e, sumF_one f a n (i + 1) (by omega) (by omega) (fun k h3 h4 h5 => h k (by omega) (by omega) h5)]
      omega
/-- The price of the bid at a place; the value of a set of places. -/
def prc (l : List S38) (k : Nat) : Int := (l.getD k z38).f1
def valB (l : List S38) (p : Nat → Bool) : Int := sumF (fun k => if p k then prc l k else 0) l.length 0
def cj (l : List S38) (a b : Nat) : Bool := conf (l.getD a z38) (l.getD b z38)
theorem conf_comm (a b : S38) : conf a b = conf b a := by
  unfold conf
  have h1 : (a.f0 == b.f0) = (b.f0 == a.f0) := by rw [Bool.eq_iff_iff]; simp; exact ⟨fun h => h.symm, fun h => h.symm⟩
  have h2 : (b.f2.any fun k => a.f2.contains k) = (a.f2.any fun k => b.f2.contains k) := by
    rw [Bool.eq_iff_iff, List.any_eq_true, List.any_eq_true]
    constructor <;> (rintro ⟨x, h1, h2⟩; exact ⟨x, by simpa using h2, by simpa using h1⟩)
  rw [h1, h2]
theorem cj_comm (l : List S38) (a b : Nat) : cj l a b = cj l b a := conf_comm _ _
theorem prc_pos (l : List S38) (hp : ∀ b ∈ l, 1 ≤ b.f1) (k : Nat) (hk : k < l.length) : 1 ≤ prc l k := by
  unfold prc
  exact hp _ (by simp [List.getD, hk])
theorem val_sel (l : List S38) (p : Nat → Bool) : ∀ n i, valP l (sel p n i) = sumF (fun k => if p k then prc l k else 0) n i
  | 0, _ => rfl
  | n + 1, i => by
    have ih := val_sel l p n (i + 1)
    unfold sel sumF
    by_cases h : p i = true
    · rw [if_pos h, if_pos h, ← ih]; rfl
    · rw [if_neg h, if_neg h, ← ih]; omega
theorem valB_sel (l : List S38) (p : Nat → Bool) : valP l (sel p l.length 0) = valB l p := val_sel l p _ _
/-- A set of places that may win together. -/
def FeasU (U : S38 → Bool) (l : List S38) (p : Nat → Bool) : Prop :=
  (∀ a, a < l.length → p a = true → U (l.getD a z38) = true) ∧ ∀ a b, a < l.length → b < l.length → a ≠ b → p a = true → p b = true → cj l a b = false
/-- q has the first place at which they differ. -/
def dlt (n : Nat) (q p : Nat → Bool) : Prop := ∃ d, d < n ∧ q d = true ∧ p d = false ∧ ∀ x, x < d → q x = p x
theorem ok_of_pairs (U : S38 → Bool) (l : List S38) : ∀ (s win : List Int), okS U l win s = true ↔ ((∀ k ∈ s, U (l.getD k.toNat z38) = true) ∧ (∀ w ∈ win, ∀ k ∈ s, cf l w k = false) ∧ s.Pairwise (fun a b => cf l a b = false))
  | [], win => by simp [okS]
  | k :: s, win => by
    have ih := ok_of_pairs U l s (win ++ [k])
    simp only [okS, Bool.and_eq_true, ih, Bool.not_eq_true']
    constructor
    · rintro ⟨⟨h1, h2⟩, h3, h4, h5⟩
      have h2' : ∀ w ∈ win, cf l w k = false := fun w hw => by simpa using List.any_eq_false.1 h2 w hw
      refine ⟨fun x hx => ?_, fun w hw x hx => ?_, List.pairwise_cons.2 ⟨fun x hx => h4 k (by simp) x hx, h5⟩⟩
      · rcases List.mem_cons.1 hx with rfl | hx
        · exact h1
        · exact h3 x hx
      · rcases List.mem_cons.1 hx with rfl | hx
        · exact h2' w hw
        · exact h4 w (by simp [hw]) x hx
    · rintro ⟨h1, h2, h3⟩
      obtain ⟨h4, h5⟩ := List.pairwise_cons.1 h3
      refine ⟨⟨h1 k (by simp), List.any_eq_false.2 (fun w hw => by simpa using h2 w hw k (by simp))⟩, fun x hx => h1 x (by simp [hx]), fun w hw x hx => ?_, h5⟩
      rcases List.mem_append.1 hw with hw | hw
      · exact h2 w hw x (by simp [hx])
      · rw [List.mem_singleton] at hw; subst hw; exact h4 x hx
theorem ok_sel (U : S38 → Bool) (l : List S38) (p : Nat → Bool) : okS U l [] (sel p l.length 0) = true ↔ FeasU U l p := by
  rw [ok_of_pairs]
  constructor
  · rintro ⟨h1, _, h3⟩
    refine ⟨fun a ha hp => ?_, ?_⟩
    · have := h1 (a : Int) ((mem_sel0 p _ _).2 ⟨a, ha, hp, rfl⟩)
      simpa using this
    · have key : ∀ a b, a < l.length → b < l.length → a < b → p a = true → p b = true → cj l a b = false := by
        intro a b ha hb hab hpa hpb
        have hm : (a : Int) ∈ sel p l.length 0 := (mem_sel0 p _ _).2 ⟨a, ha, hpa, rfl⟩
        have hn : (b : Int) ∈ sel p l.length 0 := (mem_sel0 p _ _).2 ⟨b, hb, hpb, rfl⟩
        have hr := rise_sel p l.length 0
        generalize sel p l.length 0 = s at *
        induction s with
        | nil => simp at hm
        | cons x s ih =>
          obtain ⟨r1, r2⟩ := List.pairwise_cons.1 hr
          obtain ⟨c1, c2⟩ := List.pairwise_cons.1 h3
          rcases List.mem_cons.1 hm with e1 | e1
          · rcases List.mem_cons.1 hn with e2 | e2
            · omega
            · subst e1; exact c1 _ e2
          · rcases List.mem_cons.1 hn with e2 | e2
            · have := r1 _ e1; omega
            · exact ih (fun k hk => h1 k (by simp [hk])) (by simp) c2 e1 e2 r2
      intro a b ha hb hab hpa hpb
      rcases Nat.lt_or_gt_of_ne hab with h | h
      · exact key a b ha hb h hpa hpb
      · rw [cj_comm]; exact key b a hb ha h hpb hpa
  · rintro ⟨h1, h2⟩
    refine ⟨fun k hk => ?_, by simp, ?_⟩
    · obtain ⟨a, ha, hp, rfl⟩ := (mem_sel0 p _ _).1 hk
      exact h1 a ha hp
    · refine (rise_sel p l.length 0).imp_of_mem (fun {a b} ha hb hab => ?_)
      obtain ⟨x, hx, hpx, rfl⟩ := (mem_sel0 p _ _).1 ha
      obtain ⟨y, hy, hpy, rfl⟩ := (mem_sel0 p _ _).1 hb
      exact h2 x y hx hy (by omega) hpx hpy
theorem dlt_less (q p : Nat → Bool) : ∀ n i, (∃ d, i ≤ d ∧ d < i + n ∧ q d = true ∧ p d = false ∧ ∀ x, i ≤ x → x < d → q x = p x) → lessP (sel q n i) (sel p n i) = true ∨ ∃ t, t ≠ [] ∧ sel q n i = sel p n i ++ t
  | 0, i, ⟨d, h1, h2, _⟩ => by omega
  | n + 1, i, ⟨d, h1, h2, h3, h4, h5⟩ => by
    by_cases e : d = i
    · subst e
      unfold sel
      rw [if_pos h3, if_neg (by simp [h4])]
      cases hs : sel p n (d + 1) with
      | nil => exact .inr ⟨_, by simp, rfl⟩
      | cons y t =>
        have : (d : Int) < y := by
          obtain ⟨k, a, b, c, e⟩ := (mem_sel p y n (d + 1)).1 (by rw [hs]; simp)
          omega
        refine .inl ?_
        simp only [lessP]
        rw [if_neg (by omega)]
        simpa using this
    · have ih := dlt_less q p n (i + 1) ⟨d, by omega, by omega, h3, h4, fun x a b => h5 x (by omega) b⟩
      have hi := h5 i (by omega) (by omega)
      unfold sel
      by_cases hp : p i = true
      · rw [if_pos (by rw [hi]; exact hp), if_pos hp]
        rcases ih with ih | ⟨t, a, b⟩
        · exact .inl (by simp only [lessP, if_true]; exact ih)
        · exact .inr ⟨t, a, by rw [b]; rfl⟩
      · rw [if_neg (by rw [hi]; exact hp), if_neg hp]
        exact ih
theorem valP_append (l : List S38) (a b : List Int) : valP l (a ++ b) = valP l a + valP l b := by
  unfold valP
  rw [List.map_append, List.sum_append]
theorem valP_pos (l : List S38) (hp : ∀ b ∈ l, 1 ≤ b.f1) (t : List Int) (ht : t ≠ []) (h : ∀ k ∈ t, 0 ≤ k ∧ k < l.length) : 1 ≤ valP l t := by
  have h1 : ∀ s : List Int, (∀ k ∈ s, 0 ≤ k ∧ k < l.length) → 0 ≤ valP l s := by
    intro s
    induction s with
    | nil => intro _; exact Int.le_refl _
    | cons k s ih =>
      intro h
      have h2 := ih (fun x hx => h x (by simp [hx]))
      have h3 := h k (by simp)
      have h4 : 1 ≤ (l.getD k.toNat z38).f1 := prc_pos l hp k.toNat (by omega)
      simp only [valP, List.map_cons, List.sum_cons] at h2 ⊢
      omega
  cases t with
  | nil => exact absurd rfl ht
  | cons k s =>
    have h2 := h1 s (fun x hx => h x (by simp [hx]))
    have h3 := h k (by simp)
    have h4 : 1 ≤ (l.getD k.toNat z38).f1 := prc_pos l hp k.toNat (by omega)
    simp only [valP, List.map_cons, List.sum_cons] at h2 ⊢
    omega
/-- Of two of one value the one that has the first difference is the less. -/
theorem dlt_same (l : List S38) (hp : ∀ b ∈ l, 1 ≤ b.f1) (q p : Nat → Bool) (h : dlt l.length q p) (hv : valB l q ≤ valB l p) : lessP (sel q l.length 0) (sel p l.length 0) = true := by
  obtain ⟨d, h1, h2, h3, h4⟩ := h
  rcases dlt_less q p l.length 0 ⟨d, by omega, by omega, h2, h3, fun x _ hx => h4 x hx⟩ with h5 | ⟨t, h5, h6⟩
  · exact h5
  · exfalso
    have h7 := valP_pos l hp t h5 (fun k hk => by
      obtain ⟨a, ha, _, rfl⟩ := (mem_sel0 q l.length k).1 (by rw [h6]; simp [hk])
      omega)
    rw [← valB_sel, ← valB_sel, h6, valP_append] at hv
    omega
end Go.Proofs.Ytdbpdkmnnlippaa.H

/- What bids.Parts tells: the components of the conflicts. Plain. -/
namespace Go.Proofs.Ytdbpdkmnnlippaa.H
open Go.RowKit
set_option linter.unusedVariables false
set_option linter.unusedSimpArgs false
/-- Place j can be reached from place i by conflicts. -/
def Conn (l : List S38) (i j : Nat) : Prop := ∀ S : Nat → Prop, S i → (∀ a b, a < l.length → b < l.length → S a → cj l a b = true → S b) → S j
section
variable {l : List S38}
theorem Conn.refl (i : Nat) : Conn l i i := fun _ h _ => h
theorem Conn.trans {i j k : Nat} (h1 : Conn l i j) (h2 : Conn l j k) : Conn l i k := fun S hi hc => h2 S (h1 S hi hc) hc
theorem Conn.one {i j : Nat} (hi : i < l.length) (hj : j < l.length) (h : cj l i j = true) : Conn l i j := fun S hs hc => hc i j hi hj hs h
theorem Conn.symm {i j : Nat} (h : Conn l i j) : Conn l j i :=
  h (fun x => Conn l x i) (Conn.refl i) (fun a b ha hb hs hc => (Conn.one hb ha (by rw [cj_comm]; exact hc)).trans hs)
/-- From state a to state b of a visit from i: what is new, and all that is new is reached from i. -/
structure VNew (l : List S38) (i : Nat) (a b : List Bool × List Int) (ns : List Nat) : Prop where
  grp : b.2 = a.2 ++ ns.map (fun k : Nat => (k : Int))
  nodup : ns.Nodup
  mem : ∀ k, k ∈ ns ↔ k < l.length ∧ a.1.getD k true = false ∧ b.1.getD k true = true
  mono : ∀ k, a.1.getD k true = true → b.1.getD k true = true
  conn : ∀ k ∈ ns, Conn l i k
theorem VNew.refl (i : Nat) (a : List Bool × List Int) : VNew l i a a [] :=
  ⟨by simp, List.nodup_nil, fun k => ⟨fun h => by simp at h, fun h => by rw [h.2.1] at h; cases h.2.2⟩, fun _ h => h, fun k hk => by simp at hk⟩
theorem VNew.trans {i j : Nat} {a b c : List Bool × List Int} {ns ms : List Nat} (h1 : VNew l i a b ns) (h2 : VNew l j b c ms) (hij : Conn l i j) : VNew l i a c (ns ++ ms) := by
  refine ⟨by rw [h2.grp, h1.grp, List.map_append, List.append_assoc], ?_, fun k => ?_, fun k hk => h2.mono k (h1.mono k hk), fun k hk => ?_⟩
  · rw [List.nodup_append]
    refine ⟨h1.nodup, h2.nodup, fun x hx y hy e => ?_⟩
    subst e
    have := ((h1.mem x).1 hx).2.2
    rw [((h2.mem x).1 hy).2.1] at this
    cases this
  · rw [List.mem_append, h1.mem, h2.mem]
    constructor
    · rintro (⟨a1, a2, a3⟩ | ⟨a1, a2, a3⟩)
      · exact ⟨a1, a2, h2.mono k a3⟩
      · refine ⟨a1, ?_, a3⟩
        cases h : a.1.getD k true
        · rfl
        · rw [h1.mono k h] at a2; cases a2
    · rintro ⟨a1, a2, a3⟩
      cases h : b.1.getD k true
      · exact .inr ⟨a1, rfl, a3⟩
      · exact .inl ⟨a1, a2, rfl⟩
  · rcases List.mem_append.1 hk with hk | hk
    · exact h1.conn k hk
    · exact hij.trans (h2.conn k hk)
end
end Go.Proofs.Ytdbpdkmnnlippaa.H

/- The best choice, group by group; what Reduce leaves. Plain. -/
namespace Go.Proofs.Ytdbpdkmnnlippaa.H
open Go.RowKit
set_option linter.unusedVariables false
set_option linter.unusedSimpArgs false
section
variable {l : List S38}
theorem valB_or (p q : Nat → Bool) (h : ∀ k, k < l.length → p k = true → q k = true → False) : valB l (fun k => p k || q k) = valB l p + valB l q := by
  unfold valB
  rw [← sumF_add]
  refine sumF_congr _ _ _ _ (fun k _ hk => ?_)
  have hk' : k < l.length := by omega
  have h' := h k hk'
  show (if (p k || q k) = true then prc l k else 0) = (if p k = true then prc l k else 0) + (if q k = true then prc l k else 0)
  cases hp : p k <;> cases hq : q k
  · simp
  · simp
  · simp
  · exact (h' hp hq).elim
theorem valB_congr (p q : Nat → Bool) (h : ∀ k, k < l.length → p k = q k) : valB l p = valB l q := by
  unfold valB
  exact sumF_congr _ _ _ _ (fun k _ hk => by rw [h k (by omega)])
theorem valB_one (a : Nat) (ha : a < l.length) : valB l (fun k => k == a) = prc l a := by
  unfold valB
  rw [sumF_one (fun k => if (k == a) = true then prc l k else 0) a l.length 0 (by omega) (by omega) (fun k _ _ hk => by rw [if_neg (by simpa using hk)])]
  simp
/-- A set with one place taken out. -/
theorem valB_without (p : Nat → Bool) (a : Nat) (ha : a < l.length) (hp : p a = true) : valB l p = valB l (fun k => p k && k != a) + prc l a := by
  have h1 := valB_or (l := l) (fun k => p k && k != a) (fun k => k == a) (fun k _ h1 h2 => by
    have h3 : (p k && k != a) = true := h1
    have h4 : (k == a) = true := h2
    simp only [Bool.and_eq_true, bne_iff_ne, beq_iff_eq] at h3 h4
    exact h3.2 h4)
  rw [valB_one a ha] at h1
  rw [← h1]
  refine valB_congr _ _ (fun k _ => ?_)
  show p k = (p k && k != a || k == a)
  by_cases e : k = a
  · subst e; simp [hp]
  · cases p k <;> simp [e]
theorem cj_bidder {a b : Nat} (h : cj l a b = false) : (l.getD a z38).f0 ≠ (l.getD b z38).f0 := by
  unfold cj conf at h
  simp only [Bool.or_eq_false_iff, beq_eq_false_iff_ne] at h
  exact h.1
end
section
variable {l : List S38} {g : List Int} (hr : g.Pairwise (· < ·)) (hg : ∀ k ∈ g, 0 ≤ k ∧ k < l.length)
include hr hg
end
/-! ### Reduce -/
def reduceP (l : List S38) : List Int := sel (fun i => !(List.range l.length).any fun j => uselessP l (i : Int) (j : Int)) l.length 0
theorem useless_iff (l : List S38) (i j : Nat) : uselessP l (i : Int) (j : Int) = true ↔ i ≠ j ∧ (l.getD i z38).f0 = (l.getD j z38).f0 ∧ prc l i ≤ prc l j ∧ (prc l j = prc l i → j < i) ∧ ∀ x ∈ (l.getD j z38).f2, x ∈ (l.getD i z38).f2 := by
  unfold uselessP
  simp only [Int.toNat_natCast]
  have e1 : ((i : Int) == (j : Int)) = (i == j) := by rw [Bool.eq_iff_iff, beq_iff_eq, beq_iff_eq]; omega
  rw [e1]
  show _ ↔ i ≠ j ∧ _ ∧ (l.getD i z38).f1 ≤ (l.getD j z38).f1 ∧ ((l.getD j z38).f1 = (l.getD i z38).f1 → j < i) ∧ _
  simp only [Bool.and_eq_true, Bool.not_eq_true', Bool.or_eq_false_iff, beq_eq_false_iff_ne, bne_eq_false_iff_eq, decide_eq_false_iff_not, List.any_eq_false, Bool.and_eq_false_iff]
  constructor
  · rintro ⟨⟨⟨⟨h1, h2⟩, h3⟩, h4⟩, h5⟩
    refine ⟨h1, h2, by omega, fun e => ?_, fun x hx => ?_⟩
    · rcases h4 with h4 | h4
      · exact absurd e h4
      · omega
    · have := h5 x hx
      simpa using this
  · rintro ⟨h1, h2, h3, h4, h5⟩
    refine ⟨⟨⟨⟨h1, h2⟩, by omega⟩, ?_⟩, fun x hx => ?_⟩
    · by_cases e : (l.getD j z38).f1 = (l.getD i z38).f1
      · have := h4 e
        exact .inr (by omega)
      · exact .inl e
    · have := h5 x hx
      simpa using this
/-- A useless bid exchanged. -/
theorem exchange_feas (l : List S38) (p : Nat → Bool) (hf : FeasU (fun _ => true) l p) (i j : Nat) (hi : i < l.length) (hj : j < l.length) (hp : p i = true) (hu : uselessP l (i : Int) (j : Int) = true) :
    FeasU (fun _ => true) l (fun k => p k && k != i || k == j) ∧ p j = false ∧ valB l (fun k => p k && k != i || k == j) = valB l p - prc l i + prc l j := by
  obtain ⟨h1, h2, h3, h4, h5⟩ := (useless_iff l i j).1 hu
  have hpj : p j = false := by
    cases h : p j
    · rfl
    · exact absurd h2 (cj_bidder (hf.2 i j hi hj h1 hp h))
  have hc : ∀ x, x < l.length → x ≠ i → p x = true → cj l x j = false := by
    intro x hx hxi hpx
    have h6 := hf.2 x i hx hi hxi hpx hp
    unfold cj conf at h6 ⊢
    simp only [Bool.or_eq_false_iff, beq_eq_false_iff_ne, List.any_eq_false] at h6 ⊢
    refine ⟨by rw [← h2]; exact h6.1, fun y hy => h6.2 y (h5 y hy)⟩
  refine ⟨⟨fun _ _ _ => rfl, fun a b ha hb hab ha' hb' => ?_⟩, hpj, ?_⟩
  · simp only [Bool.or_eq_true, Bool.and_eq_true, bne_iff_ne, beq_iff_eq] at ha' hb'
    rcases ha' with ⟨a1, a2⟩ | rfl
    · rcases hb' with ⟨b1, b2⟩ | rfl
      · exact hf.2 a b ha hb hab a1 b1
      · exact hc a ha a2 a1
    · rcases hb' with ⟨b1, b2⟩ | rfl
      · rw [cj_comm]; exact hc b hb b2 b1
      · exact absurd rfl hab
  · rw [valB_or (l := l) (fun k => p k && k != i) (fun k => k == j) (fun k _ a b => by
      have a' : (p k && k != i) = true := a
      have b' : (k == j) = true := b
      simp only [Bool.and_eq_true, beq_iff_eq] at a' b'
      rw [b', hpj] at a'
      cases a'.1), valB_one j hj, valB_without p i hi hp]
    omega
theorem reduce_range (l : List S38) : ∀ x ∈ reduceP l, 0 ≤ x ∧ x < l.length := by
  intro x hx
  obtain ⟨k, hk, _, rfl⟩ := (mem_sel0 _ _ _).1 hx
  omega
end Go.Proofs.Ytdbpdkmnnlippaa.H

/- What Reduce computes. Plain. -/
namespace Go.Proofs.Ytdbpdkmnnlippaa.H
open Go.RowKit Go.Proofs.YtdbpdkmnnlippaaW.PrintWords Go.Proofs.YtdbpdkmnnlippaaW.PrintLast
set_option linter.unusedVariables false
set_option linter.unusedSimpArgs false
theorem reduce_l1 (l : List S38) (hl : l.length ≤ 1000) (acc : List Int) (hacc : acc.length ≤ 1000) (i : Nat) (hi : i < l.length) (r : List Int) :
    ∀ (d j : Nat) (b : Bool), j + d = l.length → (if (b || (List.range' j d).any fun m => uselessP l (i : Int) (m : Int)) = true then Ev (fun k => bids_Reduce.l0 k l acc (l.length : Int) ((i + 1 : Nat) : Int)) r else Ev (fun k => bids_Reduce.l0 k l (acc ++ [(i : Int)]) (l.length : Int) ((i + 1 : Nat) : Int)) r) →
      Ev (fun k => bids_Reduce.l1 k l acc (i : Int) b (l.length : Int) (i : Int) (l.length : Int) (j : Int)) r := by
  have hwi : wrap64 ((i : Int) + 1) = ((i + 1 : Nat) : Int) := by rw [w64 _ (by omega) (by omega)]; omega
  intro d
  induction d with
  | zero =>
    intro j b hj h
    have hj1 : ¬ (j : Int) < (l.length : Int) := by omega
    have ha : acc.length < 17592186044416 := by omega
    simp only [List.range'_zero, List.any_nil, Bool.or_false] at h
    refine Ev.succ ?_
    simp only [bids_Reduce.l1, if_neg hj1, hwi, if_pos ha]
    cases b
    · simp only [Bool.false_eq_true, if_false] at h ⊢; exact h
    · simp only [if_true] at h ⊢; exact h
  | succ d ih =>
    intro j b hj h
    have hj1 : (j : Int) < (l.length : Int) := by omega
    have hwj : wrap64 ((j : Int) + 1) = ((j + 1 : Nat) : Int) := by rw [w64 _ (by omega) (by omega)]; omega
    have hin : 0 ≤ (i : Int) ∧ (i : Int) < l.length ∧ 0 ≤ (j : Int) ∧ (j : Int) < l.length := by omega
    rw [List.range'_succ, List.any_cons] at h
    refine Ev.succ ?_
    simp only [bids_Reduce.l1, if_pos hj1, hwj, bids_useless.f, if_pos hin, Option.bind_some]
    cases b
    · simp only [Bool.false_eq_true, if_false]
      rw [Bool.false_or] at h
      exact ih (j + 1) _ (by omega) h
    · simp only [if_true]
      rw [Bool.true_or] at h
      exact ih (j + 1) true (by omega) (by rw [Bool.true_or]; exact h)
theorem reduce_ok (l : List S38) (hl : l.length ≤ 1000) : Ev (fun k => bids_Reduce.f k l) (reduceP l) := by
  have h : ∀ (d i : Nat) (acc : List Int), i + d = l.length → acc.length ≤ i → Ev (fun k => bids_Reduce.l0 k l acc (l.length : Int) (i : Int)) (acc ++ sel (fun i => !(List.range l.length).any fun j => uselessP l (i : Int) (j : Int)) d i) := by
    intro d
    induction d with
    | zero =>
      intro i acc hi ha
      have hi1 : ¬ (i : Int) < (l.length : Int) := by omega
      refine Ev.succ ?_
      simp only [bids_Reduce.l0, if_neg hi1, sel, List.append_nil]
      exact Ev.some_
    | succ d ih =>
      intro i acc hi ha
      have hi1 : (i : Int) < (l.length : Int) := by omega
      refine Ev.succ ?_
      simp only [bids_Reduce.l0, if_pos hi1]
      refine reduce_l1 l hl acc (by omega) i (by omega) _ l.length 0 false (by omega) ?_
      rw [Bool.false_or, ← List.range_eq_range']
      unfold sel
      cases hu : (List.range l.length).any fun m => uselessP l (i : Int) (m : Int)
      · rw [if_neg (by simp), if_pos (by simp)]
        have := ih (i + 1) (acc ++ [(i : Int)]) (by omega) (by simp; omega)
        rwa [List.append_assoc] at this
      · rw [if_pos rfl, if_neg (by simp)]
        exact ih (i + 1) acc (by omega) (by omega)
  have := h l.length 0 [] (by omega) (by simp)
  unfold bids_Reduce.f
  exact this
end Go.Proofs.Ytdbpdkmnnlippaa.H

/- What the reference of bids computes: by the same plain words. -/
namespace Go.Proofs.Ytdbpdkmnnlippaa.H
open Go.RowKit Go.Proofs.YtdbpdkmnnlippaaW.PrintWords Go.Proofs.YtdbpdkmnnlippaaW.PrintLast
set_option linter.unusedVariables false
set_option linter.unusedSimpArgs false
/-- A bid of the reference as a bid of the program. -/
def cv (b : S40) : S38 := ⟨b.f0, b.f1, b.f2⟩
theorem drop_cons {α : Type} (l : List α) (p : Nat) (x : α) (d : List α) (h : l.drop p = x :: d) : l[p]? = some x ∧ l.drop (p + 1) = d ∧ p < l.length := by
  have h1 : l[p]? = some x := by
    have := congrArg (fun t => t[0]?) h
    simpa using this
  refine ⟨h1, ?_, ?_⟩
  · have := congrArg List.tail h
    simpa using this
  · have := congrArg List.length h
    simp at this
    omega
theorem drop_nil {α : Type} (l : List α) (p : Nat) (hp : p ≤ l.length) (h : l.drop p = []) : p = l.length := by
  have := congrArg List.length h
  simp at this
  omega
theorem rdR_at (l : List S40) (i : Nat) (x : S40) (h : l[i]? = some x) : rd_T40 l (i : Int) = x := by
  simp [rd_T40, List.getD, h]
/-! ### given -/
theorem given_ok (l : List S40) (hl : l.length < 3518437208883) : Ev (fun k => worldmintlaw27_given.f k l) (l.map cv) := by
  have : ∀ (d : List S40) (p : Nat), l.drop p = d → p ≤ l.length → Ev (fun k => worldmintlaw27_given.l0 k l ((l.take p).map cv) (p : Int)) (l.map cv) := by
    intro d
    induction d with
    | nil =>
      intro p hd hp
      have := drop_nil l p hp hd
      subst this
      refine Ev.succ ?_
      simp only [worldmintlaw27_given.l0, if_neg (show ¬ (l.length : Int) < (l.length : Int) by omega), List.take_length]
      exact Ev.some_
    | cons x d ih =>
      intro p hd hp
      obtain ⟨hx, hd', hlt⟩ := drop_cons l p x d hd
      have hw : wrap64 ((p : Int) + 1) = ((p + 1 : Nat) : Int) := by rw [w64 _ (by omega) (by omega)]; omega
      have h1 := ih (p + 1) hd' (by omega)
      refine Ev.succ ?_
      simp only [worldmintlaw27_given.l0, if_pos (show (p : Int) < (l.length : Int) by omega), if_pos (show (0 : Int) ≤ (p : Int) by omega), rdR_at l p x hx, hw, List.length_map, List.length_take]
      simp only [if_pos (show min p l.length < 3518437208883 by omega)]
      have e : (l.take p).map cv ++ [⟨x.f0, x.f1, x.f2⟩] = (l.take (p + 1)).map cv := by
        have hg : l[p] = x := by
          have := List.getElem?_eq_getElem hlt
          rw [hx] at this
          injection this with this
          exact this.symm
        rw [List.take_succ_eq_append_getElem hlt, List.map_append, hg]
        rfl
      rw [e]
      exact h1
  exact this l 0 rfl (Nat.zero_le _)
/-! ### Conflict, Feasible, Value, Less, Choice -/
theorem has_ok (xs : List Int) (x : Int) (hl : xs.length ≤ 9223372036854775807) : Ev (fun k => worldmintref01_Has.f k xs x) (xs.contains x) := by
  have : ∀ (d : List Int) (p : Nat), xs.drop p = d → p ≤ xs.length → Ev (fun k => worldmintref01_Has.l0 k xs x (p : Int)) (d.contains x) := by
    intro d
    induction d with
    | nil =>
      intro p hd hp
      have := drop_nil xs p hp hd
      refine Ev.succ ?_
      simp only [worldmintref01_Has.l0, if_neg (show ¬ (p : Int) < (xs.length : Int) by omega)]
      exact Ev.some_
    | cons y d ih =>
      intro p hd hp
      obtain ⟨hx, hd', hlt⟩ := drop_cons xs p y d hd
      have hw : wrap64 ((p : Int) + 1) = ((p + 1 : Nat) : Int) := by rw [w64 _ (by omega) (by omega)]; omega
      have h1 := ih (p + 1) hd' (by omega)
      refine Ev.succ ?_
      simp only [worldmintref01_Has.l0, if_pos (show (p : Int) < (xs.length : Int) by omega), if_pos (show (0 : Int) ≤ (p : Int) by omega), rd_at xs p y hx, hw]
      by_cases c : y = x
      · subst c
        simp only [if_true]
        simpa using Ev.some_
      · simp only [if_neg c]
        have e : (y :: d).contains x = d.contains x := by rw [List.contains_cons, beq_false_of_ne (fun e : x = y => c e.symm), Bool.false_or]
        rw [e]
        exact h1
  exact this xs 0 rfl (Nat.zero_le _)
theorem choice_ok (n : Nat) (hn : n ≤ 100) : ∀ (d : Nat) (i : Nat) (bits : Nat) (acc : List Int), n - i = d → i ≤ n → acc.length ≤ i → bits ≤ 9223372036854775807 →
    Ev (fun k => worldmintref27_Choice.l0 k (bits : Int) (n : Int) acc (i : Int)) (acc ++ choiceP d bits i)
  | 0, i, bits, acc, hd, hi, hacc, hb => by
    refine Ev.succ ?_
    simp only [worldmintref27_Choice.l0, if_neg (show ¬ (i : Int) < (n : Int) by omega), choiceP, List.append_nil]
    exact Ev.some_
  | d + 1, i, bits, acc, hd, hi, hacc, hb => by
    have hw : wrap64 ((i : Int) + 1) = ((i + 1 : Nat) : Int) := by rw [w64 _ (by omega) (by omega)]; omega
    have ht : Int.tmod (bits : Int) 2 = ((bits % 2 : Nat) : Int) := by rw [Int.tmod_eq_emod_of_nonneg (by omega)]; omega
    have hv : wrap64 (Int.tdiv (bits : Int) 2) = ((bits / 2 : Nat) : Int) := by
      rw [Int.tdiv_eq_ediv_of_nonneg (by omega), w64 _ (by omega) (by omega)]; omega
    refine Ev.succ ?_
    simp only [worldmintref27_Choice.l0, if_pos (show (i : Int) < (n : Int) by omega), ht, hv, hw, choiceP]
    by_cases c : bits % 2 = 1
    · simp only [if_pos (show ((bits % 2 : Nat) : Int) = 1 by omega), if_pos (show acc.length < 17592186044416 by omega), if_pos c]
      have := choice_ok n hn d (i + 1) (bits / 2) (acc ++ [(i : Int)]) (by omega) (by omega) (by simp; omega) (by omega)
      simpa using this
    · simp only [if_neg (show ¬ ((bits % 2 : Nat) : Int) = 1 by omega), if_neg c]
      exact choice_ok n hn d (i + 1) (bits / 2) acc (by omega) (by omega) (by omega) (by omega)
end Go.Proofs.Ytdbpdkmnnlippaa.H

/- The reference's feasible choices. -/
namespace Go.Proofs.Ytdbpdkmnnlippaa.H
open Go.RowKit Go.Proofs.YtdbpdkmnnlippaaW.PrintWords Go.Proofs.YtdbpdkmnnlippaaW.PrintLast
set_option linter.unusedVariables false
set_option linter.unusedSimpArgs false
theorem choice_rising : ∀ (n bits i : Nat), (choiceP n bits i).Pairwise (· < ·)
  | 0, _, _ => by simp [choiceP]
  | n + 1, bits, i => by
    unfold choiceP
    split
    · refine List.pairwise_cons.2 ⟨fun k hk => ?_, choice_rising n (bits / 2) (i + 1)⟩
      have := choice_ge n (bits / 2) (i + 1) k hk
      omega
    · exact choice_rising n (bits / 2) (i + 1)
theorem choice_len : ∀ (n bits i : Nat), (choiceP n bits i).length ≤ n
  | 0, _, _ => by simp [choiceP]
  | n + 1, bits, i => by
    have := choice_len n (bits / 2) (i + 1)
    unfold choiceP
    split
    · simp; omega
    · omega
theorem feas_ok (l : List S38) : ∀ (s pre : List Int), (∀ k ∈ s, 0 ≤ k ∧ k < l.length) → s.Pairwise (· < ·) → (∀ p, pre.getLast? = some p → ∀ k ∈ s, p < k) → feasP l pre s = okS (fun _ => true) l pre s
  | [], _, _, _, _ => rfl
  | w :: s, pre, h0, hs, hp => by
    obtain ⟨h1, h2⟩ := List.pairwise_cons.1 hs
    obtain ⟨hw0, hw1⟩ := h0 w (by simp)
    have ih := feas_ok l s (pre ++ [w]) (fun k hk => h0 k (by simp [hk])) h2 (fun p e k hk => by
      rw [List.getLast?_append] at e
      simp at e
      subst e
      exact h1 k hk)
    have key : feasP l pre (w :: s) = (if (pre.any fun v => cf l v w) = true then false else feasP l (pre ++ [w]) s) := by
      simp only [feasP]
      cases hl : pre.getLast? with
      | none => rw [if_neg (by simp; omega)]; rfl
      | some p =>
        have := hp p hl w (by simp)
        rw [if_neg (by simp; omega)]
        rfl
    rw [key, ih]
    simp only [okS, Bool.true_and]
    cases pre.any fun v => cf l v w <;> simp
end Go.Proofs.Ytdbpdkmnnlippaa.H

/- Value. Plain. -/
namespace Go.Proofs.Ytdbpdkmnnlippaa.H
open Go.RowKit Go.Proofs.YtdbpdkmnnlippaaW.PrintWords Go.Proofs.YtdbpdkmnnlippaaW.PrintLast
set_option linter.unusedVariables false
set_option linter.unusedSimpArgs false
theorem value_ok (l : List S38) (c : List Int) (hc : ∀ k ∈ c, 0 ≤ k ∧ k < l.length) (hl : c.length ≤ 1000) (hp : ∀ b ∈ l, 0 ≤ b.f1 ∧ b.f1 ≤ 1099511627776) : Ev (fun k => bids_Value.f k l c) (valP l c) := by
  have : ∀ (d : List Int) (p : Nat) (s : Int), c.drop p = d → p ≤ c.length → 0 ≤ s → s ≤ p * 1099511627776 → Ev (fun k => bids_Value.l0 k l s c (c.length : Int) (p : Int)) (s + valP l d) := by
    intro d
    induction d with
    | nil =>
      intro p s hd hpl hs0 hs1
      have := drop_nil c p hpl hd
      refine Ev.succ ?_
      simp only [bids_Value.l0, if_neg (show ¬ (p : Int) < (c.length : Int) by omega), valP, List.map_nil, List.sum_nil, Int.add_zero]
      exact Ev.some_
    | cons y d ih =>
      intro p s hd hpl hs0 hs1
      obtain ⟨hx, hd', hlt⟩ := drop_cons c p y d hd
      obtain ⟨hy0, hy1⟩ := hc y (List.mem_of_getElem? hx)
      have hw : wrap64 ((p : Int) + 1) = ((p + 1 : Nat) : Int) := by rw [w64 _ (by omega) (by omega)]; omega
      have hyl : y.toNat < l.length := by omega
      have hm : l.getD y.toNat z38 ∈ l := by simp [List.getD, hyl]
      have hb := hp _ hm
      have hrd : rd_T38 l y = l.getD y.toNat z38 := rfl
      have hw2 : wrap64 (s + (l.getD y.toNat z38).f1) = s + (l.getD y.toNat z38).f1 := w64 _ (by omega) (by omega)
      have h1 := ih (p + 1) (s + (l.getD y.toNat z38).f1) hd' (by omega) (by omega) (by omega)
      refine Ev.succ ?_
      simp only [bids_Value.l0, if_pos (show (p : Int) < (c.length : Int) by omega), if_pos (show (0 : Int) ≤ (p : Int) by omega), rd_at c p y hx, hw, if_pos (show y ≥ 0 by omega), if_pos (show y < (l.length : Int) by omega), if_pos (show (0 : Int) ≤ y by omega), hrd, hw2]
      have e : s + valP l (y :: d) = s + (l.getD y.toNat z38).f1 + valP l d := by
        simp only [valP, List.map_cons, List.sum_cons]
        omega
      rw [e]
      exact h1
  have h := this c 0 0 rfl (Nat.zero_le _) (by omega) (by omega)
  simpa [bids_Value.f] using h
end Go.Proofs.Ytdbpdkmnnlippaa.H

/- A part replaced; two lists compared. Plain. -/
namespace Go.Proofs.Ytdbpdkmnnlippaa.H
open Go.RowKit Go.Proofs.YtdbpdkmnnlippaaW.PrintWords Go.Proofs.YtdbpdkmnnlippaaW.PrintLast
set_option linter.unusedVariables false
set_option linter.unusedSimpArgs false
end Go.Proofs.Ytdbpdkmnnlippaa.H

/- The example of chapter 27. Plain. -/
namespace Go.Proofs.Ytdbpdkmnnlippaa.H
open Go.RowKit Go.Proofs.YtdbpdkmnnlippaaW.PrintWords Go.Proofs.YtdbpdkmnnlippaaW.PrintLast
set_option linter.unusedVariables false
set_option linter.unusedSimpArgs false
/-- Sorting by insertion: the kernel can compute it. -/
def insI (x : Int) : List Int → List Int
  | [] => [x]
  | y :: s => if x ≤ y then x :: y :: s else y :: insI x s
def sortI : List Int → List Int
  | [] => []
  | x :: s => insI x (sortI s)
theorem insI_perm (x : Int) : ∀ s, (insI x s).Perm (x :: s)
  | [] => List.Perm.refl _
  | y :: s => by
    unfold insI
    split
    · exact List.Perm.refl _
    · exact ((insI_perm x s).cons y).trans (List.Perm.swap x y s)
theorem sortI_perm : ∀ s, (sortI s).Perm s
  | [] => List.Perm.refl _
  | x :: s => (insI_perm x _).trans ((sortI_perm s).cons x)
theorem insI_sorted (x : Int) : ∀ s, s.Pairwise (· ≤ ·) → (insI x s).Pairwise (· ≤ ·)
  | [], _ => by simp [insI]
  | y :: s, h => by
    obtain ⟨h1, h2⟩ := List.pairwise_cons.1 h
    unfold insI
    split
    · rename_i hxy
      refine List.pairwise_cons.2 ⟨fun z hz => ?_, h⟩
      rcases List.mem_cons.1 hz with rfl | hz
      · exact hxy
      · have := h1 z hz; omega
    · rename_i hxy
      refine List.pairwise_cons.2 ⟨fun z hz => ?_, insI_sorted x s h2⟩
      rcases List.mem_cons.1 ((insI_perm x s).mem_iff.1 hz) with rfl | hz
      · omega
      · exact h1 z hz
theorem sortI_sorted : ∀ s, (sortI s).Pairwise (· ≤ ·)
  | [] => List.Pairwise.nil
  | x :: s => insI_sorted x _ (sortI_sorted s)
theorem sortI_eq (xs : List Int) : (xs.mergeSort fun x y => decide (x ≤ y)) = sortI xs := by
  have hs : (xs.mergeSort fun x y => decide (x ≤ y)).Pairwise (fun a b => decide (a ≤ b) = true) :=
    List.pairwise_mergeSort (fun a b c h1 h2 => by simp only [decide_eq_true_eq] at *; omega) (fun a b => by simp only [Bool.or_eq_true, decide_eq_true_eq]; omega) xs
  refine List.Perm.eq_of_pairwise (le := fun a b : Int => a ≤ b) (fun a b _ _ h1 h2 => by omega) (hs.imp (fun h => by simpa using h)) (sortI_sorted xs) ((List.mergeSort_perm xs _).trans (sortI_perm xs).symm)
def partsStepI (l : List S38) (st : List Bool × List (List Int)) (i : Nat) : List Bool × List (List Int) :=
  if st.1.getD i true then st else ((visitP l l.length i (st.1, [])).1, st.2 ++ [sortI (visitP l l.length i (st.1, [])).2])
theorem partsI (l : List S38) : partsP l = ((List.range l.length).foldl (partsStepI l) (List.replicate l.length false, [])).2 := by
  have : partsStep l = partsStepI l := by
    funext st i
    unfold partsStep partsStepI
    rw [sortI_eq]
  unfold partsP
  rw [this]
def bids_Parts.fI (l0 : List S38) : Option (List (List Int)) := if l0.length ≤ 1000000 then some ((List.range l0.length).foldl (partsStepI l0) (List.replicate l0.length false, [])).2 else none
theorem parts_fI : bids_Parts.f = bids_Parts.fI := by
  funext l
  unfold bids_Parts.f bids_Parts.fI
  rw [partsI]
def livesL : List S38 := [⟨1, 5, [0, 1]⟩, ⟨1, 5, [0]⟩, ⟨2, 3, [1]⟩, ⟨3, 2, [2]⟩]
theorem lives_parts : bids_Parts.f livesL = some [[0, 1, 2], [3]] := by rw [parts_fI]; kernel_rfl
set_option maxRecDepth 100000 in
theorem lives_ok7 : Ev (fun k => worldmintlaw27_lives.f k) true := by
  refine Ev.of_mono (fun k => worldmintlaw27_lives.mono k) ⟨30, ?_⟩
  have h := lives_parts
  unfold livesL at h
  unfold worldmintlaw27_lives.f
  rw [Option.bind_some, h]
  clear h
  show _ = some true
  kernel_rfl
end Go.Proofs.Ytdbpdkmnnlippaa.H

/- BidsUseless: the plain statement. -/
namespace Go.Proofs.Ytdbpdkmnnlippaa.H
open Go.RowKit Go.Proofs.YtdbpdkmnnlippaaW.PrintWords Go.Proofs.YtdbpdkmnnlippaaW.PrintLast
set_option linter.unusedVariables false
set_option linter.unusedSimpArgs false
/-! ### The law's own helpers -/
theorem law_less_ok (a b : List Int) (ha : a.length ≤ 1000) (hb : b.length ≤ 1000) : Ev (fun k => worldmintlaw27_less.f k a b) (lessP a b) := by
  have : ∀ (d e : List Int) (p : Nat), a.drop p = d → b.drop p = e → p ≤ a.length → p ≤ b.length → Ev (fun k => worldmintlaw27_less.l0 k a b (p : Int)) (lessP d e) := by
    intro d
    induction d with
    | nil =>
      intro e p hd he hp1 hp2
      have := drop_nil a p hp1 hd
      refine Ev.succ ?_
      simp only [worldmintlaw27_less.l0, if_neg (show ¬ (p : Int) < (a.length : Int) by omega)]
      refine Ev.succ ?_
      simp only [worldmintlaw27_less.j1, Bool.false_eq_true, if_false]
      cases e with
      | nil =>
        have h2 := drop_nil b p hp2 he
        simp only [decide_eq_false (show ¬ (a.length : Int) < (b.length : Int) by omega), lessP]
        exact Ev.some_
      | cons z e =>
        obtain ⟨_, _, hlt⟩ := drop_cons b p z e he
        simp only [decide_eq_true (show (a.length : Int) < (b.length : Int) by omega), lessP]
        exact Ev.some_
    | cons y d ih =>
      intro e p hd he hp1 hp2
      obtain ⟨hx, hd', hlt⟩ := drop_cons a p y d hd
      refine Ev.succ ?_
      simp only [worldmintlaw27_less.l0, if_pos (show (p : Int) < (a.length : Int) by omega)]
      refine Ev.succ ?_
      cases e with
      | nil =>
        have h2 := drop_nil b p hp2 he
        simp only [decide_eq_false (show ¬ (p : Int) < (b.length : Int) by omega), worldmintlaw27_less.j1, Bool.false_eq_true, if_false, decide_eq_false (show ¬ (a.length : Int) < (b.length : Int) by omega), lessP]
        exact Ev.some_
      | cons z e =>
        obtain ⟨hx2, he', hlt2⟩ := drop_cons b p z e he
        have hw : wrap64 ((p : Int) + 1) = ((p + 1 : Nat) : Int) := by rw [w64 _ (by omega) (by omega)]; omega
        simp only [decide_eq_true (show (p : Int) < (b.length : Int) by omega), worldmintlaw27_less.j1, if_true, if_pos (show (0 : Int) ≤ (p : Int) by omega), if_pos (show (p : Int) < (a.length : Int) by omega), if_pos (show (p : Int) < (b.length : Int) by omega), rd_at a p y hx, rd_at b p z hx2, hw, lessP]
        by_cases c : y = z
        · subst c
          simp only [if_true]
          exact ih e (p + 1) hd' he' (by omega) (by omega)
        · simp only [if_neg c]
          exact Ev.some_
  exact this a b 0 rfl rfl (Nat.zero_le _) (Nat.zero_le _)
theorem indices_ok (xs : List Int) (n : Int) (hl : xs.length ≤ 1000) (h : ∀ x ∈ xs, 0 ≤ x ∧ x < n) : Ev (fun k => worldmintlaw27_indices.f k xs n) true := by
  have : ∀ (d : List Int) (p : Nat), xs.drop p = d → p ≤ xs.length → Ev (fun k => worldmintlaw27_indices.l0 k xs n (p : Int)) true := by
    intro d
    induction d with
    | nil =>
      intro p hd hp
      have := drop_nil xs p hp hd
      refine Ev.succ ?_
      simp only [worldmintlaw27_indices.l0, if_neg (show ¬ (p : Int) < (xs.length : Int) by omega)]
      exact Ev.some_
    | cons y d ih =>
      intro p hd hp
      obtain ⟨hx, hd', hlt⟩ := drop_cons xs p y d hd
      have hw : wrap64 ((p : Int) + 1) = ((p + 1 : Nat) : Int) := by rw [w64 _ (by omega) (by omega)]; omega
      have h1 := ih (p + 1) hd' (by omega)
      have hy := h y (List.mem_of_getElem? hx)
      refine Ev.succ ?_
      simp only [worldmintlaw27_indices.l0, if_pos (show (p : Int) < (xs.length : Int) by omega), if_pos (show (0 : Int) ≤ (p : Int) by omega), rd_at xs p y hx, hw, if_neg (show ¬ y < 0 by omega), if_neg (show ¬ y ≥ n by omega)]
      exact h1
  exact this xs 0 rfl (Nat.zero_le _)
/-- A rising list with x in place of v. -/
def exV (v x : Int) : List Int → List Int
  | [] => [x]
  | y :: s => if x < y then x :: (y :: s).filter (fun z => z != v) else (if y = v then [] else [y]) ++ exV v x s
theorem pos_ne (w : List Int) (hr : w.Pairwise (· < ·)) (p i : Nat) (y v : Int) (hp : w[p]? = some y) (hi : w[i]? = some v) (h : p ≠ i) : y ≠ v := by
  obtain ⟨hp1, hp2⟩ := List.getElem?_eq_some_iff.1 hp
  obtain ⟨hi1, hi2⟩ := List.getElem?_eq_some_iff.1 hi
  rcases Nat.lt_or_ge p i with hlt | hge
  · have := List.pairwise_iff_getElem.1 hr p i hp1 hi1 hlt
    omega
  · have := List.pairwise_iff_getElem.1 hr i p hi1 hp1 (by omega)
    omega
theorem ex_put (w : List Int) (i : Nat) (v x : Int) (hi : w[i]? = some v) (hr : w.Pairwise (· < ·)) (hl : w.length ≤ 1000) :
    ∀ (d : List Int) (p : Nat) (acc : List Int), w.drop p = d → p ≤ w.length → acc.length ≤ p + 1 → Ev (fun k => worldmintlaw27_exchanged.l0 k w (i : Int) x acc true (p : Int)) (acc ++ d.filter (fun z => z != v)) := by
  intro d
  induction d with
  | nil =>
    intro p acc hd hp ha
    have := drop_nil w p hp hd
    refine Ev.succ ?_
    simp only [worldmintlaw27_exchanged.l0, if_neg (show ¬ (p : Int) < (w.length : Int) by omega), if_true, List.filter_nil, List.append_nil]
    exact Ev.some_
  | cons y d ih =>
    intro p acc hd hp ha
    obtain ⟨hx, hd', hlt⟩ := drop_cons w p y d hd
    have hw : wrap64 ((p : Int) + 1) = ((p + 1 : Nat) : Int) := by rw [w64 _ (by omega) (by omega)]; omega
    have c0 : (p : Int) < (w.length : Int) := by omega
    have c1 : (0 : Int) ≤ (p : Int) := by omega
    have c2 : acc.length < 17592186044416 := by omega
    refine Ev.succ ?_
    simp only [worldmintlaw27_exchanged.l0, if_pos c0, if_true]
    refine Ev.succ ?_
    simp only [worldmintlaw27_exchanged.j1, Bool.false_eq_true, if_false, hw, if_pos c0, if_pos c1, if_pos c2, rd_at w p y hx]
    by_cases c : p = i
    · subst c
      have : y = v := by rw [hx] at hi; exact Option.some.inj hi
      subst this
      have e : (y :: d).filter (fun z => z != y) = d.filter (fun z => z != y) := by rw [List.filter_cons_of_neg (by simp)]
      rw [e]
      simp only [if_true]
      exact ih (p + 1) acc hd' (by omega) (by omega)
    · have hne := pos_ne w hr p i y v hx hi c
      have e : (y :: d).filter (fun z => z != v) = y :: d.filter (fun z => z != v) := by rw [List.filter_cons_of_pos (by simp [hne])]
      have c' : ¬ (p : Int) = (i : Int) := by omega
      rw [e, show acc ++ y :: d.filter (fun z => z != v) = (acc ++ [y]) ++ d.filter (fun z => z != v) by simp]
      simp only [if_neg c']
      exact ih (p + 1) (acc ++ [y]) hd' (by omega) (by rw [List.length_append, List.length_singleton]; omega)
theorem ex_ok (w : List Int) (i : Nat) (v x : Int) (hi : w[i]? = some v) (hr : w.Pairwise (· < ·)) (hl : w.length ≤ 1000) : Ev (fun k => worldmintlaw27_exchanged.f k w (i : Int) x) (exV v x w) := by
  have : ∀ (d : List Int) (p : Nat) (acc : List Int), w.drop p = d → p ≤ w.length → acc.length ≤ p → Ev (fun k => worldmintlaw27_exchanged.l0 k w (i : Int) x acc false (p : Int)) (acc ++ exV v x d) := by
    intro d
    induction d with
    | nil =>
      intro p acc hd hp ha
      have := drop_nil w p hp hd
      have c2 : acc.length < 17592186044416 := by omega
      refine Ev.succ ?_
      simp only [worldmintlaw27_exchanged.l0, if_neg (show ¬ (p : Int) < (w.length : Int) by omega), Bool.false_eq_true, if_false, if_pos c2, exV]
      exact Ev.some_
    | cons y d ih =>
      intro p acc hd hp ha
      obtain ⟨hx, hd', hlt⟩ := drop_cons w p y d hd
      have hw : wrap64 ((p : Int) + 1) = ((p + 1 : Nat) : Int) := by rw [w64 _ (by omega) (by omega)]; omega
      have c0 : (p : Int) < (w.length : Int) := by omega
      have c1 : (0 : Int) ≤ (p : Int) := by omega
      have c2 : acc.length < 17592186044416 := by omega
      have c3 : (acc ++ [x]).length < 17592186044416 := by rw [List.length_append, List.length_singleton]; omega
      refine Ev.succ ?_
      simp only [worldmintlaw27_exchanged.l0, if_pos c0, if_pos c1, Bool.false_eq_true, if_false, rd_at w p y hx]
      refine Ev.succ ?_
      simp only [worldmintlaw27_exchanged.j1, hw, if_pos c0, if_pos c1, if_pos c2, rd_at w p y hx]
      by_cases g : x < y
      · have hfin : ∀ r, Ev r (acc ++ x :: (y :: d).filter (fun z => z != v)) → Ev r (acc ++ exV v x (y :: d)) := fun r h => by
          simpa only [exV, if_pos g] using h
        refine hfin _ ?_
        simp only [decide_eq_true (show y > x from g), if_true, Option.bind_some, if_pos c3]
        by_cases c : p = i
        · subst c
          have : y = v := by rw [hx] at hi; exact Option.some.inj hi
          subst this
          have e : (y :: d).filter (fun z => z != y) = d.filter (fun z => z != y) := by rw [List.filter_cons_of_neg (by simp)]
          rw [e, show acc ++ x :: d.filter (fun z => z != y) = (acc ++ [x]) ++ d.filter (fun z => z != y) by simp]
          simp only [if_true]
          exact ex_put w p y x hi hr hl d (p + 1) (acc ++ [x]) hd' (by omega) (by rw [List.length_append, List.length_singleton]; omega)
        · have hne := pos_ne w hr p i y v hx hi c
          have e : (y :: d).filter (fun z => z != v) = y :: d.filter (fun z => z != v) := by rw [List.filter_cons_of_pos (by simp [hne])]
          have c' : ¬ (p : Int) = (i : Int) := by omega
          rw [e, show acc ++ x :: y :: d.filter (fun z => z != v) = (acc ++ [x] ++ [y]) ++ d.filter (fun z => z != v) by simp]
          simp only [if_neg c']
          exact ex_put w i v x hi hr hl d (p + 1) (acc ++ [x] ++ [y]) hd' (by omega) (by simp only [List.length_append, List.length_singleton]; omega)
      · simp only [decide_eq_false (show ¬ y > x from g), Bool.false_eq_true, if_false]
        by_cases c : p = i
        · subst c
          have : y = v := by rw [hx] at hi; exact Option.some.inj hi
          subst this
          have e : exV y x (y :: d) = exV y x d := by simp only [exV, if_neg g, if_true, List.nil_append]
          rw [e]
          simp only [if_true]
          exact ih (p + 1) acc hd' (by omega) (by omega)
        · have hne := pos_ne w hr p i y v hx hi c
          have c' : ¬ (p : Int) = (i : Int) := by omega
          have e : exV v x (y :: d) = y :: exV v x d := by simp only [exV, if_neg g, if_neg hne, List.cons_append, List.nil_append]
          rw [e, show acc ++ y :: exV v x d = (acc ++ [y]) ++ exV v x d by simp]
          simp only [if_neg c']
          exact ih (p + 1) (acc ++ [y]) hd' (by omega) (by rw [List.length_append, List.length_singleton]; omega)
  have h := this w 0 [] rfl (Nat.zero_le _) (Nat.zero_le _)
  simpa [worldmintlaw27_exchanged.f] using h
/-! ### What the exchange makes -/
theorem mem_exV (v x z : Int) : ∀ s, z ∈ exV v x s ↔ z = x ∨ (z ∈ s ∧ z ≠ v) := by
  intro s
  induction s with
  | nil => simp [exV]
  | cons y s ih =>
    by_cases g : x < y
    · simp only [exV, if_pos g, List.mem_cons, List.mem_filter, bne_iff_ne]
    · by_cases c : y = v
      · subst c
        simp only [exV, if_neg g, if_true, List.nil_append, ih, List.mem_cons]
        constructor
        · rintro (h | ⟨h1, h2⟩)
          · exact .inl h
          · exact .inr ⟨.inr h1, h2⟩
        · rintro (h | ⟨h1 | h1, h2⟩)
          · exact .inl h
          · exact absurd h1 h2
          · exact .inr ⟨h1, h2⟩
      · simp only [exV, if_neg g, if_neg c, List.cons_append, List.nil_append, List.mem_cons, ih]
        constructor
        · rintro (h | h | ⟨h1, h2⟩)
          · exact .inr ⟨.inl h, h ▸ c⟩
          · exact .inl h
          · exact .inr ⟨.inr h1, h2⟩
        · rintro (h | ⟨h1 | h1, h2⟩)
          · exact .inr (.inl h)
          · exact .inl h1
          · exact .inr (.inr ⟨h1, h2⟩)
theorem len_exV (v x : Int) : ∀ s, (exV v x s).length ≤ s.length + 1 := by
  intro s
  induction s with
  | nil => simp [exV]
  | cons y s ih =>
    by_cases g : x < y
    · simp only [exV, if_pos g, List.length_cons]
      have := List.length_filter_le (fun z => z != v) (y :: s)
      simp only [List.length_cons] at this
      omega
    · by_cases c : y = v
      · simp only [exV, if_neg g, if_pos c, List.nil_append, List.length_cons]; omega
      · simp only [exV, if_neg g, if_neg c, List.cons_append, List.nil_append, List.length_cons]; omega
theorem rise_exV (v x : Int) : ∀ s, s.Pairwise (· < ·) → ¬ x ∈ s → (exV v x s).Pairwise (· < ·) := by
  intro s
  induction s with
  | nil => intro _ _; simp [exV]
  | cons y s ih =>
    intro hs hx
    have h1 := List.pairwise_cons.1 hs
    have hxy : x ≠ y := fun h => hx (by rw [h]; exact List.mem_cons_self ..)
    have hxs : ¬ x ∈ s := fun h => hx (List.mem_cons_of_mem _ h)
    by_cases g : x < y
    · simp only [exV, if_pos g]
      refine List.pairwise_cons.2 ⟨fun z hz => ?_, hs.filter _⟩
      rcases List.mem_cons.1 (List.mem_filter.1 hz).1 with rfl | h
      · exact g
      · exact Int.lt_trans g (h1.1 z h)
    · by_cases c : y = v
      · simp only [exV, if_neg g, if_pos c, List.nil_append]
        exact ih h1.2 hxs
      · simp only [exV, if_neg g, if_neg c, List.cons_append, List.nil_append]
        refine List.pairwise_cons.2 ⟨fun z hz => ?_, ih h1.2 hxs⟩
        rcases (mem_exV v x z s).1 hz with rfl | ⟨h, _⟩
        · omega
        · exact h1.1 z h
/-! ### A bid that Reduce keeps -/
theorem max_ex (P : Nat → Bool) (f : Nat → Int) : ∀ n, (∃ j, j < n ∧ P j = true) → ∃ j, j < n ∧ P j = true ∧ ∀ m, m < n → P m = true → f m < f j ∨ (f m = f j ∧ j ≤ m) := by
  intro n
  induction n with
  | zero => rintro ⟨j, hj, _⟩; omega
  | succ n ih =>
    rintro ⟨j, hj, hP⟩
    by_cases h : ∃ j, j < n ∧ P j = true
    · obtain ⟨q, h1, h2, h3⟩ := ih h
      by_cases hn : P n = true ∧ f q < f n
      · refine ⟨n, Nat.lt_succ_self n, hn.1, fun m hm hPm => ?_⟩
        rcases Nat.lt_succ_iff_lt_or_eq.1 hm with hlt | rfl
        · rcases h3 m hlt hPm with h4 | h4
          · have := hn.2; left; omega
          · have := hn.2; left; omega
        · right; exact ⟨rfl, Nat.le_refl _⟩
      · refine ⟨q, by omega, h2, fun m hm hPm => ?_⟩
        rcases Nat.lt_succ_iff_lt_or_eq.1 hm with hlt | rfl
        · exact h3 m hlt hPm
        · have : ¬ f q < f m := fun h => hn ⟨hPm, h⟩
          by_cases he : f m = f q
          · right; exact ⟨he, by omega⟩
          · left; omega
    · have hjn : j = n := by
        rcases Nat.lt_succ_iff_lt_or_eq.1 hj with hlt | rfl
        · exact absurd ⟨j, hlt, hP⟩ h
        · rfl
      subst hjn
      refine ⟨j, hj, hP, fun m hm hPm => ?_⟩
      rcases Nat.lt_succ_iff_lt_or_eq.1 hm with hlt | rfl
      · exact absurd ⟨m, hlt, hPm⟩ h
      · right; exact ⟨rfl, Nat.le_refl _⟩
theorem keeper (l : List S38) (i : Nat) (hi : i < l.length) (hn : ¬ (i : Int) ∈ reduceP l) : ∃ j, j < l.length ∧ (j : Int) ∈ reduceP l ∧ uselessP l (i : Int) (j : Int) = true := by
  have h0 : ∃ j, j < l.length ∧ uselessP l (i : Int) (j : Int) = true := by
    cases h : (List.range l.length).any fun j => uselessP l (i : Int) (j : Int)
    · exact absurd ((mem_sel0 _ _ _).2 ⟨i, hi, by rw [h]; rfl, rfl⟩) hn
    · obtain ⟨j, hj, hu⟩ := List.any_eq_true.1 h
      exact ⟨j, List.mem_range.1 hj, hu⟩
  obtain ⟨j, hj, hu, hmax⟩ := max_ex (fun j => uselessP l (i : Int) (j : Int)) (prc l) l.length h0
  refine ⟨j, hj, (mem_sel0 _ _ _).2 ⟨j, hj, ?_, rfl⟩, hu⟩
  rw [Bool.not_eq_true', List.any_eq_false]
  intro m hm hjm
  have hm := List.mem_range.1 hm
  obtain ⟨a1, a2, a3, a4, a5⟩ := (useless_iff l i j).1 hu
  obtain ⟨b1, b2, b3, b4, b5⟩ := (useless_iff l j m).1 hjm
  have him : uselessP l (i : Int) (m : Int) = true := by
    refine (useless_iff l i m).2 ⟨?_, by rw [a2, b2], by omega, fun he => ?_, fun x hx => a5 x (b5 x hx)⟩
    · rintro rfl
      have := a4 (by omega)
      have := b4 (by omega)
      omega
    · have := a4 (by omega)
      have := b4 (by omega)
      omega
  rcases hmax m hm him with h | h
  · omega
  · have := b4 (by omega)
    omega
theorem ex_good (l : List S38) (hp : ∀ b ∈ l, 1 ≤ b.f1) (p : Nat → Bool) (hf : FeasU (fun _ => true) l p) (i j : Nat) (hi : i < l.length) (hj : j < l.length) (hpi : p i = true) (hu : uselessP l (i : Int) (j : Int) = true) :
    feasP l [] (exV (i : Int) (j : Int) (sel p l.length 0)) = true ∧ (valP l (exV (i : Int) (j : Int) (sel p l.length 0)) > valP l (sel p l.length 0) ∨
      (valP l (exV (i : Int) (j : Int) (sel p l.length 0)) = valP l (sel p l.length 0) ∧ lessP (exV (i : Int) (j : Int) (sel p l.length 0)) (sel p l.length 0) = true)) := by
  obtain ⟨f1, f2, f3⟩ := exchange_feas l p hf i j hi hj hpi hu
  obtain ⟨h1, h2, h3, h4, h5⟩ := (useless_iff l i j).1 hu
  have hj' : ¬ (j : Int) ∈ sel p l.length 0 := fun h => by
    obtain ⟨k, _, hk, e⟩ := (mem_sel0 _ _ _).1 h
    obtain rfl : j = k := by omega
    rw [f2] at hk
    cases hk
  have he : exV (i : Int) (j : Int) (sel p l.length 0) = sel (fun k => p k && k != i || k == j) l.length 0 := by
    refine rise_ext _ _ (rise_exV _ _ _ (rise_sel _ _ _) hj') (rise_sel _ _ _) (fun x => ?_)
    rw [mem_exV, mem_sel0, mem_sel0]
    constructor
    · rintro (rfl | ⟨⟨k, h6, h7, rfl⟩, h8⟩)
      · exact ⟨j, hj, by simp, rfl⟩
      · exact ⟨k, h6, by simp only [h7, Bool.true_and, Bool.or_eq_true, bne_iff_ne]; left; omega, rfl⟩
    · rintro ⟨k, h6, h7, rfl⟩
      simp only [Bool.or_eq_true, Bool.and_eq_true, bne_iff_ne, beq_iff_eq] at h7
      rcases h7 with ⟨h7, h8⟩ | rfl
      · exact .inr ⟨⟨k, h6, h7, rfl⟩, by omega⟩
      · exact .inl rfl
  rw [he]
  refine ⟨?_, ?_⟩
  · rw [feas_ok l _ [] (fun k hk => by obtain ⟨q, hq, _, rfl⟩ := (mem_sel0 _ _ _).1 hk; omega) (rise_sel _ _ _) (by simp)]
    exact (ok_sel _ _ _).2 f1
  · rw [valB_sel, valB_sel, f3]
    by_cases hlt : prc l i < prc l j
    · left; omega
    · right
      have heq : prc l j = prc l i := by omega
      have hji := h4 heq
      refine ⟨by omega, dlt_same l hp _ _ ⟨j, hj, by simp, f2, fun x hx => ?_⟩ (by rw [f3]; omega)⟩
      have e1 : (x != i) = true := by rw [bne_iff_ne]; omega
      have e2 : (x == j) = false := by rw [beq_eq_false_iff_ne]; omega
      show (p x && x != i || x == j) = p x
      rw [e1, e2, Bool.and_true, Bool.or_false]
/-! ### The loops -/
theorem bu_l2 (l : List S38) (hl : l.length ≤ 100) (hp : ∀ b ∈ l, 1 ≤ b.f1 ∧ b.f1 ≤ 1099511627776) (win : List Int) (hwr : win.Pairwise (· < ·)) (hwl : win.length ≤ 100) (hw : ∀ k ∈ win, 0 ≤ k ∧ k < l.length)
    (keep : List Int) (hkl : keep.length ≤ 100) (hk : ∀ k ∈ keep, 0 ≤ k ∧ k < l.length) (i : Nat) (v : Int) (hi : win[i]? = some v) (c : Int)
    (hnext : Ev (fun k => worldmintlaw27_BidsUseless.l1 k l keep c win ((i + 1 : Nat) : Int)) true) (j0 : Int)
    (hj : (rd_T38 l j0).f0 = (rd_T38 l v).f0 ∧ feasP l [] (exV v j0 win) = true ∧ (valP l (exV v j0 win) > valP l win ∨ (valP l (exV v j0 win) = valP l win ∧ lessP (exV v j0 win) win = true))) :
    ∀ (d : List Int) (p : Nat) (better : Bool), keep.drop p = d → p ≤ keep.length → (better = true ∨ j0 ∈ d) → Ev (fun k => worldmintlaw27_BidsUseless.l2 k l keep c win (i : Int) better (p : Int)) true := by
  have hiw := (List.getElem?_eq_some_iff.1 hi).1
  have hvm := hw v (List.mem_of_getElem? hi)
  have hwi : wrap64 ((i : Int) + 1) = ((i + 1 : Nat) : Int) := by rw [w64 _ (by omega) (by omega)]; omega
  have hp' : ∀ b ∈ l, 0 ≤ b.f1 ∧ b.f1 ≤ 1099511627776 := fun b hb => ⟨by have := (hp b hb).1; omega, (hp b hb).2⟩
  have hvw := value_ok l win hw (by omega) hp'
  have i0 : (0 : Int) ≤ (i : Int) := by omega
  have i1 : (i : Int) < (win.length : Int) := by omega
  intro d
  induction d with
  | nil =>
    intro p better hd hpl hb
    have := drop_nil keep p hpl hd
    have hb : better = true := by
      rcases hb with h | h
      · exact h
      · cases h
    subst hb
    refine Ev.succ ?_
    simp only [worldmintlaw27_BidsUseless.l2, if_neg (show ¬ (p : Int) < (keep.length : Int) by omega), if_true, hwi]
    exact hnext
  | cons y d ih =>
    intro p better hd hpl hb
    obtain ⟨hx, hd', hlt⟩ := drop_cons keep p y d hd
    have hw1 : wrap64 ((p : Int) + 1) = ((p + 1 : Nat) : Int) := by rw [w64 _ (by omega) (by omega)]; omega
    have hy := hk y (List.mem_of_getElem? hx)
    have hex := ex_ok win i v y hi hwr (by omega)
    have hlen := len_exV v y win
    have hrange : ∀ k ∈ exV v y win, 0 ≤ k ∧ k < l.length := fun k hk => by
      rcases (mem_exV v y k win).1 hk with rfl | ⟨h, _⟩
      · exact hy
      · exact hw k h
    have hvx := value_ok l (exV v y win) hrange (by omega) hp'
    have hls := law_less_ok (exV v y win) win (by omega) (by omega)
    have c0 : (p : Int) < (keep.length : Int) := by omega
    have c1 : (0 : Int) ≤ (p : Int) := by omega
    refine Ev.succ ?_
    simp only [worldmintlaw27_BidsUseless.l2, if_pos c0, if_pos c1, rd_at keep p y hx, rd_at win i v hi, hw1]
    refine Ev.bind hex ?_
    refine Ev.bind hvx ?_
    refine Ev.bind hvw ?_
    cases better with
    | true =>
      simp only [if_true]
      exact ih (p + 1) true hd' (by omega) (.inl rfl)
    | false =>
      have hb : y = j0 ∨ j0 ∈ d := by
        rcases hb with h | h
        · cases h
        · rcases List.mem_cons.1 h with h | h
          · exact .inl h.symm
          · exact .inr h
      simp only [Bool.false_eq_true, if_false, if_pos hy.1, if_pos hy.2, if_pos i0, if_pos i1, if_pos hvm.1, if_pos hvm.2, bids_Feasible.f, Option.bind_some]
      by_cases e0 : (rd_T38 l y).f0 = (rd_T38 l v).f0
      · simp only [if_pos e0]
        cases hfe : feasP l [] (exV v y win) with
        | true =>
          simp only [if_true]
          by_cases g1 : valP l (exV v y win) > valP l win
          · simp only [if_pos g1]
            exact ih (p + 1) true hd' (by omega) (.inl rfl)
          · simp only [if_neg g1]
            by_cases g2 : valP l (exV v y win) = valP l win
            · simp only [if_pos g2]
              refine Ev.bind hls ?_
              refine ih (p + 1) _ hd' (by omega) ?_
              rcases hb with rfl | h
              · rcases hj.2.2 with h | h
                · exact absurd h g1
                · exact .inl h.2
              · exact .inr h
            · simp only [if_neg g2]
              refine ih (p + 1) false hd' (by omega) ?_
              rcases hb with rfl | h
              · rcases hj.2.2 with h | h
                · exact absurd h g1
                · exact absurd h.1 g2
              · exact .inr h
        | false =>
          simp only [Bool.false_eq_true, if_false]
          refine ih (p + 1) false hd' (by omega) ?_
          rcases hb with rfl | h
          · rw [hj.2.1] at hfe; cases hfe
          · exact .inr h
      · simp only [if_neg e0]
        refine ih (p + 1) false hd' (by omega) ?_
        rcases hb with rfl | h
        · exact absurd hj.1 e0
        · exact .inr h
theorem bu_l1 (l : List S38) (hl : l.length ≤ 100) (hp : ∀ b ∈ l, 1 ≤ b.f1 ∧ b.f1 ≤ 1099511627776) (win : List Int) (hwr : win.Pairwise (· < ·)) (hwl : win.length ≤ 100) (hw : ∀ k ∈ win, 0 ≤ k ∧ k < l.length)
    (hok : feasP l [] win = true) (c : Int) (hnext : Ev (fun k => worldmintlaw27_BidsUseless.l0 k l (reduceP l) (wrap64 (c + 1))) true) :
    ∀ (d : List Int) (i : Nat), win.drop i = d → i ≤ win.length → Ev (fun k => worldmintlaw27_BidsUseless.l1 k l (reduceP l) c win (i : Int)) true := by
  have hkl : (reduceP l).length ≤ 100 := Nat.le_trans (sel_len _ _ _) hl
  have hws := sel_of l.length win hw hwr
  rw [feas_ok l win [] hw hwr (by simp)] at hok
  have hF : FeasU (fun _ => true) l (fun k => decide ((k : Int) ∈ win)) := (ok_sel _ _ _).1 (by rw [← hws]; exact hok)
  intro d
  induction d with
  | nil =>
    intro i hd hi
    have := drop_nil win i hi hd
    refine Ev.succ ?_
    simp only [worldmintlaw27_BidsUseless.l1, if_neg (show ¬ (i : Int) < (win.length : Int) by omega)]
    exact hnext
  | cons v d ih =>
    intro i hd hi
    obtain ⟨hx, hd', hlt⟩ := drop_cons win i v d hd
    have hwi : wrap64 ((i : Int) + 1) = ((i + 1 : Nat) : Int) := by rw [w64 _ (by omega) (by omega)]; omega
    have hvm := hw v (List.mem_of_getElem? hx)
    have h1 := ih (i + 1) hd' (by omega)
    have c0 : (i : Int) < (win.length : Int) := by omega
    have c1 : (0 : Int) ≤ (i : Int) := by omega
    refine Ev.succ ?_
    simp only [worldmintlaw27_BidsUseless.l1, if_pos c0, if_pos c1, rd_at win i v hx, hwi]
    refine Ev.bind (has_ok (reduceP l) v (by omega)) ?_
    cases hc : (reduceP l).contains v with
    | true =>
      simp only [if_true]
      exact h1
    | false =>
      simp only [Bool.false_eq_true, if_false]
      have hnv : ¬ v ∈ reduceP l := fun h => by rw [List.contains_iff_mem.2 h] at hc; cases hc
      obtain ⟨iv, rfl⟩ : ∃ iv : Nat, v = (iv : Int) := ⟨v.toNat, by omega⟩
      obtain ⟨j, hj1, hj2, hj3⟩ := keeper l iv (by omega) hnv
      have hmem : decide (((iv : Nat) : Int) ∈ win) = true := decide_eq_true (List.mem_of_getElem? hx)
      have hg := ex_good l (fun b hb => (hp b hb).1) (fun k => decide ((k : Int) ∈ win)) hF iv j (by omega) hj1 hmem hj3
      rw [← hws] at hg
      obtain ⟨_, hb, _⟩ := (useless_iff l iv j).1 hj3
      exact bu_l2 l hl hp win hwr hwl hw (reduceP l) hkl (reduce_range l) i (iv : Int) hx c h1 (j : Int) ⟨by simpa [rd_T38] using hb.symm, hg.1, hg.2⟩ (reduceP l) 0 false rfl (Nat.zero_le _) (.inr hj2)
theorem BidsUseless_pure : worldmintlaw27_BidsUseless.Pure := by
  intro a0 l1 w0 _ _ w1
  obtain ⟨t, ht, ht0, ht1⟩ := lots_ok a0 w0
  obtain ⟨L, hL, hLl, hLg⟩ := bids_ok t l1 w1 7 ht0 ht1 (by omega) (by omega)
  have hlen : (L.map cv).length = L.length := List.length_map ..
  have hp : ∀ b ∈ L.map cv, 1 ≤ b.f1 ∧ b.f1 ≤ 1099511627776 := fun b hb => by
    obtain ⟨y, hy, rfl⟩ := List.mem_map.1 hb
    obtain ⟨g1, g2, g3, g4, g5, g6, g7⟩ := hLg y hy
    exact ⟨g3, by show y.f1 ≤ _; omega⟩
  have hgiven := given_ok L (by omega)
  generalize L.map cv = l at *
  have hrl : (reduceP l).length ≤ 1000 := Nat.le_trans (sel_len _ _ _) (by omega)
  refine Ev.ex ?_
  unfold worldmintlaw27_BidsUseless.f
  simp only [ht, Option.bind_some]
  refine Ev.bind hL ?_
  refine Ev.bind hgiven ?_
  refine Ev.bind (reduce_ok l (by omega)) ?_
  refine Ev.bind (indices_ok (reduceP l) (l.length : Int) hrl (reduce_range l)) ?_
  simp only [if_true]
  have hall : ∀ (d c : Nat), c + d = 128 → Ev (fun k => worldmintlaw27_BidsUseless.l0 k l (reduceP l) (c : Int)) true := by
    intro d
    induction d with
    | zero =>
      intro c hc
      refine Ev.succ ?_
      simp only [worldmintlaw27_BidsUseless.l0, if_neg (show ¬ (c : Int) < 128 by omega)]
      exact Ev.bind lives_ok7 Ev.some_
    | succ d ih =>
      intro c hc
      have hn := ih (c + 1) (by omega)
      have hw : wrap64 ((c : Int) + 1) = ((c + 1 : Nat) : Int) := by rw [w64 _ (by omega) (by omega)]; omega
      have hch := choice_ok l.length (by omega) l.length 0 c [] (Nat.sub_zero _) (Nat.zero_le _) (Nat.le_refl _) (by omega)
      rw [List.nil_append] at hch
      have hrange : ∀ k ∈ choiceP l.length c 0, 0 ≤ k ∧ k < l.length := fun k hk => by have := choice_ge l.length c 0 k hk; omega
      refine Ev.succ ?_
      simp only [worldmintlaw27_BidsUseless.l0, if_pos (show (c : Int) < 128 by omega)]
      refine Ev.bind (a := choiceP l.length c 0) hch ?_
      simp only [bids_Feasible.f, Option.bind_some]
      cases hfe : feasP l [] (choiceP l.length c 0) with
      | true =>
        simp only [if_true]
        exact bu_l1 l (by omega) hp _ (choice_rising _ _ _) (by have := choice_len l.length c 0; omega) hrange hfe (c : Int) (by rw [hw]; exact hn) _ 0 rfl (Nat.zero_le _)
      | false =>
        simp only [Bool.false_eq_true, if_false, hw]
        exact hn
  exact hall 128 0 rfl
end Go.Proofs.Ytdbpdkmnnlippaa.H
namespace Go.Proofs.Ytdbpdkmnnlippaa.Pure
theorem BidsUseless : H.worldmintlaw27_BidsUseless.Pure := H.BidsUseless_pure
end Go.Proofs.Ytdbpdkmnnlippaa.Pure
