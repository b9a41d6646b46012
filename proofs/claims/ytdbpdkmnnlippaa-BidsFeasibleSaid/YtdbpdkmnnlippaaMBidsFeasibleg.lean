/- Texts of this claim, one behind the other. -/
import Derived.Test.YtdbpdkmnnlippaaMBidsFeasibled
import Derived.Test.YtdbpdkmnnlippaaMBidsFeasibleb
import Derived.Test.YtdbpdkmnnlippaaMBidsFeasiblec
import Derived.Test.YtdbpdkmnnlippaaMBidsFeasiblee
import Derived.Test.YtdbpdkmnnlippaaMBidsFeasiblef

/- The search's answer: the best choice, and of equals the least. Plain. -/
namespace Go.Proofs.Ytdbpdkmnnlippaa.H
open Go.RowKit
set_option linter.unusedVariables false
set_option linter.unusedSimpArgs false
/-- Do places a and b conflict? -/
def cf (l : List S38) (a b : Int) : Bool := conf (l.getD a.toNat z38) (l.getD b.toNat z38)
/-- Places that go with those taken, and among each other. -/
def okS (U : S38 → Bool) (l : List S38) : List Int → List Int → Bool
  | _, [] => true
  | win, k :: s => U (l.getD k.toNat z38) && !(win.any fun w => cf l w k) && okS U l (win ++ [k]) s
section
variable {U : S38 → Bool} {l : List S38}
end
end Go.Proofs.Ytdbpdkmnnlippaa.H

/- Choices as sets of places: the best one, told without lists. Plain. -/
namespace Go.Proofs.Ytdbpdkmnnlippaa.H
open Go.RowKit
set_option linter.unusedVariables false
set_option linter.unusedSimpArgs false
theorem conf_comm (a b : S38) : conf a b = conf b a := by
  unfold conf
  have h1 : (a.f0 == b.f0) = (b.f0 == a.f0) := by rw [Bool.eq_iff_iff]; simp; exact ⟨fun h => h.symm, fun h => h.symm⟩
  have h2 : (b.f2.any fun k => a.f2.contains k) = (a.f2.any fun k => b.f2.contains k) := by
    rw [Bool.eq_iff_iff, List.any_eq_true, List.any_eq_true]
    constructor <;> (rintro ⟨x, h1, h2⟩; exact ⟨x, by simpa using h2, by simpa using h1⟩)
  rw [h1, h2]
end Go.Proofs.Ytdbpdkmnnlippaa.H

/- What a printed function computes with rounds enough: its laws; the generators of the reference. -/
namespace Go.Proofs.Ytdbpdkmnnlippaa.H
open Go.RowKit Go.Proofs.YtdbpdkmnnlippaaW.PrintWords Go.Proofs.YtdbpdkmnnlippaaW.PrintLast
set_option linter.unusedVariables false
set_option linter.unusedSimpArgs false
/-- With rounds enough, f tells a. -/
def Ev {α : Type} (f : Nat → Option α) (a : α) : Prop := ∃ K, ∀ k, K ≤ k → f k = some a
section
variable {α β : Type} {f : Nat → Option α} {a : α}
theorem Ev.succ (h : Ev (fun k => f (k + 1)) a) : Ev f a := by
  obtain ⟨K, h⟩ := h
  refine ⟨K + 1, fun k hk => ?_⟩
  obtain ⟨j, rfl⟩ : ∃ j, k = j + 1 := ⟨k - 1, by omega⟩
  exact h j (by omega)
theorem Ev.bind {g : Nat → α → Option β} {b : β} (hf : Ev f a) (hg : Ev (fun k => g k a) b) : Ev (fun k => (f k).bind (g k)) b := by
  obtain ⟨K, h⟩ := hf
  obtain ⟨K2, h2⟩ := hg
  exact ⟨max K K2, fun k hk => by
    show (f k).bind (g k) = some b
    rw [h k (by omega)]
    exact h2 k (by omega)⟩
theorem Ev.some_ : Ev (fun _ => some a) a := ⟨0, fun _ _ => rfl⟩
theorem Ev.ex (h : Ev f a) : ∃ k, f k = some a := by
  obtain ⟨K, h⟩ := h
  exact ⟨K, h K (Nat.le_refl _)⟩
theorem Ev.of_mono (hm : ∀ k, LeO (f k) (f (k + 1))) (h : ∃ k, f k = some a) : Ev f a := by
  obtain ⟨K, h⟩ := h
  refine ⟨K, fun k hk => ?_⟩
  obtain ⟨d, rfl⟩ := Nat.exists_eq_add_of_le hk
  clear hk
  induction d with
  | zero => exact h
  | succ d ih => exact hm (K + d) _ ih
end
theorem wf_bounds (n : Int) (h : (Lit.int .i64 n).wf = true) : -9223372036854775808 ≤ n ∧ n ≤ 9223372036854775807 := by
  simpa [Lit.wf, IntKind.min, IntKind.max, IntKind.signed, IntKind.bits] using h
theorem w64 (x : Int) (h0 : -9223372036854775808 ≤ x) (h1 : x ≤ 9223372036854775807) : wrap64 x = x := by
  unfold wrap64
  omega
theorem around_ok (n most : Int) (hn : (Lit.int .i64 n).wf = true) (hm : 0 < most) : ∃ r, worldmintref01_Around.f n most = some r ∧ 0 ≤ r ∧ r < most := by
  have hb := wf_bounds n hn
  unfold worldmintref01_Around.f
  by_cases h : n < 0
  · rw [if_pos h, if_neg (by omega), w64 (n + 1) (by omega) (by omega), w64 (-(n + 1)) (by omega) (by omega)]
    exact ⟨_, rfl, Int.tmod_nonneg _ (by omega), Int.tmod_lt_of_pos _ hm⟩
  · rw [if_neg h, if_neg (by omega)]
    exact ⟨_, rfl, Int.tmod_nonneg _ (by omega), Int.tmod_lt_of_pos _ hm⟩
theorem lots_ok (n : Int) (hn : (Lit.int .i64 n).wf = true) : ∃ r, worldmintref27_Lots.f n = some r ∧ 1 ≤ r ∧ r ≤ 8 := by
  obtain ⟨r, h, h0, h1⟩ := around_ok n 8 hn (by omega)
  unfold worldmintref27_Lots.f
  rw [h, Option.bind_some, w64 _ (by omega) (by omega)]
  exact ⟨_, rfl, by omega, by omega⟩
theorem pick_ok (l : List Int) (i most : Int) (hl : ∀ x ∈ l, (Lit.int .i64 x).wf = true) (hm : 0 < most) : ∃ r, worldmintref01_Pick.f l i most = some r ∧ 0 ≤ r ∧ r < most := by
  unfold worldmintref01_Pick.f
  by_cases h : i < 0
  · rw [if_pos h]; exact ⟨0, rfl, by omega, hm⟩
  · rw [if_neg h]
    by_cases h2 : i ≥ (l.length : Int)
    · rw [if_pos h2]; exact ⟨0, rfl, by omega, hm⟩
    · rw [if_neg h2, if_pos (by omega), if_pos (by omega)]
      have hm2 : rd l i ∈ l := by
        have : i.toNat < l.length := by omega
        simp [rd, List.getD, this]
      obtain ⟨r, h3, h4, h5⟩ := around_ok (rd l i) most (hl _ hm2) hm
      exact ⟨r, by rw [h3]; rfl, h4, h5⟩
/-- A bid as the reference draws it. -/
def GoodBid (n : Int) (b : S40) : Prop := 1 ≤ b.f0 ∧ b.f0 ≤ 6 ∧ 1 ≤ b.f1 ∧ b.f1 ≤ 450 ∧ b.f2.length ≠ 0 ∧ lotsOk n (-1) b.f2 = true ∧ b.f2.length ≤ 8
theorem lotsOk_snoc (n j : Int) (hj : j < n) : ∀ (ks : List Int) (last : Int), lotsOk n last ks = true → (∀ k ∈ ks, k < j) → last < j → lotsOk n last (ks ++ [j]) = true
  | [], last, _, _, h => by
    simp only [List.nil_append, lotsOk]
    simp [hj, h]
  | k :: ks, last, h, hk, _ => by
    simp only [List.cons_append, lotsOk] at h ⊢
    split at h
    · simp at h
    · rename_i hc
      rw [if_neg hc]
      exact lotsOk_snoc n j hj ks k h (fun x hx => hk x (by simp [hx])) (hk k (by simp))
set_option maxHeartbeats 1000000 in
theorem bids_l1 (n : Int) (l : List Int) (most : Int) (x7 : List S40) (x8 f0 f1 : Int) (hn1 : 1 ≤ n) (hn8 : n ≤ 8) (hx7 : x7.length < 3518437208883) (L : List S40)
    (hnext : ∀ ks : List Int, ks.length ≠ 0 → lotsOk n (-1) ks = true → ks.length ≤ 8 → ∃ L, Ev (fun k => worldmintref27_Bids.l0 k n l most (x7 ++ [⟨f0, f1, ks⟩]) (wrap64 (x8 + 1))) L ∧ (L.length : Int) ≤ most ∧ ∀ b ∈ L, GoodBid n b) :
    ∀ (d : Nat) (j : Int) (bs : Int) (ks : List Int), (n - j).toNat = d → 0 ≤ j → j ≤ n → lotsOk n (-1) ks = true → (∀ k ∈ ks, k < j) → (ks.length : Int) ≤ j → (j = n → ks.length ≠ 0) →
    ∃ L, Ev (fun k => worldmintref27_Bids.l1 k n l most x7 x8 bs j f0 f1 ks) L ∧ (L.length : Int) ≤ most ∧ ∀ b ∈ L, GoodBid n b
  | 0, j, bs, ks, hd, h0, hjn, hk, hkj, hkl, hne => by
    obtain ⟨L, h1, h2⟩ := hnext ks (hne (by omega)) hk (by omega)
    refine ⟨L, Ev.succ ?_, h2⟩
    simp only [worldmintref27_Bids.l1]
    simp only [if_neg (show ¬ j < n by omega), if_pos hx7]
    exact h1
  | d + 1, j, bs, ks, hd, h0, hjn, hk, hkj, hkl, hne => by
    have hw : wrap64 (j + 1) = j + 1 := w64 _ (by omega) (by omega)
    have hw2 : wrap64 (n - 1) = n - 1 := w64 _ (by omega) (by omega)
    have happ := fun bs' => bids_l1 n l most x7 x8 f0 f1 hn1 hn8 hx7 L hnext d (j + 1) bs' (ks ++ [j]) (by omega) (by omega) (by omega) (lotsOk_snoc n j (by omega) ks (-1) hk hkj (by omega)) (fun k hk' => by
      rcases List.mem_append.1 hk' with h | h
      · have := hkj k h; omega
      · simp at h; omega) (by simp; omega) (fun _ => by simp)
    have hnot := fun bs' (hh : j + 1 = n → ks.length ≠ 0) => bids_l1 n l most x7 x8 f0 f1 hn1 hn8 hx7 L hnext d (j + 1) bs' ks (by omega) (by omega) (by omega) hk (fun k hk' => by have := hkj k hk'; omega) (by omega) hh
    by_cases c1 : Int.tmod bs 2 = 1
    · obtain ⟨L, h1, h2⟩ := happ (wrap64 (Int.tdiv bs 2))
      refine ⟨L, Ev.succ ?_, h2⟩
      simp only [worldmintref27_Bids.l1]
      simp only [if_pos (show j < n by omega), if_pos c1, if_pos (show ks.length < 17592186044416 by omega), hw]
      exact h1
    · by_cases c2 : j = n - 1
      · by_cases c3 : (ks.length : Int) = 0
        · obtain ⟨L, h1, h2⟩ := happ (wrap64 (Int.tdiv bs 2))
          refine ⟨L, Ev.succ ?_, h2⟩
          simp only [worldmintref27_Bids.l1]
          simp only [if_pos (show j < n by omega), if_neg c1, hw2, if_pos c2, if_pos c3, if_pos (show ks.length < 17592186044416 by omega), hw]
          exact h1
        · obtain ⟨L, h1, h2⟩ := hnot (wrap64 (Int.tdiv bs 2)) (fun _ => by omega)
          refine ⟨L, Ev.succ ?_, h2⟩
          simp only [worldmintref27_Bids.l1]
          simp only [if_pos (show j < n by omega), if_neg c1, hw2, if_pos c2, if_neg c3, hw]
          exact h1
      · obtain ⟨L, h1, h2⟩ := hnot (wrap64 (Int.tdiv bs 2)) (fun _ => by omega)
        refine ⟨L, Ev.succ ?_, h2⟩
        simp only [worldmintref27_Bids.l1]
        simp only [if_pos (show j < n by omega), if_neg c1, hw2, if_neg c2, hw]
        exact h1
set_option maxHeartbeats 1000000 in
theorem bids_l0 (n : Int) (l : List Int) (hl : ∀ x ∈ l, (Lit.int .i64 x).wf = true) (most : Int) (hn1 : 1 ≤ n) (hn8 : n ≤ 8) (hm0 : 0 ≤ most) (hm1 : most ≤ 1000) :
    ∀ (d : Nat) (x7 : List S40), (most - x7.length).toNat = d → (x7.length : Int) ≤ most → (∀ b ∈ x7, GoodBid n b) →
    ∃ L, Ev (fun k => worldmintref27_Bids.l0 k n l most x7 x7.length) L ∧ (L.length : Int) ≤ most ∧ ∀ b ∈ L, GoodBid n b := by
  intro d
  induction d with
  | zero =>
    intro x7 hd hx hb
    obtain ⟨r, hr, hr0, hr1⟩ := pick_ok l 0 (most + 1) hl (by omega)
    refine ⟨x7, Ev.succ ?_, hx, hb⟩
    simp only [worldmintref27_Bids.l0, w64 (most + 1) (by omega) (by omega), hr, Option.bind_some]
    simp only [if_neg (show ¬ (x7.length : Int) < r by omega)]
    exact Ev.some_
  | succ d ih =>
    intro x7 hd hx hb
    obtain ⟨r, hr, hr0, hr1⟩ := pick_ok l 0 (most + 1) hl (by omega)
    by_cases hlt : (x7.length : Int) < r
    · obtain ⟨t, ht, ht0, ht1⟩ := pick_ok l (wrap64 (1 + wrap64 (3 * (x7.length : Int)))) 1000000 hl (by omega)
      obtain ⟨u, hu, hu0, hu1⟩ := pick_ok l (wrap64 (2 + wrap64 (3 * (x7.length : Int)))) 255 hl (by omega)
      obtain ⟨v, hv, hv0, hv1⟩ := pick_ok l (wrap64 (3 + wrap64 (3 * (x7.length : Int)))) 255 hl (by omega)
      have e0 : 0 ≤ Int.tmod t 6 ∧ Int.tmod t 6 < 6 := ⟨Int.tmod_nonneg _ ht0, Int.tmod_lt_of_pos _ (by omega)⟩
      have hq : 0 ≤ Int.tdiv t 6 ∧ Int.tdiv t 6 ≤ t := ⟨Int.tdiv_nonneg ht0 (by omega), Int.tdiv_le_self _ ht0⟩
      have hq2 : 0 ≤ Int.tdiv t 216 ∧ Int.tdiv t 216 ≤ t := ⟨Int.tdiv_nonneg ht0 (by omega), Int.tdiv_le_self _ ht0⟩
      have hw1 : wrap64 (Int.tdiv t 6) = Int.tdiv t 6 := w64 _ (by omega) (by omega)
      have hw2 : wrap64 (Int.tdiv t 216) = Int.tdiv t 216 := w64 _ (by omega) (by omega)
      have e1 : 0 ≤ Int.tmod (Int.tdiv t 6) 9 ∧ Int.tmod (Int.tdiv t 6) 9 < 9 := ⟨Int.tmod_nonneg _ hq.1, Int.tmod_lt_of_pos _ (by omega)⟩
      have e2 : 0 ≤ Int.tmod (Int.tdiv t 216) 50 ∧ Int.tmod (Int.tdiv t 216) 50 < 50 := ⟨Int.tmod_nonneg _ hq2.1, Int.tmod_lt_of_pos _ (by omega)⟩
      have g0 : wrap64 (1 + Int.tmod t 6) = 1 + Int.tmod t 6 := w64 _ (by omega) (by omega)
      have g1 : wrap64 (1 + Int.tmod (Int.tdiv t 6) 9) = 1 + Int.tmod (Int.tdiv t 6) 9 := w64 _ (by omega) (by omega)
      have g2 : wrap64 (1 + Int.tmod (Int.tdiv t 216) 50) = 1 + Int.tmod (Int.tdiv t 216) 50 := w64 _ (by omega) (by omega)
      have hpr : ∀ a b : Int, 1 ≤ a → a ≤ 9 → 1 ≤ b → b ≤ 50 → 1 ≤ a * b ∧ a * b ≤ 450 := fun a b a1 a2 b1 b2 => by
        have h1 : 1 * 1 ≤ a * b := Int.mul_le_mul a1 b1 (by omega) (by omega)
        have h2 : a * b ≤ 9 * 50 := Int.mul_le_mul a2 b2 (by omega) (by omega)
        omega
      have hp := hpr (1 + Int.tmod (Int.tdiv t 6) 9) (1 + Int.tmod (Int.tdiv t 216) 50) (by omega) (by omega) (by omega) (by omega)
      have g3 : wrap64 ((1 + Int.tmod (Int.tdiv t 6) 9) * (1 + Int.tmod (Int.tdiv t 216) 50)) = (1 + Int.tmod (Int.tdiv t 6) 9) * (1 + Int.tmod (Int.tdiv t 216) 50) := w64 _ (by omega) (by omega)
      have hstep : ∀ p : Int, 1 ≤ p → p ≤ 450 → ∃ L, Ev (fun k => worldmintref27_Bids.j1 k n l most x7 (x7.length : Int) (1 + Int.tmod t 6) p) L ∧ (L.length : Int) ≤ most ∧ ∀ b ∈ L, GoodBid n b := fun p hp1 hp2 => by
        obtain ⟨L, h1, h2⟩ := bids_l1 n l most x7 (x7.length : Int) (1 + Int.tmod t 6) p hn1 hn8 (by omega) [] (fun ks hk0 hk1 hk2 => by
          obtain ⟨L, h1, h2⟩ := ih (x7 ++ [⟨1 + Int.tmod t 6, p, ks⟩]) (by simp; omega) (by simp; omega) (fun b hb' => by
            rcases List.mem_append.1 hb' with h | h
            · exact hb b h
            · rw [List.mem_singleton] at h; subst h; exact ⟨by show 1 ≤ 1 + _; omega, by show 1 + _ ≤ 6; omega, hp1, hp2, hk0, hk1, hk2⟩)
          refine ⟨L, ?_, h2⟩
          rw [w64 _ (by omega) (by omega)]
          simpa using h1) n.toNat 0 (Go.bits .and .i64 u (Go.bits .or .i64 v 17)) [] (by omega) (by omega) (by omega) rfl (by simp) (by simp) (by omega)
        refine ⟨L, Ev.succ ?_, h2⟩
        simp only [worldmintref27_Bids.j1, hu, hv, Option.bind_some]
        exact h1
      by_cases c : Int.tmod (wrap64 (Int.tdiv t 54)) 4 = 0
      · obtain ⟨L, h1, h2⟩ := hstep _ hp.1 hp.2
        refine ⟨L, Ev.succ ?_, h2⟩
        simp only [worldmintref27_Bids.l0, w64 (most + 1) (by omega) (by omega), hr, ht, Option.bind_some, if_pos hlt, if_pos c, hw1, hw2, g0, g1, g2, g3]
        exact h1
      · obtain ⟨L, h1, h2⟩ := hstep (1 + Int.tmod (Int.tdiv t 6) 9) (by omega) (by omega)
        refine ⟨L, Ev.succ ?_, h2⟩
        simp only [worldmintref27_Bids.l0, w64 (most + 1) (by omega) (by omega), hr, ht, Option.bind_some, if_pos hlt, if_neg c, hw1, g0, g1]
        exact h1
    · refine ⟨x7, Ev.succ ?_, hx, hb⟩
      simp only [worldmintref27_Bids.l0, w64 (most + 1) (by omega) (by omega), hr, Option.bind_some]
      simp only [if_neg hlt]
      exact Ev.some_
theorem bids_ok (n : Int) (l : List Int) (hl : ∀ x ∈ l, (Lit.int .i64 x).wf = true) (most : Int) (hn1 : 1 ≤ n) (hn8 : n ≤ 8) (hm0 : 0 ≤ most) (hm1 : most ≤ 1000) :
    ∃ L, Ev (fun k => worldmintref27_Bids.f k n l most) L ∧ (L.length : Int) ≤ most ∧ ∀ b ∈ L, GoodBid n b := by
  have := bids_l0 n l hl most hn1 hn8 hm0 hm1 _ [] rfl (by simpa using hm0) (by simp)
  simpa [worldmintref27_Bids.f] using this
end Go.Proofs.Ytdbpdkmnnlippaa.H

/- What the reference of bids computes: by the same plain words. -/
namespace Go.Proofs.Ytdbpdkmnnlippaa.H
open Go.RowKit Go.Proofs.YtdbpdkmnnlippaaW.PrintWords Go.Proofs.YtdbpdkmnnlippaaW.PrintLast
set_option linter.unusedVariables false
set_option linter.unusedSimpArgs false
/-- A bid of the reference as a bid of the program. -/
def cv (b : S40) : S38 := ⟨b.f0, b.f1, b.f2⟩
theorem drop_cons {α : Type} (l : List α) (p : Nat) (x : α) (d : List α) (h : l.drop p = x :: d) : l[p]? = some x ∧ l.drop (p + 1) = d ∧ p < l.length := by
  have h1 : l[p]? = some x := by
    have := congrArg (fun t => t[0]?) h
    simpa using this
  refine ⟨h1, ?_, ?_⟩
  · have := congrArg List.tail h
    simpa using this
  · have := congrArg List.length h
    simp at this
    omega
theorem drop_nil {α : Type} (l : List α) (p : Nat) (hp : p ≤ l.length) (h : l.drop p = []) : p = l.length := by
  have := congrArg List.length h
  simp at this
  omega
theorem rdR_at (l : List S40) (i : Nat) (x : S40) (h : l[i]? = some x) : rd_T40 l (i : Int) = x := by
  simp [rd_T40, List.getD, h]
theorem rdR_cv (l : List S40) (i : Int) : cv (rd_T40 l i) = (l.map cv).getD i.toNat z38 := by
  simp only [rd_T40, List.getD, List.getElem?_map]
  cases l[i.toNat]? <;> rfl
/-! ### given -/
theorem given_ok (l : List S40) (hl : l.length < 3518437208883) : Ev (fun k => worldmintlaw27_given.f k l) (l.map cv) := by
  have : ∀ (d : List S40) (p : Nat), l.drop p = d → p ≤ l.length → Ev (fun k => worldmintlaw27_given.l0 k l ((l.take p).map cv) (p : Int)) (l.map cv) := by
    intro d
    induction d with
    | nil =>
      intro p hd hp
      have := drop_nil l p hp hd
      subst this
      refine Ev.succ ?_
      simp only [worldmintlaw27_given.l0, if_neg (show ¬ (l.length : Int) < (l.length : Int) by omega), List.take_length]
      exact Ev.some_
    | cons x d ih =>
      intro p hd hp
      obtain ⟨hx, hd', hlt⟩ := drop_cons l p x d hd
      have hw : wrap64 ((p : Int) + 1) = ((p + 1 : Nat) : Int) := by rw [w64 _ (by omega) (by omega)]; omega
      have h1 := ih (p + 1) hd' (by omega)
      refine Ev.succ ?_
      simp only [worldmintlaw27_given.l0, if_pos (show (p : Int) < (l.length : Int) by omega), if_pos (show (0 : Int) ≤ (p : Int) by omega), rdR_at l p x hx, hw, List.length_map, List.length_take]
      simp only [if_pos (show min p l.length < 3518437208883 by omega)]
      have e : (l.take p).map cv ++ [⟨x.f0, x.f1, x.f2⟩] = (l.take (p + 1)).map cv := by
        have hg : l[p] = x := by
          have := List.getElem?_eq_getElem hlt
          rw [hx] at this
          injection this with this
          exact this.symm
        rw [List.take_succ_eq_append_getElem hlt, List.map_append, hg]
        rfl
      rw [e]
      exact h1
  exact this l 0 rfl (Nat.zero_le _)
/-! ### Conflict, Feasible, Value, Less, Choice -/
theorem has_ok (xs : List Int) (x : Int) (hl : xs.length ≤ 9223372036854775807) : Ev (fun k => worldmintref01_Has.f k xs x) (xs.contains x) := by
  have : ∀ (d : List Int) (p : Nat), xs.drop p = d → p ≤ xs.length → Ev (fun k => worldmintref01_Has.l0 k xs x (p : Int)) (d.contains x) := by
    intro d
    induction d with
    | nil =>
      intro p hd hp
      have := drop_nil xs p hp hd
      refine Ev.succ ?_
      simp only [worldmintref01_Has.l0, if_neg (show ¬ (p : Int) < (xs.length : Int) by omega)]
      exact Ev.some_
    | cons y d ih =>
      intro p hd hp
      obtain ⟨hx, hd', hlt⟩ := drop_cons xs p y d hd
      have hw : wrap64 ((p : Int) + 1) = ((p + 1 : Nat) : Int) := by rw [w64 _ (by omega) (by omega)]; omega
      have h1 := ih (p + 1) hd' (by omega)
      refine Ev.succ ?_
      simp only [worldmintref01_Has.l0, if_pos (show (p : Int) < (xs.length : Int) by omega), if_pos (show (0 : Int) ≤ (p : Int) by omega), rd_at xs p y hx, hw]
      by_cases c : y = x
      · subst c
        simp only [if_true]
        simpa using Ev.some_
      · simp only [if_neg c]
        have e : (y :: d).contains x = d.contains x := by rw [List.contains_cons, beq_false_of_ne (fun e : x = y => c e.symm), Bool.false_or]
        rw [e]
        exact h1
  exact this xs 0 rfl (Nat.zero_le _)
theorem rconf_ok (a0 a1 : Int) (a2 : List Int) (b0 b1 : Int) (b2 : List Int) (ha : a2.length ≤ 9223372036854775807) (hb : b2.length ≤ 9223372036854775807) :
    Ev (fun k => worldmintref27_Conflict.f k a0 a1 a2 b0 b1 b2) (conf ⟨b0, b1, b2⟩ ⟨a0, a1, a2⟩) := by
  have : ∀ (d : List Int) (p : Nat), a2.drop p = d → p ≤ a2.length → Ev (fun k => worldmintref27_Conflict.l0 k (p : Int) a0 a1 a2 b0 b1 b2) (d.any fun k => b2.contains k) := by
    intro d
    induction d with
    | nil =>
      intro p hd hp
      have := drop_nil a2 p hp hd
      refine Ev.succ ?_
      simp only [worldmintref27_Conflict.l0, if_neg (show ¬ (p : Int) < (a2.length : Int) by omega)]
      exact Ev.some_
    | cons y d ih =>
      intro p hd hp
      obtain ⟨hx, hd', hlt⟩ := drop_cons a2 p y d hd
      have hw : wrap64 ((p : Int) + 1) = ((p + 1 : Nat) : Int) := by rw [w64 _ (by omega) (by omega)]; omega
      have h1 := ih (p + 1) hd' (by omega)
      refine Ev.succ ?_
      simp only [worldmintref27_Conflict.l0, if_pos (show (p : Int) < (a2.length : Int) by omega), if_pos (show (0 : Int) ≤ (p : Int) by omega), rd_at a2 p y hx, hw]
      refine Ev.bind (has_ok b2 y hb) ?_
      simp only [List.any_cons]
      cases b2.contains y
      · simpa using h1
      · simpa using Ev.some_
  unfold worldmintref27_Conflict.f conf
  by_cases c : a0 = b0
  · subst c
    simp only [if_true]
    simpa using Ev.some_
  · simp only [if_neg c]
    have e : (b0 == a0) = false := by simpa using fun e : b0 = a0 => c e.symm
    simp only [e, Bool.false_or]
    exact this a2 0 rfl (Nat.zero_le _)
end Go.Proofs.Ytdbpdkmnnlippaa.H

/- A part replaced; two lists compared. Plain. -/
namespace Go.Proofs.Ytdbpdkmnnlippaa.H
open Go.RowKit Go.Proofs.YtdbpdkmnnlippaaW.PrintWords Go.Proofs.YtdbpdkmnnlippaaW.PrintLast
set_option linter.unusedVariables false
set_option linter.unusedSimpArgs false
end Go.Proofs.Ytdbpdkmnnlippaa.H

/- The reference's feasible choices. -/
namespace Go.Proofs.Ytdbpdkmnnlippaa.H
open Go.RowKit Go.Proofs.YtdbpdkmnnlippaaW.PrintWords Go.Proofs.YtdbpdkmnnlippaaW.PrintLast
set_option linter.unusedVariables false
set_option linter.unusedSimpArgs false
set_option maxHeartbeats 1000000 in
theorem rfeas_l2 (l : List S40) (hb : ∀ b ∈ l, b.f2.length ≤ 9223372036854775807) (c : List Int) (hc : ∀ k ∈ c, 0 ≤ k ∧ k < l.length) (hl : c.length ≤ 1000) (q : Nat) (x : Int) (hq : c[q]? = some x) (r : Bool)
    (hr : Ev (fun k => worldmintref27_Feasible.l1 k l c ((q + 1 : Nat) : Int)) r) : ∀ (d : List Int) (p : Nat), (c.take q).drop p = d → p ≤ q →
    Ev (fun k => worldmintref27_Feasible.l2 k l c (q : Int) (p : Int)) (!(d.any fun w => cf (l.map cv) w x) && r) := by
  have hqc : q < c.length := (List.getElem?_eq_some_iff.1 hq).1
  intro d
  induction d with
  | nil =>
    intro p hd hp
    have hpq : p = q := by
      have := congrArg List.length hd
      simp at this
      omega
    have hw : wrap64 ((q : Int) + 1) = ((q + 1 : Nat) : Int) := by rw [w64 _ (by omega) (by omega)]; omega
    refine Ev.succ ?_
    simp only [worldmintref27_Feasible.l2, if_neg (show ¬ (p : Int) < (q : Int) by omega), hw]
    simpa using hr
  | cons y d ih =>
    intro p hd hp
    obtain ⟨hx, hd', hlt⟩ := drop_cons (c.take q) p y d hd
    have hpq : p < q := by simp at hlt; omega
    have hy : c[p]? = some y := by rw [List.getElem?_take_of_lt hpq] at hx; exact hx
    obtain ⟨hy0, hy1⟩ := hc y (List.mem_of_getElem? hy)
    obtain ⟨hx0, hx1⟩ := hc x (List.mem_of_getElem? hq)
    have hw : wrap64 ((p : Int) + 1) = ((p + 1 : Nat) : Int) := by rw [w64 _ (by omega) (by omega)]; omega
    have hmx : rd_T40 l x ∈ l := by
      have : x.toNat < l.length := by omega
      simp [rd_T40, List.getD, this]
    have hmy : rd_T40 l y ∈ l := by
      have : y.toNat < l.length := by omega
      simp [rd_T40, List.getD, this]
    refine Ev.succ ?_
    simp only [worldmintref27_Feasible.l2, if_pos (show (p : Int) < (q : Int) by omega), if_pos (show (0 : Int) ≤ (q : Int) by omega), if_pos (show (q : Int) < (c.length : Int) by omega), rd_at c q x hq, if_pos hx0, if_pos hx1,
      if_pos (show (0 : Int) ≤ (p : Int) by omega), if_pos (show (p : Int) < (c.length : Int) by omega), rd_at c p y hy, if_pos hy0, if_pos hy1, hw]
    refine Ev.bind (rconf_ok _ _ _ _ _ _ (hb _ hmx) (hb _ hmy)) ?_
    have e : conf ⟨(rd_T40 l y).f0, (rd_T40 l y).f1, (rd_T40 l y).f2⟩ ⟨(rd_T40 l x).f0, (rd_T40 l x).f1, (rd_T40 l x).f2⟩ = cf (l.map cv) y x := by
      unfold cf
      rw [← rdR_cv, ← rdR_cv]
      rfl
    rw [e]
    simp only [List.any_cons]
    cases cf (l.map cv) y x
    · have := ih (p + 1) hd' (by omega)
      simpa using this
    · simpa using Ev.some_
theorem rfeas_l1 (l : List S40) (hb : ∀ b ∈ l, b.f2.length ≤ 9223372036854775807) (c : List Int) (hc : ∀ k ∈ c, 0 ≤ k ∧ k < l.length) (hl : c.length ≤ 1000) : ∀ (d : List Int) (q : Nat), c.drop q = d → q ≤ c.length →
    Ev (fun k => worldmintref27_Feasible.l1 k l c (q : Int)) (okS (fun _ => true) (l.map cv) (c.take q) d) := by
  intro d
  induction d with
  | nil =>
    intro q hd hq
    have := drop_nil c q hq hd
    refine Ev.succ ?_
    simp only [worldmintref27_Feasible.l1, if_neg (show ¬ (q : Int) < (c.length : Int) by omega), okS]
    exact Ev.some_
  | cons x d ih =>
    intro q hd hq
    obtain ⟨hx, hd', hlt⟩ := drop_cons c q x d hd
    have h1 := ih (q + 1) hd' (by omega)
    have hg : c[q] = x := by
      have := List.getElem?_eq_getElem hlt
      rw [hx] at this
      injection this with this
      exact this.symm
    rw [List.take_succ_eq_append_getElem hlt, hg] at h1
    have h2 := rfeas_l2 l hb c hc hl q x hx _ h1 (c.take q) 0 rfl (Nat.zero_le _)
    refine Ev.succ ?_
    simp only [worldmintref27_Feasible.l1, if_pos (show (q : Int) < (c.length : Int) by omega), okS, Bool.true_and]
    exact h2
theorem feas_ok (l : List S38) : ∀ (s pre : List Int), (∀ k ∈ s, 0 ≤ k ∧ k < l.length) → s.Pairwise (· < ·) → (∀ p, pre.getLast? = some p → ∀ k ∈ s, p < k) → feasP l pre s = okS (fun _ => true) l pre s
  | [], _, _, _, _ => rfl
  | w :: s, pre, h0, hs, hp => by
    obtain ⟨h1, h2⟩ := List.pairwise_cons.1 hs
    obtain ⟨hw0, hw1⟩ := h0 w (by simp)
    have ih := feas_ok l s (pre ++ [w]) (fun k hk => h0 k (by simp [hk])) h2 (fun p e k hk => by
      rw [List.getLast?_append] at e
      simp at e
      subst e
      exact h1 k hk)
    have key : feasP l pre (w :: s) = (if (pre.any fun v => cf l v w) = true then false else feasP l (pre ++ [w]) s) := by
      simp only [feasP]
      cases hl : pre.getLast? with
      | none => rw [if_neg (by simp; omega)]; rfl
      | some p =>
        have := hp p hl w (by simp)
        rw [if_neg (by simp; omega)]
        rfl
    rw [key, ih]
    simp only [okS, Bool.true_and]
    cases pre.any fun v => cf l v w <;> simp
end Go.Proofs.Ytdbpdkmnnlippaa.H

/- The example of chapter 27. Plain. -/
namespace Go.Proofs.Ytdbpdkmnnlippaa.H
open Go.RowKit Go.Proofs.YtdbpdkmnnlippaaW.PrintWords Go.Proofs.YtdbpdkmnnlippaaW.PrintLast
set_option linter.unusedVariables false
set_option linter.unusedSimpArgs false
/-- Sorting by insertion: the kernel can compute it. -/
def insI (x : Int) : List Int → List Int
  | [] => [x]
  | y :: s => if x ≤ y then x :: y :: s else y :: insI x s
def sortI : List Int → List Int
  | [] => []
  | x :: s => insI x (sortI s)
theorem insI_perm (x : Int) : ∀ s, (insI x s).Perm (x :: s)
  | [] => List.Perm.refl _
  | y :: s => by
    unfold insI
    split
    · exact List.Perm.refl _
    · exact ((insI_perm x s).cons y).trans (List.Perm.swap x y s)
theorem sortI_perm : ∀ s, (sortI s).Perm s
  | [] => List.Perm.refl _
  | x :: s => (insI_perm x _).trans ((sortI_perm s).cons x)
theorem insI_sorted (x : Int) : ∀ s, s.Pairwise (· ≤ ·) → (insI x s).Pairwise (· ≤ ·)
  | [], _ => by simp [insI]
  | y :: s, h => by
    obtain ⟨h1, h2⟩ := List.pairwise_cons.1 h
    unfold insI
    split
    · rename_i hxy
      refine List.pairwise_cons.2 ⟨fun z hz => ?_, h⟩
      rcases List.mem_cons.1 hz with rfl | hz
      · exact hxy
      · have := h1 z hz; omega
    · rename_i hxy
      refine List.pairwise_cons.2 ⟨fun z hz => ?_, insI_sorted x s h2⟩
      rcases List.mem_cons.1 ((insI_perm x s).mem_iff.1 hz) with rfl | hz
      · omega
      · exact h1 z hz
theorem sortI_sorted : ∀ s, (sortI s).Pairwise (· ≤ ·)
  | [] => List.Pairwise.nil
  | x :: s => insI_sorted x _ (sortI_sorted s)
theorem sortI_eq (xs : List Int) : (xs.mergeSort fun x y => decide (x ≤ y)) = sortI xs := by
  have hs : (xs.mergeSort fun x y => decide (x ≤ y)).Pairwise (fun a b => decide (a ≤ b) = true) :=
    List.pairwise_mergeSort (fun a b c h1 h2 => by simp only [decide_eq_true_eq] at *; omega) (fun a b => by simp only [Bool.or_eq_true, decide_eq_true_eq]; omega) xs
  refine List.Perm.eq_of_pairwise (le := fun a b : Int => a ≤ b) (fun a b _ _ h1 h2 => by omega) (hs.imp (fun h => by simpa using h)) (sortI_sorted xs) ((List.mergeSort_perm xs _).trans (sortI_perm xs).symm)
def partsStepI (l : List S38) (st : List Bool × List (List Int)) (i : Nat) : List Bool × List (List Int) :=
  if st.1.getD i true then st else ((visitP l l.length i (st.1, [])).1, st.2 ++ [sortI (visitP l l.length i (st.1, [])).2])
theorem partsI (l : List S38) : partsP l = ((List.range l.length).foldl (partsStepI l) (List.replicate l.length false, [])).2 := by
  have : partsStep l = partsStepI l := by
    funext st i
    unfold partsStep partsStepI
    rw [sortI_eq]
  unfold partsP
  rw [this]
def bids_Parts.fI (l0 : List S38) : Option (List (List Int)) := if l0.length ≤ 1000000 then some ((List.range l0.length).foldl (partsStepI l0) (List.replicate l0.length false, [])).2 else none
theorem parts_fI : bids_Parts.f = bids_Parts.fI := by
  funext l
  unfold bids_Parts.f bids_Parts.fI
  rw [partsI]
def livesL : List S38 := [⟨1, 5, [0, 1]⟩, ⟨1, 5, [0]⟩, ⟨2, 3, [1]⟩, ⟨3, 2, [2]⟩]
theorem lives_parts : bids_Parts.f livesL = some [[0, 1, 2], [3]] := by rw [parts_fI]; kernel_rfl
set_option maxRecDepth 100000 in
theorem lives_ok7 : Ev (fun k => worldmintlaw27_lives.f k) true := by
  refine Ev.of_mono (fun k => worldmintlaw27_lives.mono k) ⟨30, ?_⟩
  have h := lives_parts
  unfold livesL at h
  unfold worldmintlaw27_lives.f
  rw [Option.bind_some, h]
  clear h
  show _ = some true
  kernel_rfl
end Go.Proofs.Ytdbpdkmnnlippaa.H

/- BidsFeasible: the plain statement. -/
namespace Go.Proofs.Ytdbpdkmnnlippaa.H
open Go.RowKit Go.Proofs.YtdbpdkmnnlippaaW.PrintWords Go.Proofs.YtdbpdkmnnlippaaW.PrintLast
set_option linter.unusedVariables false
set_option linter.unusedSimpArgs false
/-- Do the places rise, in range? -/
def okR (n : Int) : Option Int → List Int → Bool
  | _, [] => true
  | none, x :: d => if x < 0 || n ≤ x then false else okR n (some x) d
  | some q, x :: d => if x < 0 || n ≤ x || x ≤ q then false else okR n (some x) d
theorem okR_rise (n : Int) : ∀ (d : List Int) (q : Option Int), okR n q d = true → (∀ k ∈ d, 0 ≤ k ∧ k < n) ∧ d.Pairwise (· < ·) ∧ ∀ p, q = some p → ∀ k ∈ d, p < k
  | [], q, _ => by simp
  | x :: d, none, h => by
    unfold okR at h
    split at h
    · simp at h
    · rename_i c
      simp only [Bool.or_eq_true, decide_eq_true_eq, not_or] at c
      obtain ⟨h1, h2, h3⟩ := okR_rise n d (some x) h
      refine ⟨fun k hk => ?_, List.pairwise_cons.2 ⟨fun k hk => h3 x rfl k hk, h2⟩, by simp⟩
      rcases List.mem_cons.1 hk with rfl | hk
      · omega
      · exact h1 k hk
  | x :: d, some q, h => by
    unfold okR at h
    split at h
    · simp at h
    · rename_i c
      simp only [Bool.or_eq_true, decide_eq_true_eq, not_or] at c
      obtain ⟨h1, h2, h3⟩ := okR_rise n d (some x) h
      refine ⟨fun k hk => ?_, List.pairwise_cons.2 ⟨fun k hk => h3 x rfl k hk, h2⟩, fun p hp k hk => ?_⟩
      · rcases List.mem_cons.1 hk with rfl | hk
        · omega
        · exact h1 k hk
      · injection hp with hp
        rcases List.mem_cons.1 hk with rfl | hk
        · omega
        · have := h3 x rfl k hk; omega
theorem feasP_okR (l : List S38) : ∀ (d pre : List Int), okR l.length pre.getLast? d = false → feasP l pre d = false
  | [], pre, h => by cases hp : pre.getLast? <;> rw [hp] at h <;> simp [okR] at h
  | x :: d, pre, h => by
    have ih := feasP_okR l d (pre ++ [x])
    rw [List.getLast?_append] at ih
    have e : ([x].getLast?.or pre.getLast?) = some x := rfl
    rw [e] at ih
    unfold feasP
    cases hp : pre.getLast? with
    | none =>
      rw [hp] at h
      unfold okR at h
      by_cases c : (x < 0 || (l.length : Int) ≤ x) = true
      · rw [if_pos (by simpa using c)]
      · rw [if_neg c] at h
        rw [if_neg (by simpa using c), ih h]
        split <;> rfl
    | some q =>
      rw [hp] at h
      unfold okR at h
      by_cases c : (x < 0 || (l.length : Int) ≤ x || x ≤ q) = true
      · rw [if_pos (by simpa using c)]
      · rw [if_neg c] at h
        rw [if_neg (by simpa using c), ih h]
        split <;> rfl
def feasQ (l : List S38) (c : List Int) : Bool := okR l.length none c && okS (fun _ => true) l [] c
theorem feas_any (l : List S38) (c : List Int) : feasP l [] c = feasQ l c := by
  unfold feasQ
  cases h : okR l.length none c
  · rw [feasP_okR l c [] (by simpa using h), Bool.false_and]
  · obtain ⟨h1, h2, _⟩ := okR_rise _ c none h
    rw [feas_ok l c [] h1 h2 (by simp), Bool.true_and]
section
variable (L : List S40) (hb : ∀ b ∈ L, b.f2.length ≤ 9223372036854775807)
include hb in
theorem rfeas_any (c : List Int) (hl : c.length ≤ 1000) : Ev (fun k => worldmintref27_Feasible.f k L c) (feasQ (L.map cv) c) := by
  have h1 : okR L.length none c = true → Ev (fun k => worldmintref27_Feasible.l1 k L c 0) (okS (fun _ => true) (L.map cv) [] c) := fun h => rfeas_l1 L hb c (okR_rise _ c none h).1 hl c 0 rfl (Nat.zero_le _)
  have h0 : ∀ (d : List Int) (p : Nat) (prev : Option Int), c.drop p = d → p ≤ c.length → (p = 0 → prev = none) → (∀ q, p = q + 1 → ∃ y, c[q]? = some y ∧ prev = some y) → (okR L.length prev d = true → okR L.length none c = true) →
      Ev (fun k => worldmintref27_Feasible.l0 k L c (p : Int)) (okR L.length prev d && okS (fun _ => true) (L.map cv) [] c) := by
    intro d
    induction d with
    | nil =>
      intro p prev hd hp hp0 hp1 hok
      have := drop_nil c p hp hd
      have hlt : ¬ (p : Int) < (c.length : Int) := by omega
      have ho : okR L.length prev [] = true := by cases prev <;> rfl
      refine Ev.succ ?_
      simp only [worldmintref27_Feasible.l0, if_neg hlt, ho, Bool.true_and]
      exact h1 (hok ho)
    | cons x d ih =>
      intro p prev hd hp hp0 hp1 hok
      obtain ⟨hx, hd', hlt⟩ := drop_cons c p x d hd
      have hlt1 : (p : Int) < (c.length : Int) := by omega
      have hge : (0 : Int) ≤ (p : Int) := by omega
      have hw : wrap64 ((p : Int) + 1) = ((p + 1 : Nat) : Int) := by rw [w64 _ (by omega) (by omega)]; omega
      have hih : okR L.length prev (x :: d) = okR L.length (some x) d → Ev (fun k => worldmintref27_Feasible.l0 k L c ((p + 1 : Nat) : Int)) (okR L.length prev (x :: d) && okS (fun _ => true) (L.map cv) [] c) := fun e => by
        rw [e]
        exact ih (p + 1) (some x) hd' (by omega) (by omega) (fun q hq => by
          obtain rfl : p = q := by omega
          exact ⟨x, hx, rfl⟩) (fun h => hok (by rw [e]; exact h))
      refine Ev.succ ?_
      simp only [worldmintref27_Feasible.l0, if_pos hlt1, if_pos hge, rd_at c p x hx, hw]
      by_cases c1 : x < 0
      · have e : okR L.length prev (x :: d) = false := by cases prev <;> simp [okR, c1]
        simp only [if_pos c1, e, Bool.false_and]
        exact Ev.some_
      · by_cases c2 : x ≥ (L.length : Int)
        · have c2' : (L.length : Int) ≤ x := c2
          have e : okR L.length prev (x :: d) = false := by cases prev <;> simp [okR, c2']
          simp only [if_neg c1, if_pos c2, e, Bool.false_and]
          exact Ev.some_
        · have c2' : ¬ (L.length : Int) ≤ x := c2
          simp only [if_neg c1, if_neg c2]
          cases p with
          | zero =>
            obtain rfl := hp0 rfl
            have hz : ¬ ((0 : Nat) : Int) > 0 := by omega
            simp only [if_neg hz]
            exact hih (by simp [okR, c1, c2'])
          | succ q =>
            obtain ⟨y, hy, rfl⟩ := hp1 q rfl
            have hz : ((q + 1 : Nat) : Int) > 0 := by omega
            have hw2 : wrap64 (((q + 1 : Nat) : Int) - 1) = (q : Int) := by rw [w64 _ (by omega) (by omega)]; omega
            have hq0 : (0 : Int) ≤ (q : Int) := by omega
            have hq1 : (q : Int) < (c.length : Int) := by omega
            simp only [if_pos hz, hw2, if_pos hq0, if_pos hq1, rd_at c q y hy]
            by_cases c3 : x ≤ y
            · have e : okR L.length (some y) (x :: d) = false := by simp [okR, c3]
              simp only [if_pos c3, e, Bool.false_and]
              exact Ev.some_
            · simp only [if_neg c3]
              exact hih (by simp [okR, c1, c2', c3])
  have h := h0 c 0 none rfl (Nat.zero_le _) (fun _ => rfl) (fun q hq => by omega) (fun h => h)
  unfold feasQ
  rw [List.length_map]
  exact h
end
/-- The value of whatever places. -/
def valG (l : List S38) (c : List Int) : Int := (c.map fun (k : Int) => if 0 ≤ k ∧ k < (l.length : Int) then (l.getD k.toNat z38).f1 else 0).sum
theorem value_any (l : List S38) (c : List Int) (hl : c.length ≤ 1000) (hp : ∀ b ∈ l, 0 ≤ b.f1 ∧ b.f1 ≤ 1099511627776) : Ev (fun k => bids_Value.f k l c) (valG l c) := by
  have : ∀ (d : List Int) (p : Nat) (s : Int), c.drop p = d → p ≤ c.length → 0 ≤ s → s ≤ p * 1099511627776 → Ev (fun k => bids_Value.l0 k l s c (c.length : Int) (p : Int)) (s + valG l d) := by
    intro d
    induction d with
    | nil =>
      intro p s hd hpl hs0 hs1
      have := drop_nil c p hpl hd
      have hlt : ¬ (p : Int) < (c.length : Int) := by omega
      refine Ev.succ ?_
      simp only [bids_Value.l0, if_neg hlt, valG, List.map_nil, List.sum_nil, Int.add_zero]
      exact Ev.some_
    | cons y d ih =>
      intro p s hd hpl hs0 hs1
      obtain ⟨hx, hd', hlt⟩ := drop_cons c p y d hd
      have hlt1 : (p : Int) < (c.length : Int) := by omega
      have hge : (0 : Int) ≤ (p : Int) := by omega
      have hw : wrap64 ((p : Int) + 1) = ((p + 1 : Nat) : Int) := by rw [w64 _ (by omega) (by omega)]; omega
      refine Ev.succ ?_
      simp only [bids_Value.l0, if_pos hlt1, if_pos hge, rd_at c p y hx, hw]
      have ev : valG l (y :: d) = (if 0 ≤ y ∧ y < (l.length : Int) then (l.getD y.toNat z38).f1 else 0) + valG l d := by simp only [valG, List.map_cons, List.sum_cons]
      rw [ev]
      by_cases c1 : y ≥ 0
      · by_cases c2 : y < (l.length : Int)
        · have hyl : y.toNat < l.length := by omega
          have hb := hp (l.getD y.toNat z38) (by simp [List.getD, hyl])
          have hrd : rd_T38 l y = l.getD y.toNat z38 := rfl
          have hw2 : wrap64 (s + (l.getD y.toNat z38).f1) = s + (l.getD y.toNat z38).f1 := w64 _ (by omega) (by omega)
          have h1 := ih (p + 1) (s + (l.getD y.toNat z38).f1) hd' (by omega) (by omega) (by omega)
          have c1' : 0 ≤ y := c1
          rw [if_pos ⟨c1', c2⟩, ← Int.add_assoc]
          simp only [if_pos c1, if_pos c2, if_pos c1', hrd, hw2]
          exact h1
        · rw [if_neg (fun h => c2 h.2), Int.zero_add]
          simp only [if_pos c1, if_neg c2]
          exact ih (p + 1) s hd' (by omega) hs0 (by omega)
      · rw [if_neg (fun h => c1 h.1), Int.zero_add]
        simp only [if_neg c1]
        exact ih (p + 1) s hd' (by omega) hs0 (by omega)
  have h := this c 0 0 rfl (Nat.zero_le _) (by omega) (by omega)
  simpa [bids_Value.f] using h
theorem rvalue_any (L : List S40) (c : List Int) (hl : c.length ≤ 1000) (hp : ∀ b ∈ L, 0 ≤ b.f1 ∧ b.f1 ≤ 1099511627776) : Ev (fun k => worldmintref27_Value.f k L c) (valG (L.map cv) c) := by
  have hlm : (L.map cv).length = L.length := List.length_map ..
  have : ∀ (d : List Int) (p : Nat) (s : Int), c.drop p = d → p ≤ c.length → 0 ≤ s → s ≤ p * 1099511627776 → Ev (fun k => worldmintref27_Value.l0 k L c s (p : Int)) (s + valG (L.map cv) d) := by
    intro d
    induction d with
    | nil =>
      intro p s hd hpl hs0 hs1
      have := drop_nil c p hpl hd
      have hlt : ¬ (p : Int) < (c.length : Int) := by omega
      refine Ev.succ ?_
      simp only [worldmintref27_Value.l0, if_neg hlt, valG, List.map_nil, List.sum_nil, Int.add_zero]
      exact Ev.some_
    | cons y d ih =>
      intro p s hd hpl hs0 hs1
      obtain ⟨hx, hd', hlt⟩ := drop_cons c p y d hd
      have hlt1 : (p : Int) < (c.length : Int) := by omega
      have hge : (0 : Int) ≤ (p : Int) := by omega
      have hw : wrap64 ((p : Int) + 1) = ((p + 1 : Nat) : Int) := by rw [w64 _ (by omega) (by omega)]; omega
      refine Ev.succ ?_
      simp only [worldmintref27_Value.l0, if_pos hlt1, if_pos hge, rd_at c p y hx, hw]
      have ev : valG (L.map cv) (y :: d) = (if 0 ≤ y ∧ y < L.length then ((L.map cv).getD y.toNat z38).f1 else 0) + valG (L.map cv) d := by simp only [valG, List.map_cons, List.sum_cons, hlm]
      rw [ev]
      by_cases c1 : y ≥ 0
      · by_cases c2 : y < (L.length : Int)
        · have hyl : y.toNat < L.length := by omega
          have hb := hp (rd_T40 L y) (by simp [rd_T40, List.getD, hyl])
          have hg : ((L.map cv).getD y.toNat z38).f1 = (rd_T40 L y).f1 := by rw [← rdR_cv]; rfl
          have hw2 : wrap64 (s + (rd_T40 L y).f1) = s + (rd_T40 L y).f1 := w64 _ (by omega) (by omega)
          have h1 := ih (p + 1) (s + (rd_T40 L y).f1) hd' (by omega) (by omega) (by omega)
          have c1' : 0 ≤ y := c1
          rw [if_pos ⟨c1', c2⟩, ← Int.add_assoc, hg]
          simp only [if_pos c1, if_pos c2, if_pos c1', hw2]
          exact h1
        · rw [if_neg (fun h => c2 h.2), Int.zero_add]
          simp only [if_pos c1, if_neg c2]
          exact ih (p + 1) s hd' (by omega) hs0 (by omega)
      · rw [if_neg (fun h => c1 h.1), Int.zero_add]
        simp only [if_neg c1]
        exact ih (p + 1) s hd' (by omega) hs0 (by omega)
  have h := this c 0 0 rfl (Nat.zero_le _) (by omega) (by omega)
  simpa [worldmintref27_Value.f] using h
section
variable (L : List S40) (hL : L.length ≤ 10) (hb : ∀ b ∈ L, b.f2.length ≤ 8) (hp : ∀ b ∈ L, 0 ≤ b.f1 ∧ b.f1 ≤ 1099511627776)
include hb hp in
theorem bf_l2 (P : List (List Int)) (hP : P.length ≤ 10) (hPl : ∀ c ∈ P, c.length ≤ 1000) : ∀ (d i : Nat), i + d = P.length → Ev (fun k => worldmintlaw27_BidsFeasible.l2 k L (L.map cv) P (i : Int)) true := by
  intro d
  induction d with
  | zero =>
    intro i hi
    have hi1 : ¬ (i : Int) < (P.length : Int) := by omega
    refine Ev.succ ?_
    simp only [worldmintlaw27_BidsFeasible.l2, if_neg hi1]
    exact Ev.bind lives_ok7 Ev.some_
  | succ d ih =>
    intro i hi
    have hi1 : (i : Int) < (P.length : Int) := by omega
    have hi0 : (0 : Int) ≤ (i : Int) := by omega
    have hwi : wrap64 ((i : Int) + 1) = ((i + 1 : Nat) : Int) := by rw [w64 _ (by omega) (by omega)]; omega
    have hm : P.getD i [] ∈ P := by simp [List.getD, show i < P.length by omega]
    have hcl := hPl _ hm
    have hrL : rd_L1 P (i : Int) = P.getD i [] := rfl
    refine Ev.succ ?_
    simp only [worldmintlaw27_BidsFeasible.l2, if_pos hi1, if_pos hi0, hrL, hwi, bids_Feasible.f, feas_any, Option.bind_some]
    refine Ev.bind (rfeas_any L (fun b h => by have := hb b h; omega) _ hcl) ?_
    simp only [bne_self_eq_false, Bool.false_eq_true, if_false]
    refine Ev.bind (value_any (L.map cv) _ hcl (fun b h => by
      obtain ⟨y, hy, rfl⟩ := List.mem_map.1 h
      exact hp y hy)) ?_
    refine Ev.bind (rvalue_any L _ hcl hp) ?_
    simp only [if_true]
    exact ih (i + 1) (by omega)
include hL hb in
theorem bf_l1 (a2 a3 a4 : Int) (i : Nat) (hi : i < L.length) (hnext : Ev (fun k => worldmintlaw27_BidsFeasible.l0 k a2 a3 a4 L (L.map cv) ((i + 1 : Nat) : Int)) true) : ∀ (d j : Nat), j + d = L.length → Ev (fun k => worldmintlaw27_BidsFeasible.l1 k a2 a3 a4 L (L.map cv) (i : Int) (j : Int)) true := by
  have hlm : (L.map cv).length = L.length := List.length_map ..
  have hwi : wrap64 ((i : Int) + 1) = ((i + 1 : Nat) : Int) := by rw [w64 _ (by omega) (by omega)]; omega
  have hi0 : (0 : Int) ≤ (i : Int) := by omega
  have hi1 : (i : Int) < (L.length : Int) := by omega
  have hi2 : (i : Int) < ((L.map cv).length : Int) := by omega
  have hbi := hb (rd_T40 L (i : Int)) (by simp [rd_T40, List.getD, hi])
  have hci : rd_T38 (L.map cv) (i : Int) = cv (rd_T40 L (i : Int)) := by rw [rdR_cv]; rfl
  intro d
  induction d with
  | zero =>
    intro j hj
    have hj1 : ¬ (j : Int) < (L.length : Int) := by omega
    refine Ev.succ ?_
    simp only [worldmintlaw27_BidsFeasible.l1, if_neg hj1, hwi]
    exact hnext
  | succ d ih =>
    intro j hj
    have hj1 : (j : Int) < (L.length : Int) := by omega
    have hj0 : (0 : Int) ≤ (j : Int) := by omega
    have hj2 : (j : Int) < ((L.map cv).length : Int) := by omega
    have hwj : wrap64 ((j : Int) + 1) = ((j + 1 : Nat) : Int) := by rw [w64 _ (by omega) (by omega)]; omega
    have hbj := hb (rd_T40 L (j : Int)) (by simp [rd_T40, List.getD, show j < L.length by omega])
    have hcj : rd_T38 (L.map cv) (j : Int) = cv (rd_T40 L (j : Int)) := by rw [rdR_cv]; rfl
    have hr := rconf_ok (rd_T40 L (i : Int)).f0 (rd_T40 L (i : Int)).f1 (rd_T40 L (i : Int)).f2 (rd_T40 L (j : Int)).f0 (rd_T40 L (j : Int)).f1 (rd_T40 L (j : Int)).f2 (by omega) (by omega)
    rw [conf_comm] at hr
    refine Ev.succ ?_
    simp only [worldmintlaw27_BidsFeasible.l1, if_pos hj1, if_pos hi0, if_pos hi1, if_pos hi2, if_pos hj0, if_pos hj2, bids_Conflict.f, Option.bind_some, hwj, hci, hcj]
    refine Ev.bind hr ?_
    have e : ∀ b : Bool, (b != b) = false := fun b => by cases b <;> rfl
    simp only [cv, e, Bool.false_eq_true, if_false]
    exact ih (j + 1) (by omega)
include hb hp in
theorem bf_j2 (c few e : List Int) (hc : c.length ≤ 10) (hf : few.length ≤ 10) (he : e.length ≤ 10) : Ev (fun k => worldmintlaw27_BidsFeasible.j2 k L (L.map cv) c few e) true := by
  have h1 : ([] : List Int).length + few.length < 17592186044416 := by simp; omega
  have h2 : (([] : List Int) ++ few).length + few.length < 17592186044416 := by simp; omega
  refine Ev.succ ?_
  simp only [worldmintlaw27_BidsFeasible.j2, Option.bind_some, if_pos h1, if_pos h2]
  refine bf_l2 L hb hp _ (by simp) (fun x hx => ?_) 4 0 rfl
  simp only [List.mem_cons, List.not_mem_nil, or_false] at hx
  rcases hx with rfl | rfl | rfl | rfl
  · omega
  · omega
  · omega
  · simp; omega
end
theorem wf_wrap (x : Int) : (Lit.int .i64 (wrap64 x)).wf = true := by
  have h : -9223372036854775808 ≤ wrap64 x ∧ wrap64 x ≤ 9223372036854775807 := by unfold wrap64; omega
  simpa [Lit.wf, IntKind.min, IntKind.max, IntKind.signed, IntKind.bits] using h
/-- Whatever the number: some places. -/
theorem choice_any (n : Nat) (hn : n ≤ 100) : ∀ (d i : Nat) (x : Int) (acc : List Int), i + d = n → acc.length ≤ i → ∃ c, Ev (fun k => worldmintref27_Choice.l0 k x (n : Int) acc (i : Int)) c ∧ c.length ≤ n := by
  intro d
  induction d with
  | zero =>
    intro i x acc hi ha
    have hi1 : ¬ (i : Int) < (n : Int) := by omega
    refine ⟨acc, Ev.succ ?_, by omega⟩
    simp only [worldmintref27_Choice.l0, if_neg hi1]
    exact Ev.some_
  | succ d ih =>
    intro i x acc hi ha
    have hi1 : (i : Int) < (n : Int) := by omega
    have hw : wrap64 ((i : Int) + 1) = ((i + 1 : Nat) : Int) := by rw [w64 _ (by omega) (by omega)]; omega
    have hal : acc.length < 17592186044416 := by omega
    by_cases c : Int.tmod x 2 = 1
    · obtain ⟨r, h1, h2⟩ := ih (i + 1) (wrap64 (Int.tdiv x 2)) (acc ++ [(i : Int)]) (by omega) (by simp; omega)
      refine ⟨r, Ev.succ ?_, h2⟩
      simp only [worldmintref27_Choice.l0, if_pos hi1, if_pos c, if_pos hal, hw]
      exact h1
    · obtain ⟨r, h1, h2⟩ := ih (i + 1) (wrap64 (Int.tdiv x 2)) acc (by omega) (by omega)
      refine ⟨r, Ev.succ ?_, h2⟩
      simp only [worldmintref27_Choice.l0, if_pos hi1, if_neg c, hw]
      exact h1
theorem BidsFeasible_pure : worldmintlaw27_BidsFeasible.Pure := by
  intro a0 l1 a2 a3 a4 w0 _ _ w1 w2 w3 w4
  obtain ⟨t, ht, ht0, ht1⟩ := lots_ok a0 w0
  obtain ⟨L, hL, hLl, hLg⟩ := bids_ok t l1 w1 10 ht0 ht1 (by omega) (by omega)
  obtain ⟨u, hu, hu0, hu1⟩ := around_ok a2 1024 w2 (by omega)
  obtain ⟨v, hv, hv0, hv1⟩ := around_ok (wrap64 (Int.tdiv a2 1024)) 1024 (wf_wrap _) (by omega)
  have hb8 : ∀ b ∈ L, b.f2.length ≤ 8 := fun b hb => (hLg b hb).2.2.2.2.2.2
  have hpr : ∀ b ∈ L, 0 ≤ b.f1 ∧ b.f1 ≤ 1099511627776 := fun b hb => by have := hLg b hb; exact ⟨by have := this.2.2.1; omega, by have := this.2.2.2.1; omega⟩
  have hL10 : L.length ≤ 10 := by omega
  obtain ⟨c, hc, hcl⟩ := choice_any L.length (by omega) L.length 0 u [] (by omega) (by simp)
  obtain ⟨few, hfe, hfl⟩ := choice_any L.length (by omega) L.length 0 (Go.bits .and .i64 u v) [] (by omega) (by simp)
  have hend : Ev (fun k => worldmintlaw27_BidsFeasible.l0 k a2 a3 a4 L (L.map cv) (L.length : Int)) true := by
    have hi1 : ¬ (L.length : Int) < (L.length : Int) := by omega
    have h1 : ([] : List Int).length + few.length < 17592186044416 := by simp; omega
    refine Ev.succ ?_
    simp only [worldmintlaw27_BidsFeasible.l0, if_neg hi1, hu, hv, Option.bind_some]
    refine Ev.bind (a := c) hc ?_
    refine Ev.bind (a := few) hfe ?_
    simp only [if_pos h1, List.nil_append]
    by_cases hz : (few.length : Int) > 0
    · obtain ⟨q, hq, hq0, hq1⟩ := around_ok a3 few.length w3 (by omega)
      simp only [if_pos hz, hq, Option.bind_some, if_pos hq0, if_pos hq1]
      exact bf_j2 L hb8 hpr c few _ (by omega) (by omega) (by simp; omega)
    · simp only [if_neg hz]
      exact bf_j2 L hb8 hpr c few _ (by omega) (by omega) (by omega)
  have hloop : ∀ (d i : Nat), i + d = L.length → Ev (fun k => worldmintlaw27_BidsFeasible.l0 k a2 a3 a4 L (L.map cv) (i : Int)) true := by
    intro d
    induction d with
    | zero =>
      intro i hi
      obtain rfl : i = L.length := by omega
      exact hend
    | succ d ih =>
      intro i hi
      have hi1 : (i : Int) < (L.length : Int) := by omega
      refine Ev.succ ?_
      simp only [worldmintlaw27_BidsFeasible.l0, if_pos hi1]
      exact bf_l1 L hL10 hb8 a2 a3 a4 i (by omega) (ih (i + 1) (by omega)) L.length 0 (by omega)
  refine Ev.ex ?_
  unfold worldmintlaw27_BidsFeasible.f
  simp only [ht, Option.bind_some]
  refine Ev.bind hL ?_
  refine Ev.bind (given_ok L (by omega)) ?_
  exact hloop L.length 0 (by omega)
end Go.Proofs.Ytdbpdkmnnlippaa.H
namespace Go.Proofs.Ytdbpdkmnnlippaa.Pure
theorem BidsFeasible : H.worldmintlaw27_BidsFeasible.Pure := H.BidsFeasible_pure
end Go.Proofs.Ytdbpdkmnnlippaa.Pure
