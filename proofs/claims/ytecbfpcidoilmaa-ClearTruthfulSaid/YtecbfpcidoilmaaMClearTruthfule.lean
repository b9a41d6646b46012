/- Texts of this claim, one behind the other. -/
import Derived.Test.YtecbfpcidoilmaaMClearTruthfulc
import Derived.Test.YtecbfpcidoilmaaMClearTruthfulb
import Derived.Test.YtecbfpcidoilmaaMClearTruthfuld

/- What a printed function computes with rounds enough: its laws; the generators of the reference. -/
namespace Go.Proofs.Ytecbfpcidoilmaa.H
open Go.RowKit Go.Proofs.YtecbfpcidoilmaaW.PrintWords Go.Proofs.YtecbfpcidoilmaaW.PrintLast
set_option linter.unusedVariables false
set_option linter.unusedSimpArgs false
/-- With rounds enough, f tells a. -/
def Ev {α : Type} (f : Nat → Option α) (a : α) : Prop := ∃ K, ∀ k, K ≤ k → f k = some a
section
variable {α β : Type} {f : Nat → Option α} {a : α}
theorem Ev.succ (h : Ev (fun k => f (k + 1)) a) : Ev f a := by
  obtain ⟨K, h⟩ := h
  refine ⟨K + 1, fun k hk => ?_⟩
  obtain ⟨j, rfl⟩ : ∃ j, k = j + 1 := ⟨k - 1, by omega⟩
  exact h j (by omega)
theorem Ev.bind {g : Nat → α → Option β} {b : β} (hf : Ev f a) (hg : Ev (fun k => g k a) b) : Ev (fun k => (f k).bind (g k)) b := by
  obtain ⟨K, h⟩ := hf
  obtain ⟨K2, h2⟩ := hg
  exact ⟨max K K2, fun k hk => by
    show (f k).bind (g k) = some b
    rw [h k (by omega)]
    exact h2 k (by omega)⟩
theorem Ev.some_ : Ev (fun _ => some a) a := ⟨0, fun _ _ => rfl⟩
theorem Ev.ex (h : Ev f a) : ∃ k, f k = some a := by
  obtain ⟨K, h⟩ := h
  exact ⟨K, h K (Nat.le_refl _)⟩
theorem Ev.of_mono (hm : ∀ k, LeO (f k) (f (k + 1))) (h : ∃ k, f k = some a) : Ev f a := by
  obtain ⟨K, h⟩ := h
  refine ⟨K, fun k hk => ?_⟩
  obtain ⟨d, rfl⟩ := Nat.exists_eq_add_of_le hk
  clear hk
  induction d with
  | zero => exact h
  | succ d ih => exact hm (K + d) _ ih
end
theorem wf_bounds (n : Int) (h : (Lit.int .i64 n).wf = true) : -9223372036854775808 ≤ n ∧ n ≤ 9223372036854775807 := by
  simpa [Lit.wf, IntKind.min, IntKind.max, IntKind.signed, IntKind.bits] using h
theorem w64 (x : Int) (h0 : -9223372036854775808 ≤ x) (h1 : x ≤ 9223372036854775807) : wrap64 x = x := by
  unfold wrap64
  omega
theorem around_ok (n most : Int) (hn : (Lit.int .i64 n).wf = true) (hm : 0 < most) : ∃ r, worldmintref01_Around.f n most = some r ∧ 0 ≤ r ∧ r < most := by
  have hb := wf_bounds n hn
  unfold worldmintref01_Around.f
  by_cases h : n < 0
  · rw [if_pos h, if_neg (by omega), w64 (n + 1) (by omega) (by omega), w64 (-(n + 1)) (by omega) (by omega)]
    exact ⟨_, rfl, Int.tmod_nonneg _ (by omega), Int.tmod_lt_of_pos _ hm⟩
  · rw [if_neg h, if_neg (by omega)]
    exact ⟨_, rfl, Int.tmod_nonneg _ (by omega), Int.tmod_lt_of_pos _ hm⟩
theorem lots_ok (n : Int) (hn : (Lit.int .i64 n).wf = true) : ∃ r, worldmintref27_Lots.f n = some r ∧ 1 ≤ r ∧ r ≤ 8 := by
  obtain ⟨r, h, h0, h1⟩ := around_ok n 8 hn (by omega)
  unfold worldmintref27_Lots.f
  rw [h, Option.bind_some, w64 _ (by omega) (by omega)]
  exact ⟨_, rfl, by omega, by omega⟩
theorem pick_ok (l : List Int) (i most : Int) (hl : ∀ x ∈ l, (Lit.int .i64 x).wf = true) (hm : 0 < most) : ∃ r, worldmintref01_Pick.f l i most = some r ∧ 0 ≤ r ∧ r < most := by
  unfold worldmintref01_Pick.f
  by_cases h : i < 0
  · rw [if_pos h]; exact ⟨0, rfl, by omega, hm⟩
  · rw [if_neg h]
    by_cases h2 : i ≥ (l.length : Int)
    · rw [if_pos h2]; exact ⟨0, rfl, by omega, hm⟩
    · rw [if_neg h2, if_pos (by omega), if_pos (by omega)]
      have hm2 : rd l i ∈ l := by
        have : i.toNat < l.length := by omega
        simp [rd, List.getD, this]
      obtain ⟨r, h3, h4, h5⟩ := around_ok (rd l i) most (hl _ hm2) hm
      exact ⟨r, by rw [h3]; rfl, h4, h5⟩
/-- A bid as the reference draws it. -/
def GoodBid (n : Int) (b : S63) : Prop := 1 ≤ b.f0 ∧ b.f0 ≤ 6 ∧ 1 ≤ b.f1 ∧ b.f1 ≤ 450 ∧ b.f2.length ≠ 0 ∧ lotsOk n (-1) b.f2 = true ∧ b.f2.length ≤ 8
theorem lotsOk_snoc (n j : Int) (hj : j < n) : ∀ (ks : List Int) (last : Int), lotsOk n last ks = true → (∀ k ∈ ks, k < j) → last < j → lotsOk n last (ks ++ [j]) = true
  | [], last, _, _, h => by
    simp only [List.nil_append, lotsOk]
    simp [hj, h]
  | k :: ks, last, h, hk, _ => by
    simp only [List.cons_append, lotsOk] at h ⊢
    split at h
    · simp at h
    · rename_i hc
      rw [if_neg hc]
      exact lotsOk_snoc n j hj ks k h (fun x hx => hk x (by simp [hx])) (hk k (by simp))
set_option maxHeartbeats 1000000 in
theorem bids_l1 (n : Int) (l : List Int) (most : Int) (x7 : List S63) (x8 f0 f1 : Int) (hn1 : 1 ≤ n) (hn8 : n ≤ 8) (hx7 : x7.length < 3518437208883) (L : List S63)
    (hnext : ∀ ks : List Int, ks.length ≠ 0 → lotsOk n (-1) ks = true → ks.length ≤ 8 → ∃ L, Ev (fun k => worldmintref27_Bids.l0 k n l most (x7 ++ [⟨f0, f1, ks⟩]) (wrap64 (x8 + 1))) L ∧ (L.length : Int) ≤ most ∧ ∀ b ∈ L, GoodBid n b) :
    ∀ (d : Nat) (j : Int) (bs : Int) (ks : List Int), (n - j).toNat = d → 0 ≤ j → j ≤ n → lotsOk n (-1) ks = true → (∀ k ∈ ks, k < j) → (ks.length : Int) ≤ j → (j = n → ks.length ≠ 0) →
    ∃ L, Ev (fun k => worldmintref27_Bids.l1 k n l most x7 x8 bs j f0 f1 ks) L ∧ (L.length : Int) ≤ most ∧ ∀ b ∈ L, GoodBid n b
  | 0, j, bs, ks, hd, h0, hjn, hk, hkj, hkl, hne => by
    obtain ⟨L, h1, h2⟩ := hnext ks (hne (by omega)) hk (by omega)
    refine ⟨L, Ev.succ ?_, h2⟩
    simp only [worldmintref27_Bids.l1]
    simp only [if_neg (show ¬ j < n by omega), if_pos hx7]
    exact h1
  | d + 1, j, bs, ks, hd, h0, hjn, hk, hkj, hkl, hne => by
    have hw : wrap64 (j + 1) = j + 1 := w64 _ (by omega) (by omega)
    have hw2 : wrap64 (n - 1) = n - 1 := w64 _ (by omega) (by omega)
    have happ := fun bs' => bids_l1 n l most x7 x8 f0 f1 hn1 hn8 hx7 L hnext d (j + 1) bs' (ks ++ [j]) (by omega) (by omega) (by omega) (lotsOk_snoc n j (by omega) ks (-1) hk hkj (by omega)) (fun k hk' => by
      rcases List.mem_append.1 hk' with h | h
      · have := hkj k h; omega
      · simp at h; omega) (by simp; omega) (fun _ => by simp)
    have hnot := fun bs' (hh : j + 1 = n → ks.length ≠ 0) => bids_l1 n l most x7 x8 f0 f1 hn1 hn8 hx7 L hnext d (j + 1) bs' ks (by omega) (by omega) (by omega) hk (fun k hk' => by have := hkj k hk'; omega) (by omega) hh
    by_cases c1 : Int.tmod bs 2 = 1
    · obtain ⟨L, h1, h2⟩ := happ (wrap64 (Int.tdiv bs 2))
      refine ⟨L, Ev.succ ?_, h2⟩
      simp only [worldmintref27_Bids.l1]
      simp only [if_pos (show j < n by omega), if_pos c1, if_pos (show ks.length < 17592186044416 by omega), hw]
      exact h1
    · by_cases c2 : j = n - 1
      · by_cases c3 : (ks.length : Int) = 0
        · obtain ⟨L, h1, h2⟩ := happ (wrap64 (Int.tdiv bs 2))
          refine ⟨L, Ev.succ ?_, h2⟩
          simp only [worldmintref27_Bids.l1]
          simp only [if_pos (show j < n by omega), if_neg c1, hw2, if_pos c2, if_pos c3, if_pos (show ks.length < 17592186044416 by omega), hw]
          exact h1
        · obtain ⟨L, h1, h2⟩ := hnot (wrap64 (Int.tdiv bs 2)) (fun _ => by omega)
          refine ⟨L, Ev.succ ?_, h2⟩
          simp only [worldmintref27_Bids.l1]
          simp only [if_pos (show j < n by omega), if_neg c1, hw2, if_pos c2, if_neg c3, hw]
          exact h1
      · obtain ⟨L, h1, h2⟩ := hnot (wrap64 (Int.tdiv bs 2)) (fun _ => by omega)
        refine ⟨L, Ev.succ ?_, h2⟩
        simp only [worldmintref27_Bids.l1]
        simp only [if_pos (show j < n by omega), if_neg c1, hw2, if_neg c2, hw]
        exact h1
set_option maxHeartbeats 1000000 in
theorem bids_l0 (n : Int) (l : List Int) (hl : ∀ x ∈ l, (Lit.int .i64 x).wf = true) (most : Int) (hn1 : 1 ≤ n) (hn8 : n ≤ 8) (hm0 : 0 ≤ most) (hm1 : most ≤ 1000) :
    ∀ (d : Nat) (x7 : List S63), (most - x7.length).toNat = d → (x7.length : Int) ≤ most → (∀ b ∈ x7, GoodBid n b) →
    ∃ L, Ev (fun k => worldmintref27_Bids.l0 k n l most x7 x7.length) L ∧ (L.length : Int) ≤ most ∧ ∀ b ∈ L, GoodBid n b := by
  intro d
  induction d with
  | zero =>
    intro x7 hd hx hb
    obtain ⟨r, hr, hr0, hr1⟩ := pick_ok l 0 (most + 1) hl (by omega)
    refine ⟨x7, Ev.succ ?_, hx, hb⟩
    simp only [worldmintref27_Bids.l0, w64 (most + 1) (by omega) (by omega), hr, Option.bind_some]
    simp only [if_neg (show ¬ (x7.length : Int) < r by omega)]
    exact Ev.some_
  | succ d ih =>
    intro x7 hd hx hb
    obtain ⟨r, hr, hr0, hr1⟩ := pick_ok l 0 (most + 1) hl (by omega)
    by_cases hlt : (x7.length : Int) < r
    · obtain ⟨t, ht, ht0, ht1⟩ := pick_ok l (wrap64 (1 + wrap64 (3 * (x7.length : Int)))) 1000000 hl (by omega)
      obtain ⟨u, hu, hu0, hu1⟩ := pick_ok l (wrap64 (2 + wrap64 (3 * (x7.length : Int)))) 255 hl (by omega)
      obtain ⟨v, hv, hv0, hv1⟩ := pick_ok l (wrap64 (3 + wrap64 (3 * (x7.length : Int)))) 255 hl (by omega)
      have e0 : 0 ≤ Int.tmod t 6 ∧ Int.tmod t 6 < 6 := ⟨Int.tmod_nonneg _ ht0, Int.tmod_lt_of_pos _ (by omega)⟩
      have hq : 0 ≤ Int.tdiv t 6 ∧ Int.tdiv t 6 ≤ t := ⟨Int.tdiv_nonneg ht0 (by omega), Int.tdiv_le_self _ ht0⟩
      have hq2 : 0 ≤ Int.tdiv t 216 ∧ Int.tdiv t 216 ≤ t := ⟨Int.tdiv_nonneg ht0 (by omega), Int.tdiv_le_self _ ht0⟩
      have hw1 : wrap64 (Int.tdiv t 6) = Int.tdiv t 6 := w64 _ (by omega) (by omega)
      have hw2 : wrap64 (Int.tdiv t 216) = Int.tdiv t 216 := w64 _ (by omega) (by omega)
      have e1 : 0 ≤ Int.tmod (Int.tdiv t 6) 9 ∧ Int.tmod (Int.tdiv t 6) 9 < 9 := ⟨Int.tmod_nonneg _ hq.1, Int.tmod_lt_of_pos _ (by omega)⟩
      have e2 : 0 ≤ Int.tmod (Int.tdiv t 216) 50 ∧ Int.tmod (Int.tdiv t 216) 50 < 50 := ⟨Int.tmod_nonneg _ hq2.1, Int.tmod_lt_of_pos _ (by omega)⟩
      have g0 : wrap64 (1 + Int.tmod t 6) = 1 + Int.tmod t 6 := w64 _ (by omega) (by omega)
      have g1 : wrap64 (1 + Int.tmod (Int.tdiv t 6) 9) = 1 + Int.tmod (Int.tdiv t 6) 9 := w64 _ (by omega) (by omega)
      have g2 : wrap64 (1 + Int.tmod (Int.tdiv t 216) 50) = 1 + Int.tmod (Int.tdiv t 216) 50 := w64 _ (by omega) (by omega)
      have hpr : ∀ a b : Int, 1 ≤ a → a ≤ 9 → 1 ≤ b → b ≤ 50 → 1 ≤ a * b ∧ a * b ≤ 450 := fun a b a1 a2 b1 b2 => by
        have h1 : 1 * 1 ≤ a * b := Int.mul_le_mul a1 b1 (by omega) (by omega)
        have h2 : a * b ≤ 9 * 50 := Int.mul_le_mul a2 b2 (by omega) (by omega)
        omega
      have hp := hpr (1 + Int.tmod (Int.tdiv t 6) 9) (1 + Int.tmod (Int.tdiv t 216) 50) (by omega) (by omega) (by omega) (by omega)
      have g3 : wrap64 ((1 + Int.tmod (Int.tdiv t 6) 9) * (1 + Int.tmod (Int.tdiv t 216) 50)) = (1 + Int.tmod (Int.tdiv t 6) 9) * (1 + Int.tmod (Int.tdiv t 216) 50) := w64 _ (by omega) (by omega)
      have hstep : ∀ p : Int, 1 ≤ p → p ≤ 450 → ∃ L, Ev (fun k => worldmintref27_Bids.j1 k n l most x7 (x7.length : Int) (1 + Int.tmod t 6) p) L ∧ (L.length : Int) ≤ most ∧ ∀ b ∈ L, GoodBid n b := fun p hp1 hp2 => by
        obtain ⟨L, h1, h2⟩ := bids_l1 n l most x7 (x7.length : Int) (1 + Int.tmod t 6) p hn1 hn8 (by omega) [] (fun ks hk0 hk1 hk2 => by
          obtain ⟨L, h1, h2⟩ := ih (x7 ++ [⟨1 + Int.tmod t 6, p, ks⟩]) (by simp; omega) (by simp; omega) (fun b hb' => by
            rcases List.mem_append.1 hb' with h | h
            · exact hb b h
            · rw [List.mem_singleton] at h; subst h; exact ⟨by show 1 ≤ 1 + _; omega, by show 1 + _ ≤ 6; omega, hp1, hp2, hk0, hk1, hk2⟩)
          refine ⟨L, ?_, h2⟩
          rw [w64 _ (by omega) (by omega)]
          simpa using h1) n.toNat 0 (Go.bits .and .i64 u (Go.bits .or .i64 v 17)) [] (by omega) (by omega) (by omega) rfl (by simp) (by simp) (by omega)
        refine ⟨L, Ev.succ ?_, h2⟩
        simp only [worldmintref27_Bids.j1, hu, hv, Option.bind_some]
        exact h1
      by_cases c : Int.tmod (wrap64 (Int.tdiv t 54)) 4 = 0
      · obtain ⟨L, h1, h2⟩ := hstep _ hp.1 hp.2
        refine ⟨L, Ev.succ ?_, h2⟩
        simp only [worldmintref27_Bids.l0, w64 (most + 1) (by omega) (by omega), hr, ht, Option.bind_some, if_pos hlt, if_pos c, hw1, hw2, g0, g1, g2, g3]
        exact h1
      · obtain ⟨L, h1, h2⟩ := hstep (1 + Int.tmod (Int.tdiv t 6) 9) (by omega) (by omega)
        refine ⟨L, Ev.succ ?_, h2⟩
        simp only [worldmintref27_Bids.l0, w64 (most + 1) (by omega) (by omega), hr, ht, Option.bind_some, if_pos hlt, if_neg c, hw1, g0, g1]
        exact h1
    · refine ⟨x7, Ev.succ ?_, hx, hb⟩
      simp only [worldmintref27_Bids.l0, w64 (most + 1) (by omega) (by omega), hr, Option.bind_some]
      simp only [if_neg hlt]
      exact Ev.some_
theorem bids_ok (n : Int) (l : List Int) (hl : ∀ x ∈ l, (Lit.int .i64 x).wf = true) (most : Int) (hn1 : 1 ≤ n) (hn8 : n ≤ 8) (hm0 : 0 ≤ most) (hm1 : most ≤ 1000) :
    ∃ L, Ev (fun k => worldmintref27_Bids.f k n l most) L ∧ (L.length : Int) ≤ most ∧ ∀ b ∈ L, GoodBid n b := by
  have := bids_l0 n l hl most hn1 hn8 hm0 hm1 _ [] rfl (by simpa using hm0) (by simp)
  simpa [worldmintref27_Bids.f] using this
end Go.Proofs.Ytecbfpcidoilmaa.H

/- The search's answer: the best choice, and of equals the least. Plain. -/
namespace Go.Proofs.Ytecbfpcidoilmaa.H
open Go.RowKit
set_option linter.unusedVariables false
set_option linter.unusedSimpArgs false
/-- Do places a and b conflict? -/
def cf (l : List S45) (a b : Int) : Bool := conf (l.getD a.toNat z45) (l.getD b.toNat z45)
/-- The places from i on, n of them, whose bit is set. -/
def choiceP : Nat → Nat → Nat → List Int
  | 0, _, _ => []
  | n + 1, bits, i => if bits % 2 = 1 then (i : Int) :: choiceP n (bits / 2) (i + 1) else choiceP n (bits / 2) (i + 1)
/-- Places that go with those taken, and among each other. -/
def okS (U : S45 → Bool) (l : List S45) : List Int → List Int → Bool
  | _, [] => true
  | win, k :: s => U (l.getD k.toNat z45) && !(win.any fun w => cf l w k) && okS U l (win ++ [k]) s
def valP (l : List S45) (s : List Int) : Int := (s.map fun k => (l.getD k.toNat z45).f1).sum
def lessP : List Int → List Int → Bool
  | [], [] => false
  | [], _ :: _ => true
  | _ :: _, [] => false
  | a :: s, b :: t => if a = b then lessP s t else decide (a < b)
/-- The best extension. -/
def ext (U : S45 → Bool) (l : List S45) : List S45 → Nat → List Int → List Int × Int
  | [], _, _ => ([], 0)
  | b :: left, i, win =>
    if U b && !(win.any fun w => conf (l.getD w.toNat z45) b) then
      if (ext U l left (i + 1) (win ++ [(i : Int)])).2 + b.f1 < (ext U l left (i + 1) win).2 then ext U l left (i + 1) win
      else ((i : Int) :: (ext U l left (i + 1) (win ++ [(i : Int)])).1, (ext U l left (i + 1) (win ++ [(i : Int)])).2 + b.f1)
    else ext U l left (i + 1) win
section
variable {U : S45 → Bool} {l : List S45}
theorem ext_bounds : ∀ (left : List S45) (i : Nat) (win : List Int), (∀ b ∈ left, 1 ≤ b.f1) → 0 ≤ (ext U l left i win).2 ∧ (ext U l left i win).2 ≤ restOf U left
  | [], _, _, _ => by simp [ext, restOf]
  | b :: left, i, win, h => by
    have hb := h b (by simp)
    have h1 := ext_bounds left (i + 1) win (fun x hx => h x (by simp [hx]))
    have h2 := ext_bounds left (i + 1) (win ++ [(i : Int)]) (fun x hx => h x (by simp [hx]))
    unfold ext restOf
    cases hU : U b
    · simp only [Bool.false_and, Bool.false_eq_true, if_false]; omega
    · simp only [Bool.true_and, if_true]
      split
      · split
        · constructor <;> omega
        · constructor <;> (simp only; omega)
      · constructor <;> omega
theorem try_ext : ∀ (left : List S45) (i : Nat) (value : Int) (win : List Int) (best : Int) (out : List Int) (val : Int), (∀ b ∈ left, 1 ≤ b.f1) →
    tryP U l left i value win (best, out, val) = if best < value + (ext U l left i win).2 then (value + (ext U l left i win).2, win ++ (ext U l left i win).1, value + (ext U l left i win).2) else (best, out, val)
  | [], i, value, win, best, out, val, _ => by
    simp only [tryP, ext, Int.add_zero, List.append_nil]
    by_cases h : value ≤ best
    · rw [if_pos h, if_neg (by omega)]
    · rw [if_neg h, if_pos (by omega)]
  | b :: left, i, value, win, best, out, val, h => by
    have hl : ∀ x ∈ left, 1 ≤ x.f1 := fun x hx => h x (by simp [hx])
    have hb := h b (by simp)
    have hbd := ext_bounds (U := U) (l := l) (b :: left) i win h
    simp only [tryP]
    by_cases hp : value + restOf U (b :: left) ≤ best
    · rw [if_pos hp, if_neg (by omega)]
    · rw [if_neg hp]
      have ht := try_ext left (i + 1) (value + b.f1) (win ++ [(i : Int)]) best out val hl
      have hs := fun B O V => try_ext left (i + 1) value win B O V hl
      unfold ext
      by_cases hc : (U b && !(win.any fun w => conf (l.getD w.toNat z45) b)) = true
      · rw [if_pos hc, if_pos hc, ht]
        generalize ext U l left (i + 1) (win ++ [(i : Int)]) = T at *
        generalize ext U l left (i + 1) win = S at *
        by_cases h1 : best < value + b.f1 + T.2
        · rw [if_pos h1, hs]
          by_cases h2 : T.2 + b.f1 < S.2
          · rw [if_pos h2, if_pos (by omega), if_pos (by omega)]
          · rw [if_neg h2, if_neg (by omega)]
            simp only
            rw [if_pos (by omega)]
            rw [show value + b.f1 + T.2 = value + (T.2 + b.f1) from by omega]
            simp
        · rw [if_neg h1, hs]
          by_cases h2 : T.2 + b.f1 < S.2
          · rw [if_pos h2]
          · rw [if_neg h2, if_neg (by omega)]
            simp only
            rw [if_neg (by omega)]
      · rw [if_neg hc, if_neg hc, hs]
theorem search_ext (h : ∀ b ∈ l, 1 ≤ b.f1) : searchP U l = ext U l l 0 [] := by
  have hb := ext_bounds (U := U) (l := l) l 0 [] h
  unfold searchP
  rw [try_ext l 0 0 [] (-1) [] 0 h, if_pos (by omega)]
  simp
theorem choice_ge : ∀ (n bits i : Nat), ∀ k ∈ choiceP n bits i, (i : Int) ≤ k ∧ k < (i : Int) + n
  | 0, _, _ => by simp [choiceP]
  | n + 1, bits, i => by
    intro k hk
    have ih := choice_ge n (bits / 2) (i + 1)
    unfold choiceP at hk
    split at hk
    · rcases List.mem_cons.1 hk with rfl | hk
      · constructor <;> omega
      · have := ih k hk; constructor <;> omega
    · have := ih k hk; constructor <;> omega
theorem drop_getD (i : Nat) (b : S45) (left : List S45) (h : l.drop i = b :: left) : l.getD (i : Int).toNat z45 = b ∧ l.drop (i + 1) = left := by
  have h1 : l[i]? = some b := by
    have := congrArg (fun t => t[0]?) h
    simpa using this
  refine ⟨by simp [List.getD, h1], ?_⟩
  have := congrArg List.tail h
  simpa using this
theorem ext_valid : ∀ (left : List S45) (i : Nat) (win : List Int), l.drop i = left →
    okS U l win (ext U l left i win).1 = true ∧ valP l (ext U l left i win).1 = (ext U l left i win).2 ∧ ∃ bits, bits < 2 ^ left.length ∧ choiceP left.length bits i = (ext U l left i win).1
  | [], i, win, _ => ⟨by simp [ext, okS], by simp [ext, valP], 0, by simp, by simp [ext, choiceP]⟩
  | b :: left, i, win, h => by
    obtain ⟨hg, hd⟩ := drop_getD i b left h
    obtain ⟨s1, s2, sb, s3, s4⟩ := ext_valid left (i + 1) win hd
    obtain ⟨t1, t2, tb, t3, t4⟩ := ext_valid left (i + 1) (win ++ [(i : Int)]) hd
    have hskip : okS U l win (ext U l left (i + 1) win).1 = true ∧ valP l (ext U l left (i + 1) win).1 = (ext U l left (i + 1) win).2 ∧ ∃ bits, bits < 2 ^ (b :: left).length ∧ choiceP (b :: left).length bits i = (ext U l left (i + 1) win).1 := by
      refine ⟨s1, s2, 2 * sb, by simp only [List.length_cons, Nat.pow_succ]; omega, ?_⟩
      simp only [List.length_cons, choiceP]
      rw [if_neg (by omega), show 2 * sb / 2 = sb from by omega, s4]
    unfold ext
    by_cases hc : (U b && !(win.any fun w => conf (l.getD w.toNat z45) b)) = true
    · rw [if_pos hc]
      split
      · exact hskip
      · refine ⟨?_, ?_, 2 * tb + 1, by simp only [List.length_cons, Nat.pow_succ]; omega, ?_⟩
        · simp only [okS, cf, hg, t1, Bool.and_true]
          exact hc
        · simp only [valP, List.map_cons, List.sum_cons, hg] at t2 ⊢
          omega
        · simp only [List.length_cons, choiceP]
          rw [if_pos (by omega), show (2 * tb + 1) / 2 = tb from by omega, t4]
    · rw [if_neg hc]
      exact hskip
theorem ext_best : ∀ (left : List S45) (i : Nat) (win : List Int), l.drop i = left → (∀ b ∈ left, 1 ≤ b.f1) → ∀ bits, okS U l win (choiceP left.length bits i) = true →
    valP l (choiceP left.length bits i) ≤ (ext U l left i win).2 ∧ (valP l (choiceP left.length bits i) = (ext U l left i win).2 → choiceP left.length bits i = (ext U l left i win).1 ∨ lessP (ext U l left i win).1 (choiceP left.length bits i) = true)
  | [], i, win, _, _, bits, _ => ⟨by simp [choiceP, ext, valP], fun _ => .inl (by simp [choiceP, ext])⟩
  | b :: left, i, win, h, hp, bits, hok => by
    obtain ⟨hg, hd⟩ := drop_getD i b left h
    have hb := hp b (by simp)
    have hl : ∀ x ∈ left, 1 ≤ x.f1 := fun x hx => hp x (by simp [hx])
    have hs := ext_best left (i + 1) win hd hl (bits / 2)
    have ht := ext_best left (i + 1) (win ++ [(i : Int)]) hd hl (bits / 2)
    have hge := choice_ge left.length (bits / 2) (i + 1)
    have htb := ext_bounds (U := U) (l := l) left (i + 1) (win ++ [(i : Int)]) hl
    simp only [List.length_cons, choiceP] at hok ⊢
    by_cases hbit : bits % 2 = 1
    · rw [if_pos hbit] at hok ⊢
      simp only [okS, cf, hg, Bool.and_eq_true] at hok
      obtain ⟨⟨hU, hnc⟩, hrest⟩ := hok
      obtain ⟨h1, h2⟩ := ht hrest
      unfold ext
      rw [if_pos (by simp only [Bool.and_eq_true]; exact ⟨hU, hnc⟩)]
      have hv : valP l ((i : Int) :: choiceP left.length (bits / 2) (i + 1)) = b.f1 + valP l (choiceP left.length (bits / 2) (i + 1)) := by
        simp only [valP, List.map_cons, List.sum_cons, hg]
      rw [hv]
      split
      · exact ⟨by omega, fun e => by omega⟩
      · refine ⟨by show _ ≤ (_, _).2; simp only; omega, fun e => ?_⟩
        simp only at e ⊢
        rcases h2 (by omega) with h3 | h3
        · exact .inl (by rw [h3])
        · exact .inr (by simp only [lessP, if_true]; exact h3)
    · rw [if_neg hbit] at hok ⊢
      obtain ⟨h1, h2⟩ := hs hok
      unfold ext
      split
      · split
        · exact ⟨h1, h2⟩
        · refine ⟨by show _ ≤ (_, _).2; simp only; omega, fun e => .inr ?_⟩
          simp only at e ⊢
          cases hc : choiceP left.length (bits / 2) (i + 1) with
          | nil =>
            rw [hc] at e
            simp only [valP, List.map_nil, List.sum_nil] at e
            omega
          | cons k s =>
            have := hge k (by rw [hc]; simp)
            simp only [lessP]
            rw [if_neg (by omega)]
            simp
            omega
      · exact ⟨h1, h2⟩
end
end Go.Proofs.Ytecbfpcidoilmaa.H

/- What the reference of bids and clear computes: by the same plain words. -/
namespace Go.Proofs.Ytecbfpcidoilmaa.H
open Go.RowKit Go.Proofs.YtecbfpcidoilmaaW.PrintWords Go.Proofs.YtecbfpcidoilmaaW.PrintLast
set_option linter.unusedVariables false
set_option linter.unusedSimpArgs false
/-- A bid of the reference as a bid of the program. -/
def cv (b : S63) : S45 := ⟨b.f0, b.f1, b.f2⟩
theorem drop_cons {α : Type} (l : List α) (p : Nat) (x : α) (d : List α) (h : l.drop p = x :: d) : l[p]? = some x ∧ l.drop (p + 1) = d ∧ p < l.length := by
  have h1 : l[p]? = some x := by
    have := congrArg (fun t => t[0]?) h
    simpa using this
  refine ⟨h1, ?_, ?_⟩
  · have := congrArg List.tail h
    simpa using this
  · have := congrArg List.length h
    simp at this
    omega
theorem drop_nil {α : Type} (l : List α) (p : Nat) (hp : p ≤ l.length) (h : l.drop p = []) : p = l.length := by
  have := congrArg List.length h
  simp at this
  omega
theorem rdR_at (l : List S63) (i : Nat) (x : S63) (h : l[i]? = some x) : rd_T63 l (i : Int) = x := by
  simp [rd_T63, List.getD, h]
/-! ### given -/
theorem given_ok (l : List S63) (hl : l.length < 3518437208883) : Ev (fun k => worldmintlaw28_given.f k l) (l.map cv) := by
  have : ∀ (d : List S63) (p : Nat), l.drop p = d → p ≤ l.length → Ev (fun k => worldmintlaw28_given.l0 k l ((l.take p).map cv) (p : Int)) (l.map cv) := by
    intro d
    induction d with
    | nil =>
      intro p hd hp
      have := drop_nil l p hp hd
      subst this
      refine Ev.succ ?_
      simp only [worldmintlaw28_given.l0, if_neg (show ¬ (l.length : Int) < (l.length : Int) by omega), List.take_length]
      exact Ev.some_
    | cons x d ih =>
      intro p hd hp
      obtain ⟨hx, hd', hlt⟩ := drop_cons l p x d hd
      have hw : wrap64 ((p : Int) + 1) = ((p + 1 : Nat) : Int) := by rw [w64 _ (by omega) (by omega)]; omega
      have h1 := ih (p + 1) hd' (by omega)
      refine Ev.succ ?_
      simp only [worldmintlaw28_given.l0, if_pos (show (p : Int) < (l.length : Int) by omega), if_pos (show (0 : Int) ≤ (p : Int) by omega), rdR_at l p x hx, hw, List.length_map, List.length_take]
      simp only [if_pos (show min p l.length < 3518437208883 by omega)]
      have e : (l.take p).map cv ++ [⟨x.f0, x.f1, x.f2⟩] = (l.take (p + 1)).map cv := by
        have hg : l[p] = x := by
          have := List.getElem?_eq_getElem hlt
          rw [hx] at this
          injection this with this
          exact this.symm
        rw [List.take_succ_eq_append_getElem hlt, List.map_append, hg]
        rfl
      rw [e]
      exact h1
  exact this l 0 rfl (Nat.zero_le _)
/-! ### Conflict, Feasible, Value, Less, Choice -/
theorem has_ok (xs : List Int) (x : Int) (hl : xs.length ≤ 9223372036854775807) : Ev (fun k => worldmintref01_Has.f k xs x) (xs.contains x) := by
  have : ∀ (d : List Int) (p : Nat), xs.drop p = d → p ≤ xs.length → Ev (fun k => worldmintref01_Has.l0 k xs x (p : Int)) (d.contains x) := by
    intro d
    induction d with
    | nil =>
      intro p hd hp
      have := drop_nil xs p hp hd
      refine Ev.succ ?_
      simp only [worldmintref01_Has.l0, if_neg (show ¬ (p : Int) < (xs.length : Int) by omega)]
      exact Ev.some_
    | cons y d ih =>
      intro p hd hp
      obtain ⟨hx, hd', hlt⟩ := drop_cons xs p y d hd
      have hw : wrap64 ((p : Int) + 1) = ((p + 1 : Nat) : Int) := by rw [w64 _ (by omega) (by omega)]; omega
      have h1 := ih (p + 1) hd' (by omega)
      refine Ev.succ ?_
      simp only [worldmintref01_Has.l0, if_pos (show (p : Int) < (xs.length : Int) by omega), if_pos (show (0 : Int) ≤ (p : Int) by omega), rd_at xs p y hx, hw]
      by_cases c : y = x
      · subst c
        simp only [if_true]
        simpa using Ev.some_
      · simp only [if_neg c]
        have e : (y :: d).contains x = d.contains x := by rw [List.contains_cons, beq_false_of_ne (fun e : x = y => c e.symm), Bool.false_or]
        rw [e]
        exact h1
  exact this xs 0 rfl (Nat.zero_le _)
end Go.Proofs.Ytecbfpcidoilmaa.H

/- The reference's feasible choices. -/
namespace Go.Proofs.Ytecbfpcidoilmaa.H
open Go.RowKit Go.Proofs.YtecbfpcidoilmaaW.PrintWords Go.Proofs.YtecbfpcidoilmaaW.PrintLast
set_option linter.unusedVariables false
set_option linter.unusedSimpArgs false
theorem choice_rising : ∀ (n bits i : Nat), (choiceP n bits i).Pairwise (· < ·)
  | 0, _, _ => by simp [choiceP]
  | n + 1, bits, i => by
    unfold choiceP
    split
    · refine List.pairwise_cons.2 ⟨fun k hk => ?_, choice_rising n (bits / 2) (i + 1)⟩
      have := choice_ge n (bits / 2) (i + 1) k hk
      omega
    · exact choice_rising n (bits / 2) (i + 1)
theorem choice_len : ∀ (n bits i : Nat), (choiceP n bits i).length ≤ n
  | 0, _, _ => by simp [choiceP]
  | n + 1, bits, i => by
    have := choice_len n (bits / 2) (i + 1)
    unfold choiceP
    split
    · simp; omega
    · omega
theorem okS_split (U : S45 → Bool) (l : List S45) : ∀ (s win : List Int), okS U l win s = (okS (fun _ => true) l win s && s.all fun k => U (l.getD k.toNat z45))
  | [], _ => rfl
  | k :: s, win => by
    simp only [okS, okS_split U l s, List.all_cons, Bool.true_and]
    cases U (l.getD k.toNat z45) <;> cases (win.any fun w => cf l w k) <;> cases okS (fun _ => true) l (win ++ [k]) s <;> simp
end Go.Proofs.Ytecbfpcidoilmaa.H

/- The reference's best choice is the search's. -/
namespace Go.Proofs.Ytecbfpcidoilmaa.H
open Go.RowKit Go.Proofs.YtecbfpcidoilmaaW.PrintWords Go.Proofs.YtecbfpcidoilmaaW.PrintLast
set_option linter.unusedVariables false
set_option linter.unusedSimpArgs false
end Go.Proofs.Ytecbfpcidoilmaa.H

/- ClearPrices: the program's prices are the reference's. -/
namespace Go.Proofs.Ytecbfpcidoilmaa.H
open Go.RowKit Go.Proofs.YtecbfpcidoilmaaW.PrintWords Go.Proofs.YtecbfpcidoilmaaW.PrintLast
set_option linter.unusedVariables false
set_option linter.unusedSimpArgs false
theorem search_range (U : S45 → Bool) (l : List S45) (hp : ∀ b ∈ l, 1 ≤ b.f1) : (∀ k ∈ (searchP U l).1, 0 ≤ k ∧ k < l.length) ∧ (searchP U l).1.length ≤ l.length := by
  rw [search_ext hp]
  obtain ⟨_, _, b, _, h⟩ := ext_valid (U := U) (l := l) l 0 [] rfl
  rw [← h]
  exact ⟨fun k hk => by have := choice_ge l.length b 0 k hk; omega, choice_len _ _ _⟩
/-- What a winner pays. -/
def setP (l : List S45) (value : Int) (out : List Int) (w : Int) : List Int :=
  out.set w.toNat (wrap64 (wrap64 ((searchP (fun b => b.f0 != (l.getD w.toNat z45).f0) l).2 - value) + (l.getD w.toNat z45).f1))
def pricesP (n : Int) (l : List S45) : List Int × Int :=
  if validP n l = 0 then ((searchP (fun _ => true) l).1.foldl (setP l (searchP (fun _ => true) l).2) (List.replicate l.length 0), 0) else ([], validP n l)
theorem prices_l0 (l : List S45) (hok : okBids l = true) (value : Int) (win : List Int) (hw : ∀ k ∈ win, 0 ≤ k ∧ k < l.length) (hwl : win.length ≤ 1000) :
    ∀ (d : List Int) (p : Nat) (out : List Int), win.drop p = d → p ≤ win.length → out.length = l.length → Ev (fun k => clear_Prices.l0 k l value out win (win.length : Int) (p : Int)) (d.foldl (setP l value) out, 0) := by
  intro d
  induction d with
  | nil =>
    intro p out hd hp ho
    have := drop_nil win p hp hd
    refine Ev.succ ?_
    simp only [clear_Prices.l0, if_neg (show ¬ (p : Int) < (win.length : Int) by omega)]
    exact Ev.some_
  | cons y d ih =>
    intro p out hd hp ho
    obtain ⟨hy, hd', hlt⟩ := drop_cons win p y d hd
    obtain ⟨hy0, hy1⟩ := hw y (List.mem_of_getElem? hy)
    have hwp : wrap64 ((p : Int) + 1) = ((p + 1 : Nat) : Int) := by rw [w64 _ (by omega) (by omega)]; omega
    have hrd : rd_T45 l y = l.getD y.toNat z45 := rfl
    refine Ev.succ ?_
    simp only [clear_Prices.l0, if_pos (show (p : Int) < (win.length : Int) by omega), if_pos (show (0 : Int) ≤ (p : Int) by omega), rd_at win p y hy, if_pos hy0, if_pos hy1, clear_others.f, hok, if_true, Option.bind_some,
      if_pos (show y < (out.length : Int) by omega), hwp, hrd]
    exact ih (p + 1) _ hd' (by omega) (by simp [ho])
theorem prices_ok (n : Int) (l : List S45) : Ev (fun k => clear_Prices.f k n l) (pricesP n l) := by
  unfold clear_Prices.f pricesP
  by_cases hz : validP n l = 0
  · have hok := validP_ok n l hz
    obtain ⟨hl, hp⟩ : l.length ≤ 10 ∧ ∀ b ∈ l, 1 ≤ b.f1 ∧ b.f1 ≤ 1099511627776 := by
      have h := hok
      simp only [okBids, Bool.and_eq_true, List.all_eq_true, decide_eq_true_eq] at h
      exact h
    have hr := search_range (fun _ => true) l (fun b hb => (hp b hb).1)
    simp only [clear_Best.f, if_pos hz, Option.bind_some, if_true, if_pos (show (0 : Int) ≤ (l.length : Int) by omega), Int.toNat_natCast, if_pos (show l.length ≤ 35184372088832 by omega)]
    exact prices_l0 l hok _ _ hr.1 (by omega) _ 0 _ rfl (Nat.zero_le _) (by simp)
  · simp only [clear_Best.f, if_neg hz, Option.bind_some]
    exact Ev.some_
end Go.Proofs.Ytecbfpcidoilmaa.H

/- ClearMore: the plain statement. -/
namespace Go.Proofs.Ytecbfpcidoilmaa.H
open Go.RowKit Go.Proofs.YtecbfpcidoilmaaW.PrintWords Go.Proofs.YtecbfpcidoilmaaW.PrintLast
set_option linter.unusedVariables false
set_option linter.unusedSimpArgs false
set_option maxRecDepth 100000 in
theorem lives_ok3 : Ev (fun k => worldmintlaw28_lives.f k) true := Ev.of_mono (fun k => worldmintlaw28_lives.mono k) ⟨20, by kernel_rfl⟩
def bestQ (n : Int) (l : List S45) : List Int × Int × Int := if validP n l = 0 then ((searchP (fun _ => true) l).1, (searchP (fun _ => true) l).2, 0) else ([], 0, validP n l)
theorem bestq_f (n : Int) (l : List S45) : clear_Best.f n l = some (bestQ n l) := by
  unfold clear_Best.f bestQ
  split <;> rfl
/-- A good bid, its price raised. -/
def Fine (n : Int) (b : S45) : Prop := 1 ≤ b.f0 ∧ b.f0 ≤ 1073741824 ∧ 1 ≤ b.f1 ∧ b.f1 ≤ 1000 ∧ b.f2.length ≠ 0 ∧ lotsOk n (-1) b.f2 = true
theorem fine_err (n : Int) : ∀ l : List S45, (∀ b ∈ l, Fine n b) → bidsErr n l = 0
  | [], _ => rfl
  | b :: l, h => by
    obtain ⟨h1, h2, h3, h4, h5, h6⟩ := h b (by simp)
    unfold bidsErr
    rw [if_neg (by simp; omega), if_neg (by simp; omega), if_neg (by simpa using h5), h6]
    simpa using fine_err n l (fun x hx => h x (by simp [hx]))
theorem fine_valid (n : Int) (l : List S45) (h1 : 1 ≤ n) (h8 : n ≤ 8) (hl : l.length ≤ 10) (h : ∀ b ∈ l, Fine n b) : validP n l = 0 := by
  unfold validP
  rw [if_neg (by simp; omega), if_neg (by omega)]
  exact fine_err n l h
theorem any_congr_ {p q : Int → Bool} : ∀ W : List Int, (∀ w ∈ W, p w = q w) → W.any p = W.any q
  | [], _ => rfl
  | w :: W, h => by rw [List.any_cons, List.any_cons, h w (by simp), any_congr_ W (fun x hx => h x (by simp [hx]))]
theorem okS_congr (l l' : List S45) : ∀ (s win : List Int), (∀ a, a ∈ win ∨ a ∈ s → ∀ b, b ∈ s → cf l a b = cf l' a b) → okS (fun _ => true) l win s = okS (fun _ => true) l' win s
  | [], _, _ => rfl
  | k :: s, win, h => by
    simp only [okS, Bool.true_and]
    have h1 : (win.any fun w => cf l w k) = (win.any fun w => cf l' w k) := by
      exact any_congr_ win (fun w hw => h w (.inl hw) k (by simp))
    rw [h1, okS_congr l l' s (win ++ [k]) (fun a ha b hb => h a (by
      rcases ha with ha | ha
      · rcases List.mem_append.1 ha with ha | ha
        · exact .inl ha
        · right; rw [List.mem_singleton] at ha; simp [ha]
      · right; simp [ha]) b (by simp [hb]))]
theorem set_getD (l : List S45) (i : Nat) (hi : i < l.length) (x : S45) (a : Nat) : (l.set i x).getD a z45 = if i = a then x else l.getD a z45 := by
  simp only [List.getD, List.getElem?_set]
  by_cases h : i = a
  · subst h; simp [hi]
  · simp [h]
end Go.Proofs.Ytecbfpcidoilmaa.H
namespace Go.Proofs.Ytecbfpcidoilmaa.Pure
end Go.Proofs.Ytecbfpcidoilmaa.Pure

/- What a bidder gains. -/

namespace Go.Proofs.Ytecbfpcidoilmaa.H
open Go.RowKit Go.Proofs.YtecbfpcidoilmaaW.PrintWords Go.Proofs.YtecbfpcidoilmaaW.PrintLast
set_option linter.unusedVariables false
set_option linter.unusedSimpArgs false
theorem optU_at (U : S45 → Bool) (l : List S45) (hp : ∀ b ∈ l, 1 ≤ b.f1) : ∃ bits, bits < 2 ^ l.length ∧ choiceP l.length bits 0 = (searchP U l).1 ∧ okS U l [] (choiceP l.length bits 0) = true ∧ valP l (choiceP l.length bits 0) = (searchP U l).2 := by
  rw [search_ext hp]
  obtain ⟨h1, h2, b, h3, h4⟩ := ext_valid (U := U) (l := l) l 0 [] rfl
  exact ⟨b, h3, h4, by rw [h4]; exact h1, by rw [h4]; exact h2⟩
theorem optU_le (U : S45 → Bool) (l : List S45) (hp : ∀ b ∈ l, 1 ≤ b.f1) (bits : Nat) (h : okS U l [] (choiceP l.length bits 0) = true) : valP l (choiceP l.length bits 0) ≤ (searchP U l).2 := by
  rw [search_ext hp]
  exact (ext_best (U := U) (l := l) l 0 [] rfl hp bits h).1
theorem val_set2 (l : List S45) (i : Nat) (hi : i < l.length) (x : S45) : ∀ s : List Int, s.Pairwise (· < ·) → (∀ k ∈ s, 0 ≤ k) →
    ((i : Int) ∈ s → valP (l.set i x) s = valP l s + (x.f1 - (l.getD i z45).f1)) ∧ (¬ (i : Int) ∈ s → valP (l.set i x) s = valP l s)
  | [], _, _ => by simp [valP]
  | k :: s, hs, h0 => by
    obtain ⟨h1, h2⟩ := List.pairwise_cons.1 hs
    obtain ⟨h4, h5⟩ := val_set2 l i hi x s h2 (fun a ha => h0 a (by simp [ha]))
    have hk := h0 k (by simp)
    have e1 : valP l (k :: s) = (l.getD k.toNat z45).f1 + valP l s := by simp only [valP, List.map_cons, List.sum_cons]
    have e2 : valP (l.set i x) (k :: s) = ((l.set i x).getD k.toNat z45).f1 + valP (l.set i x) s := by simp only [valP, List.map_cons, List.sum_cons]
    rw [e1, e2, set_getD l i hi]
    by_cases c : i = k.toNat
    · have hn : ¬ (i : Int) ∈ s := fun hm => by have := h1 _ hm; omega
      have h6 := h5 hn
      have ek : l.getD k.toNat z45 = l.getD i z45 := by rw [c]
      rw [if_pos c, ek]
      refine ⟨fun _ => by omega, fun hh => absurd (List.mem_cons.2 (.inl ?_)) hh⟩
      omega
    · rw [if_neg c]
      refine ⟨fun hm => ?_, fun hh => ?_⟩
      · rcases List.mem_cons.1 hm with e | hm
        · omega
        · have := h4 hm; omega
      · rw [h5 (fun hm => hh (by simp [hm]))]
theorem cf_set (l : List S45) (i : Nat) (hi : i < l.length) (x : S45) (h0 : x.f0 = (l.getD i z45).f0) (h2 : x.f2 = (l.getD i z45).f2) : ∀ a b : Int, cf l a b = cf (l.set i x) a b := fun a b => by
  have hh : ∀ a : Int, ((l.set i x).getD a.toNat z45).f0 = (l.getD a.toNat z45).f0 ∧ ((l.set i x).getD a.toNat z45).f2 = (l.getD a.toNat z45).f2 := fun a => by
    rw [set_getD l i hi]
    by_cases c : i = a.toNat
    · rw [if_pos c, ← c]; exact ⟨h0, h2⟩
    · rw [if_neg c]; exact ⟨rfl, rfl⟩
  unfold cf conf
  rw [(hh a).1, (hh a).2, (hh b).1, (hh b).2]
/-- The value without a bidder does not hang on her price. -/
theorem without_le (l : List S45) (hp : ∀ b ∈ l, 1 ≤ b.f1) (i : Nat) (hi : i < l.length) (x : S45) (hx1 : 1 ≤ x.f1) (h0 : x.f0 = (l.getD i z45).f0) (h2 : x.f2 = (l.getD i z45).f2) :
    (searchP (fun b => b.f0 != x.f0) (l.set i x)).2 ≤ (searchP (fun b => b.f0 != x.f0) l).2 := by
  have hp' : ∀ b ∈ l.set i x, 1 ≤ b.f1 := fun b hb => by
    rcases List.mem_or_eq_of_mem_set hb with h | h
    · exact hp b h
    · subst h; exact hx1
  obtain ⟨b2, q1, _, q2, q3⟩ := optU_at (fun b => b.f0 != x.f0) (l.set i x) hp'
  rw [List.length_set] at q1 q2 q3
  have hrise : (choiceP l.length b2 0).Pairwise (· < ·) := choice_rising _ _ _
  have hnn : ∀ k ∈ choiceP l.length b2 0, 0 ≤ k := fun k hk => by have := choice_ge l.length b2 0 k hk; omega
  rw [okS_split] at q2
  simp only [Bool.and_eq_true, List.all_eq_true] at q2
  have hni : ¬ (i : Int) ∈ choiceP l.length b2 0 := fun hm => by
    have := q2.2 _ hm
    rw [Int.toNat_natCast, set_getD l i hi, if_pos rfl] at this
    simp at this
  have hv := (val_set2 l i hi x _ hrise hnn).2 hni
  have ho : okS (fun b => b.f0 != x.f0) l [] (choiceP l.length b2 0) = true := by
    rw [okS_split]
    simp only [Bool.and_eq_true, List.all_eq_true]
    refine ⟨by rw [okS_congr l (l.set i x) _ [] (fun a _ b _ => cf_set l i hi x h0 h2 a b)]; exact q2.1, fun k hk => ?_⟩
    have h3 := q2.2 k hk
    rw [set_getD l i hi] at h3
    by_cases c : i = k.toNat
    · have := hnn k hk
      exact absurd (show (i : Int) ∈ choiceP l.length b2 0 by rw [show (i : Int) = k from by omega]; exact hk) hni
    · rw [if_neg c] at h3
      exact h3
  have := optU_le _ l hp b2 ho
  omega
/-- What a bidder gains. -/
def gainP (l : List S45) (i : Nat) (v : Int) : Int :=
  if (i : Int) ∈ (searchP (fun _ => true) l).1 then v - ((searchP (fun b => b.f0 != (l.getD i z45).f0) l).2 - (searchP (fun _ => true) l).2 + (l.getD i z45).f1) else 0
theorem gain_le (l : List S45) (hp : ∀ b ∈ l, 1 ≤ b.f1) (i : Nat) (hi : i < l.length) (hone : ∀ j, j < l.length → j ≠ i → (l.getD j z45).f0 ≠ (l.getD i z45).f0) (q : Int) (hq : 1 ≤ q) :
    gainP (l.set i ⟨(l.getD i z45).f0, q, (l.getD i z45).f2⟩) i (l.getD i z45).f1 ≤ gainP l i (l.getD i z45).f1 := by
  obtain ⟨x, hx⟩ : ∃ x : S45, x = ⟨(l.getD i z45).f0, q, (l.getD i z45).f2⟩ := ⟨_, rfl⟩
  have hx0 : x.f0 = (l.getD i z45).f0 := by rw [hx]
  have hx2 : x.f2 = (l.getD i z45).f2 := by rw [hx]
  have hx1 : x.f1 = q := by rw [hx]
  rw [← hx]
  have hpi : 1 ≤ (l.getD i z45).f1 := by
    rw [List.getD, List.getElem?_eq_getElem hi]
    exact hp _ (List.getElem_mem hi)
  have hp' : ∀ b ∈ l.set i x, 1 ≤ b.f1 := fun b hb => by
    rcases List.mem_or_eq_of_mem_set hb with h | h
    · exact hp b h
    · subst h; omega
  have hgx : (l.set i x).getD i z45 = x := by rw [set_getD l i hi, if_pos rfl]
  have hWle := without_le l hp i hi x (by omega) hx0 hx2
  have hWge : (searchP (fun b => b.f0 != x.f0) l).2 ≤ (searchP (fun b => b.f0 != x.f0) (l.set i x)).2 := by
    have := without_le (l.set i x) hp' i (by rw [List.length_set]; exact hi) (l.getD i z45) hpi (by rw [hgx, hx0]) (by rw [hgx, hx2])
    rw [← hx0] at this
    have e : (l.set i x).set i (l.getD i z45) = l := by
      rw [List.set_set, List.getD, List.getElem?_eq_getElem hi]
      exact List.set_getElem_self hi
    rw [e] at this
    exact this
  obtain ⟨b1, p1, pw, p2, p3⟩ := optU_at (fun _ => true) (l.set i x) hp'
  obtain ⟨b2, q1, qw, q2, q3⟩ := optU_at (fun _ => true) l hp
  obtain ⟨b3, r1, rw_, r2, r3⟩ := optU_at (fun b => b.f0 != x.f0) l hp
  rw [List.length_set] at p1 pw p2 p3
  have hnn : ∀ (b : Nat), ∀ k ∈ choiceP l.length b 0, 0 ≤ k ∧ k < l.length := fun b k hk => by have := choice_ge l.length b 0 k hk; omega
  -- WHAT WINS AT ANOTHER PRICE IS WORTH AS MUCH AT THE TRUE ONE, BUT FOR THE PRICE
  have F1 := optU_le (fun _ => true) l hp b1 (by rw [okS_congr l (l.set i x) _ [] (fun a _ b _ => cf_set l i hi x hx0 hx2 a b)]; exact p2)
  have v1 := val_set2 l i hi x (choiceP l.length b1 0) (choice_rising _ _ _) (fun k hk => (hnn b1 k hk).1)
  -- WHO DOES NOT WIN IS NOT MISSED
  have F2 : ¬ (i : Int) ∈ (searchP (fun _ => true) l).1 → (searchP (fun _ => true) l).2 ≤ (searchP (fun b => b.f0 != x.f0) l).2 := fun hn => by
    rw [← qw] at hn
    have := optU_le (fun b => b.f0 != x.f0) l hp b2 (by
      rw [okS_split]
      simp only [Bool.and_eq_true, List.all_eq_true]
      refine ⟨q2, fun k hk => ?_⟩
      have hk0 := hnn b2 k hk
      have hne : k.toNat ≠ i := fun e => hn (by rw [show (i : Int) = k from by omega]; exact hk)
      have := hone k.toNat (by omega) hne
      rw [hx0]
      simpa using this)
    omega
  have F3 : (searchP (fun b => b.f0 != x.f0) l).2 ≤ (searchP (fun _ => true) l).2 := by
    have h := r2
    rw [okS_split] at h
    simp only [Bool.and_eq_true] at h
    have := optU_le (fun _ => true) l hp b3 h.1
    omega
  unfold gainP
  rw [hgx, hx1, ← hx0]
  by_cases c1 : (i : Int) ∈ (searchP (fun _ => true) (l.set i x)).1
  · rw [if_pos c1]
    rw [← pw] at c1
    have := v1.1 c1
    by_cases c2 : (i : Int) ∈ (searchP (fun _ => true) l).1
    · rw [if_pos c2]; omega
    · rw [if_neg c2]
      have := F2 c2
      omega
  · rw [if_neg c1]
    by_cases c2 : (i : Int) ∈ (searchP (fun _ => true) l).1
    · rw [if_pos c2]; omega
    · rw [if_neg c2]; omega
end Go.Proofs.Ytecbfpcidoilmaa.H

/- ClearTruthful: the plain statement. -/
namespace Go.Proofs.Ytecbfpcidoilmaa.H
open Go.RowKit Go.Proofs.YtecbfpcidoilmaaW.PrintWords Go.Proofs.YtecbfpcidoilmaaW.PrintLast
set_option linter.unusedVariables false
set_option linter.unusedSimpArgs false
theorem setP_len (l : List S45) (v : Int) : ∀ (w : List Int) (out : List Int), (w.foldl (setP l v) out).length = out.length
  | [], _ => rfl
  | x :: w, out => by rw [List.foldl_cons, setP_len l v w]; simp [setP]
theorem fold_get (l : List S45) (V : Int) (i : Nat) : ∀ (win : List Int) (out : List Int), i < out.length → (∀ k ∈ win, 0 ≤ k) →
    ((i : Int) ∈ win ∨ out.getD i 0 = wrap64 (wrap64 ((searchP (fun b => b.f0 != (l.getD i z45).f0) l).2 - V) + (l.getD i z45).f1)) →
    (win.foldl (setP l V) out).getD i 0 = wrap64 (wrap64 ((searchP (fun b => b.f0 != (l.getD i z45).f0) l).2 - V) + (l.getD i z45).f1)
  | [], out, hi, _, h => by
    rcases h with h | h
    · simp at h
    · exact h
  | k :: s, out, hi, h0, h => by
    have hk := h0 k (by simp)
    rw [List.foldl_cons]
    refine fold_get l V i s _ (by simpa [setP] using hi) (fun a ha => h0 a (by simp [ha])) ?_
    by_cases c : k.toNat = i
    · right
      simp only [setP, c]
      simp [List.getD, hi]
    · have e : (setP l V out k).getD i 0 = out.getD i 0 := by
        simp only [setP, List.getD, List.getElem?_set, if_neg c]
      rw [e]
      rcases h with h | h
      · rcases List.mem_cons.1 h with h | h
        · omega
        · exact .inl h
      · exact .inr h
theorem optU_small (U : S45 → Bool) (l : List S45) (hp : ∀ b ∈ l, 1 ≤ b.f1 ∧ b.f1 ≤ 1000) : 0 ≤ (searchP U l).2 ∧ (searchP U l).2 ≤ l.length * 1000 := by
  rw [search_ext (fun b hb => (hp b hb).1)]
  have h1 := ext_bounds (U := U) (l := l) l 0 [] (fun b hb => (hp b hb).1)
  have h2 : ∀ left : List S45, (∀ b ∈ left, 1 ≤ b.f1 ∧ b.f1 ≤ 1000) → restOf U left ≤ left.length * 1000 := by
    intro left
    induction left with
    | nil => intro _; simp [restOf]
    | cons b left ih =>
      intro h
      have h3 := h b (by simp)
      have h4 := ih (fun x hx => h x (by simp [hx]))
      simp only [restOf, List.length_cons]
      split <;> omega
  have h3 := h2 l hp
  omega
theorem gain_ok (n : Int) (l : List S45) (h1 : 1 ≤ n) (h8 : n ≤ 8) (hl : l.length ≤ 10) (hf : ∀ b ∈ l, Fine n b) (i : Nat) (hi : i < l.length) (v : Int) (hv0 : 0 ≤ v) (hv1 : v ≤ 1000) : Ev (fun k => worldmintlaw28_gain.f k n l (i : Int) v) (gainP l i v) := by
  have hV := fine_valid n l h1 h8 hl hf
  have hp : ∀ b ∈ l, 1 ≤ b.f1 ∧ b.f1 ≤ 1000 := fun b hb => ⟨(hf b hb).2.2.1, (hf b hb).2.2.2.1⟩
  have hs1 := optU_small (fun _ => true) l hp
  have hs2 := optU_small (fun b => b.f0 != (l.getD i z45).f0) l hp
  have hpi : 1 ≤ (l.getD i z45).f1 ∧ (l.getD i z45).f1 ≤ 1000 := by
    rw [List.getD, List.getElem?_eq_getElem hi]
    exact hp _ (List.getElem_mem hi)
  have hr := search_range (fun _ => true) l (fun b hb => (hp b hb).1)
  have hpl : (pricesP n l).1.length = l.length := by
    unfold pricesP
    rw [if_pos hV]
    simp [setP_len]
  have hprice := prices_ok n l
  unfold worldmintlaw28_gain.f
  simp only [bestq_f, Option.bind_some, bestQ, if_pos hV]
  refine Ev.bind hprice ?_
  refine Ev.bind (has_ok (searchP (fun _ => true) l).1 (i : Int) (by omega)) ?_
  unfold gainP
  by_cases c : (i : Int) ∈ (searchP (fun _ => true) l).1
  · have hc : (searchP (fun _ => true) l).1.contains (i : Int) = true := by simpa using c
    have hget := fold_get l (searchP (fun _ => true) l).2 i (searchP (fun _ => true) l).1 (List.replicate l.length 0) (by simpa using hi) (fun k hk => (hr.1 k hk).1) (.inl c)
    have hrd : rd (pricesP n l).1 (i : Int) = (searchP (fun b => b.f0 != (l.getD i z45).f0) l).2 - (searchP (fun _ => true) l).2 + (l.getD i z45).f1 := by
      have e : rd (pricesP n l).1 (i : Int) = ((searchP (fun _ => true) l).1.foldl (setP l (searchP (fun _ => true) l).2) (List.replicate l.length 0)).getD i 0 := by
        unfold pricesP
        rw [if_pos hV]
        rfl
      rw [e, hget, w64 ((searchP (fun b => b.f0 != (l.getD i z45).f0) l).2 - (searchP (fun _ => true) l).2) (by omega) (by omega), w64 _ (by omega) (by omega)]
    simp only [hc, if_true, hpl, if_neg (show ¬ (i : Int) ≥ (l.length : Int) by omega), if_pos (show (0 : Int) ≤ (i : Int) by omega), if_pos (show (i : Int) < (l.length : Int) by omega), hrd, if_pos c]
    rw [w64 _ (by omega) (by omega)]
    exact Ev.some_
  · have hc : (searchP (fun _ => true) l).1.contains (i : Int) = false := by simpa using c
    simp only [hc, Bool.false_eq_true, if_false, if_neg c]
    exact Ev.some_
/-- The bids, while bidders are made apart. -/
structure Apart (n : Int) (l : List S45) (i p : Nat) (l' : List S45) : Prop where
  len : l'.length = l.length
  same : l'.getD i z45 = l.getD i z45
  fine : ∀ b ∈ l', Fine n b ∧ b.f1 ≤ 450
  apart : ∀ j, j < p → j ≠ i → (l'.getD j z45).f0 ≠ (l.getD i z45).f0
theorem truth_l1 (n : Int) (x3 : Int) (l : List S45) (h1 : 1 ≤ n) (h8 : n ≤ 8) (hl : l.length ≤ 10) (i : Nat) (hi : i < l.length) (l' : List S45) (hA : Apart n l i l.length l') :
    ∀ (d c : Nat), 4 - c = d → c ≤ 4 → Ev (fun k => worldmintlaw28_ClearTruthful.l1 k x3 n l' (i : Int) (l'.getD i z45).f1 (gainP l' i (l'.getD i z45).f1) (c : Int)) true := by
  have hmem : l'.getD i z45 ∈ l' := by
    have : i < l'.length := by rw [hA.len]; exact hi
    simp [List.getD, this]
  obtain ⟨⟨g1, g2, g3, g4, g5, g6⟩, g7⟩ := hA.fine _ hmem
  intro d
  induction d with
  | zero =>
    intro c hd hc
    obtain rfl : c = 4 := by omega
    refine Ev.succ ?_
    simp only [worldmintlaw28_ClearTruthful.l1, if_neg (show ¬ ((4 : Nat) : Int) < 4 by omega)]
    exact Ev.bind lives_ok3 Ev.some_
  | succ d ih =>
    intro c hd hc
    have hw : wrap64 ((c : Int) + 1) = ((c + 1 : Nat) : Int) := by rw [w64 _ (by omega) (by omega)]; omega
    obtain ⟨u, hu, hu0, hu1⟩ := around_ok (wrap64 (x3 + wrap64 (17 * (c : Int)))) 40 (wrap64_wf _) (by omega)
    have hw2 : wrap64 (1 + u) = 1 + u := w64 _ (by omega) (by omega)
    have hlen := hA.len
    have hrd : rd_T45 l' (i : Int) = l'.getD i z45 := rfl
    have hg := gain_ok n (l'.set i ⟨(l'.getD i z45).f0, 1 + u, (l'.getD i z45).f2⟩) h1 h8 (by rw [List.length_set]; omega) (fun b hb => by
      rcases List.mem_or_eq_of_mem_set hb with h | h
      · exact (hA.fine b h).1
      · subst h; exact ⟨g1, g2, by show 1 ≤ 1 + u; omega, by show 1 + u ≤ 1000; omega, g5, g6⟩) i (by rw [List.length_set]; omega) (l'.getD i z45).f1 (by omega) (by omega)
    have hle := gain_le l' (fun b hb => (hA.fine b hb).1.2.2.1) i (by omega) (fun j hj hne => by rw [hA.same]; exact hA.apart j (by omega) hne) (1 + u) (by omega)
    refine Ev.succ ?_
    simp only [worldmintlaw28_ClearTruthful.l1, if_pos (show (c : Int) < 4 by omega), Option.bind_some, List.nil_append, List.length_nil, Nat.zero_add, if_pos (show l'.length < 3518437208883 by omega), hu, if_pos (show (0 : Int) ≤ (i : Int) by omega), if_pos (show (i : Int) < (l'.length : Int) by omega), hrd, hw2, Int.toNat_natCast, hw]
    refine Ev.bind hg ?_
    simp only [if_neg (show ¬ gainP (l'.set i ⟨(l'.getD i z45).f0, 1 + u, (l'.getD i z45).f2⟩) i (l'.getD i z45).f1 > gainP l' i (l'.getD i z45).f1 by omega)]
    exact ih (c + 1) (by omega) (by omega)
theorem truth_l0 (n : Int) (x3 : Int) (l : List S45) (h1 : 1 ≤ n) (h8 : n ≤ 8) (hl : l.length ≤ 10) (i : Nat) (hi : i < l.length) (h6 : (l.getD i z45).f0 ≤ 6) :
    ∀ (d p : Nat) (l' : List S45), l.length - p = d → p ≤ l.length → Apart n l i p l' → Ev (fun k => worldmintlaw28_ClearTruthful.l0 k x3 n l' (i : Int) (p : Int)) true := by
  intro d
  induction d with
  | zero =>
    intro p l' hd hp hA
    obtain rfl : p = l.length := by omega
    have hlen := hA.len
    have hrd : rd_T45 l' (i : Int) = l'.getD i z45 := rfl
    have hmem : l'.getD i z45 ∈ l' := by
      have : i < l'.length := by omega
      simp [List.getD, this]
    obtain ⟨⟨g1, g2, g3, g4, g5, g6⟩, g7⟩ := hA.fine _ hmem
    have hg := gain_ok n l' h1 h8 (by omega) (fun b hb => (hA.fine b hb).1) i (by omega) (l'.getD i z45).f1 (by omega) (by omega)
    have hl1 := truth_l1 n x3 l h1 h8 hl i hi l' hA 4 0 rfl (by omega)
    refine Ev.succ ?_
    simp only [worldmintlaw28_ClearTruthful.l0, if_neg (show ¬ (l.length : Int) < (l'.length : Int) by omega), if_pos (show (0 : Int) ≤ (i : Int) by omega), if_pos (show (i : Int) < (l'.length : Int) by omega), hrd]
    refine Ev.bind hg ?_
    exact hl1
  | succ d ih =>
    intro p l' hd hp hA
    have hlen := hA.len
    have hw : wrap64 ((p : Int) + 1) = ((p + 1 : Nat) : Int) := by rw [w64 _ (by omega) (by omega)]; omega
    have hw2 : wrap64 (100 + (p : Int)) = 100 + (p : Int) := w64 _ (by omega) (by omega)
    have hrd : rd_T45 l' (i : Int) = l'.getD i z45 := rfl
    have hrp : rd_T45 l' (p : Int) = l'.getD p z45 := rfl
    refine Ev.succ ?_
    simp only [worldmintlaw28_ClearTruthful.l0, if_pos (show (p : Int) < (l'.length : Int) by omega), hw, hw2, hrd, hrp, if_pos (show (0 : Int) ≤ (p : Int) by omega), if_pos (show (0 : Int) ≤ (i : Int) by omega), if_pos (show (i : Int) < (l'.length : Int) by omega), Int.toNat_natCast]
    by_cases c : (p : Int) = (i : Int)
    · simp only [if_pos c]
      exact ih (p + 1) l' (by omega) (by omega) ⟨hA.len, hA.same, hA.fine, fun j hj hne => hA.apart j (by omega) hne⟩
    · simp only [if_neg c]
      by_cases c2 : (l'.getD p z45).f0 = (l'.getD i z45).f0
      · simp only [if_pos c2]
        have hmem : l'.getD p z45 ∈ l' := by
          have : p < l'.length := by omega
          simp [List.getD, this]
        obtain ⟨⟨g1, g2, g3, g4, g5, g6⟩, g7⟩ := hA.fine _ hmem
        refine ih (p + 1) _ (by omega) (by omega) ⟨by rw [List.length_set]; exact hA.len, ?_, fun b hb => ?_, fun j hj hne => ?_⟩
        · rw [set_getD l' p (by omega), if_neg (by omega)]
          exact hA.same
        · rcases List.mem_or_eq_of_mem_set hb with h | h
          · exact hA.fine b h
          · subst h; exact ⟨⟨by show 1 ≤ 100 + (p : Int); omega, by show 100 + (p : Int) ≤ _; omega, g3, g4, g5, g6⟩, g7⟩
        · rw [set_getD l' p (by omega)]
          by_cases c3 : p = j
          · rw [if_pos c3]
            show 100 + (p : Int) ≠ _
            omega
          · rw [if_neg c3]
            exact hA.apart j (by omega) hne
      · simp only [if_neg c2]
        refine ih (p + 1) l' (by omega) (by omega) ⟨hA.len, hA.same, hA.fine, fun j hj hne => ?_⟩
        by_cases c3 : j = p
        · subst c3
          rw [← hA.same]
          exact c2
        · exact hA.apart j (by omega) hne
theorem ClearTruthful_pure : worldmintlaw28_ClearTruthful.Pure := by
  intro a0 l1 a2 a3 w0 _ _ w1 w2 w3
  obtain ⟨t, ht, ht0, ht1⟩ := lots_ok a0 w0
  obtain ⟨L, hL, hLl, hLg⟩ := bids_ok t l1 w1 7 ht0 ht1 (by omega) (by omega)
  have hfine : ∀ b ∈ L.map cv, (Fine t b ∧ b.f1 ≤ 450) ∧ b.f0 ≤ 6 := fun b hb => by
    obtain ⟨y, hy, rfl⟩ := List.mem_map.1 hb
    obtain ⟨g1, g2, g3, g4, g5, g6, g7⟩ := hLg y hy
    exact ⟨⟨⟨g1, by show y.f0 ≤ _; omega, g3, by show y.f1 ≤ _; omega, g5, g6⟩, g4⟩, g2⟩
  have hgiven := given_ok L (by omega)
  have hlen : (L.map cv).length = L.length := List.length_map ..
  generalize L.map cv = l at *
  refine Ev.ex ?_
  unfold worldmintlaw28_ClearTruthful.f
  simp only [ht, Option.bind_some]
  refine Ev.bind hL ?_
  refine Ev.bind hgiven ?_
  by_cases h0 : (l.length : Int) = 0
  · simp only [if_pos h0]
    exact Ev.bind lives_ok3 Ev.some_
  · obtain ⟨u, hu, hu0, hu1⟩ := around_ok a2 l.length w2 (by omega)
    obtain ⟨i, rfl⟩ : ∃ i : Nat, u = (i : Int) := ⟨u.toNat, by omega⟩
    have hi : i < l.length := by omega
    have hmem : l.getD i z45 ∈ l := by simp [List.getD, hi]
    simp only [if_neg h0, hu, Option.bind_some]
    exact truth_l0 t a3 l ht0 ht1 (by omega) i hi (hfine _ hmem).2 l.length 0 l (by omega) (by omega) ⟨rfl, rfl, fun b hb => (hfine b hb).1, fun j hj => by omega⟩
end Go.Proofs.Ytecbfpcidoilmaa.H
namespace Go.Proofs.Ytecbfpcidoilmaa.Pure
theorem ClearTruthful : H.worldmintlaw28_ClearTruthful.Pure := H.ClearTruthful_pure
end Go.Proofs.Ytecbfpcidoilmaa.Pure
