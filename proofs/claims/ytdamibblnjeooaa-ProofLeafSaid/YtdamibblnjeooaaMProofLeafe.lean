/- Texts of this claim, one behind the other. -/
import Derived.Test.YtdamibblnjeooaaMProofLeafd
import Derived.Test.YtdamibblnjeooaaMProofLeafb
import Derived.Test.YtdamibblnjeooaaMProofLeafc

/- What a printed function computes with rounds enough: its laws; the generators of the reference. -/
namespace Go.Proofs.Ytdamibblnjeooaa.H
open Go.RowKit Go.Proofs.YtdamibblnjeooaaW.PrintWords Go.Proofs.YtdamibblnjeooaaW.PrintLast
set_option linter.unusedVariables false
set_option linter.unusedSimpArgs false
/-- With rounds enough, f tells a. -/
def Ev {α : Type} (f : Nat → Option α) (a : α) : Prop := ∃ K, ∀ k, K ≤ k → f k = some a
section
variable {α β : Type} {f : Nat → Option α} {a : α}
theorem Ev.succ (h : Ev (fun k => f (k + 1)) a) : Ev f a := by
  obtain ⟨K, h⟩ := h
  refine ⟨K + 1, fun k hk => ?_⟩
  obtain ⟨j, rfl⟩ : ∃ j, k = j + 1 := ⟨k - 1, by omega⟩
  exact h j (by omega)
theorem Ev.bind {g : Nat → α → Option β} {b : β} (hf : Ev f a) (hg : Ev (fun k => g k a) b) : Ev (fun k => (f k).bind (g k)) b := by
  obtain ⟨K, h⟩ := hf
  obtain ⟨K2, h2⟩ := hg
  exact ⟨max K K2, fun k hk => by
    show (f k).bind (g k) = some b
    rw [h k (by omega)]
    exact h2 k (by omega)⟩
theorem Ev.some_ : Ev (fun _ => some a) a := ⟨0, fun _ _ => rfl⟩
theorem Ev.ex (h : Ev f a) : ∃ k, f k = some a := by
  obtain ⟨K, h⟩ := h
  exact ⟨K, h K (Nat.le_refl _)⟩
end
theorem wf_bounds (n : Int) (h : (Lit.int .i64 n).wf = true) : -9223372036854775808 ≤ n ∧ n ≤ 9223372036854775807 := by
  simpa [Lit.wf, IntKind.min, IntKind.max, IntKind.signed, IntKind.bits] using h
theorem w64 (x : Int) (h0 : -9223372036854775808 ≤ x) (h1 : x ≤ 9223372036854775807) : wrap64 x = x := by
  unfold wrap64
  omega
theorem around_ok (n most : Int) (hn : (Lit.int .i64 n).wf = true) (hm : 0 < most) : ∃ r, worldmintref01_Around.f n most = some r ∧ 0 ≤ r ∧ r < most := by
  have hb := wf_bounds n hn
  unfold worldmintref01_Around.f
  by_cases h : n < 0
  · rw [if_pos h, if_neg (by omega), w64 (n + 1) (by omega) (by omega), w64 (-(n + 1)) (by omega) (by omega)]
    exact ⟨_, rfl, Int.tmod_nonneg _ (by omega), Int.tmod_lt_of_pos _ hm⟩
  · rw [if_neg h, if_neg (by omega)]
    exact ⟨_, rfl, Int.tmod_nonneg _ (by omega), Int.tmod_lt_of_pos _ hm⟩
theorem lots_ok (n : Int) (hn : (Lit.int .i64 n).wf = true) : ∃ r, worldmintref27_Lots.f n = some r ∧ 1 ≤ r ∧ r ≤ 8 := by
  obtain ⟨r, h, h0, h1⟩ := around_ok n 8 hn (by omega)
  unfold worldmintref27_Lots.f
  rw [h, Option.bind_some, w64 _ (by omega) (by omega)]
  exact ⟨_, rfl, by omega, by omega⟩
theorem pick_ok (l : List Int) (i most : Int) (hl : ∀ x ∈ l, (Lit.int .i64 x).wf = true) (hm : 0 < most) : ∃ r, worldmintref01_Pick.f l i most = some r ∧ 0 ≤ r ∧ r < most := by
  unfold worldmintref01_Pick.f
  by_cases h : i < 0
  · rw [if_pos h]; exact ⟨0, rfl, by omega, hm⟩
  · rw [if_neg h]
    by_cases h2 : i ≥ (l.length : Int)
    · rw [if_pos h2]; exact ⟨0, rfl, by omega, hm⟩
    · rw [if_neg h2, if_pos (by omega), if_pos (by omega)]
      have hm2 : rd l i ∈ l := by
        have : i.toNat < l.length := by omega
        simp [rd, List.getD, this]
      obtain ⟨r, h3, h4, h5⟩ := around_ok (rd l i) most (hl _ hm2) hm
      exact ⟨r, by rw [h3]; rfl, h4, h5⟩
/-- A bid as the reference draws it. -/
def GoodBid (n : Int) (b : S85) : Prop := 1 ≤ b.f0 ∧ b.f0 ≤ 6 ∧ 1 ≤ b.f1 ∧ b.f1 ≤ 450 ∧ b.f2.length ≠ 0 ∧ lotsOk n (-1) b.f2 = true ∧ b.f2.length ≤ 8
theorem lotsOk_snoc (n j : Int) (hj : j < n) : ∀ (ks : List Int) (last : Int), lotsOk n last ks = true → (∀ k ∈ ks, k < j) → last < j → lotsOk n last (ks ++ [j]) = true
  | [], last, _, _, h => by
    simp only [List.nil_append, lotsOk]
    simp [hj, h]
  | k :: ks, last, h, hk, _ => by
    simp only [List.cons_append, lotsOk] at h ⊢
    split at h
    · simp at h
    · rename_i hc
      rw [if_neg hc]
      exact lotsOk_snoc n j hj ks k h (fun x hx => hk x (by simp [hx])) (hk k (by simp))
set_option maxHeartbeats 1000000 in
theorem bids_l1 (n : Int) (l : List Int) (most : Int) (x7 : List S85) (x8 f0 f1 : Int) (hn1 : 1 ≤ n) (hn8 : n ≤ 8) (hx7 : x7.length < 3518437208883) (L : List S85)
    (hnext : ∀ ks : List Int, ks.length ≠ 0 → lotsOk n (-1) ks = true → ks.length ≤ 8 → ∃ L, Ev (fun k => worldmintref27_Bids.l0 k n l most (x7 ++ [⟨f0, f1, ks⟩]) (wrap64 (x8 + 1))) L ∧ (L.length : Int) ≤ most ∧ ∀ b ∈ L, GoodBid n b) :
    ∀ (d : Nat) (j : Int) (bs : Int) (ks : List Int), (n - j).toNat = d → 0 ≤ j → j ≤ n → lotsOk n (-1) ks = true → (∀ k ∈ ks, k < j) → (ks.length : Int) ≤ j → (j = n → ks.length ≠ 0) →
    ∃ L, Ev (fun k => worldmintref27_Bids.l1 k n l most x7 x8 bs j f0 f1 ks) L ∧ (L.length : Int) ≤ most ∧ ∀ b ∈ L, GoodBid n b
  | 0, j, bs, ks, hd, h0, hjn, hk, hkj, hkl, hne => by
    obtain ⟨L, h1, h2⟩ := hnext ks (hne (by omega)) hk (by omega)
    refine ⟨L, Ev.succ ?_, h2⟩
    simp only [worldmintref27_Bids.l1]
    simp only [if_neg (show ¬ j < n by omega), if_pos hx7]
    exact h1
  | d + 1, j, bs, ks, hd, h0, hjn, hk, hkj, hkl, hne => by
    have hw : wrap64 (j + 1) = j + 1 := w64 _ (by omega) (by omega)
    have hw2 : wrap64 (n - 1) = n - 1 := w64 _ (by omega) (by omega)
    have happ := fun bs' => bids_l1 n l most x7 x8 f0 f1 hn1 hn8 hx7 L hnext d (j + 1) bs' (ks ++ [j]) (by omega) (by omega) (by omega) (lotsOk_snoc n j (by omega) ks (-1) hk hkj (by omega)) (fun k hk' => by
      rcases List.mem_append.1 hk' with h | h
      · have := hkj k h; omega
      · simp at h; omega) (by simp; omega) (fun _ => by simp)
    have hnot := fun bs' (hh : j + 1 = n → ks.length ≠ 0) => bids_l1 n l most x7 x8 f0 f1 hn1 hn8 hx7 L hnext d (j + 1) bs' ks (by omega) (by omega) (by omega) hk (fun k hk' => by have := hkj k hk'; omega) (by omega) hh
    by_cases c1 : Int.tmod bs 2 = 1
    · obtain ⟨L, h1, h2⟩ := happ (wrap64 (Int.tdiv bs 2))
      refine ⟨L, Ev.succ ?_, h2⟩
      simp only [worldmintref27_Bids.l1]
      simp only [if_pos (show j < n by omega), if_pos c1, if_pos (show ks.length < 17592186044416 by omega), hw]
      exact h1
    · by_cases c2 : j = n - 1
      · by_cases c3 : (ks.length : Int) = 0
        · obtain ⟨L, h1, h2⟩ := happ (wrap64 (Int.tdiv bs 2))
          refine ⟨L, Ev.succ ?_, h2⟩
          simp only [worldmintref27_Bids.l1]
          simp only [if_pos (show j < n by omega), if_neg c1, hw2, if_pos c2, if_pos c3, if_pos (show ks.length < 17592186044416 by omega), hw]
          exact h1
        · obtain ⟨L, h1, h2⟩ := hnot (wrap64 (Int.tdiv bs 2)) (fun _ => by omega)
          refine ⟨L, Ev.succ ?_, h2⟩
          simp only [worldmintref27_Bids.l1]
          simp only [if_pos (show j < n by omega), if_neg c1, hw2, if_pos c2, if_neg c3, hw]
          exact h1
      · obtain ⟨L, h1, h2⟩ := hnot (wrap64 (Int.tdiv bs 2)) (fun _ => by omega)
        refine ⟨L, Ev.succ ?_, h2⟩
        simp only [worldmintref27_Bids.l1]
        simp only [if_pos (show j < n by omega), if_neg c1, hw2, if_neg c2, hw]
        exact h1
set_option maxHeartbeats 1000000 in
theorem bids_l0 (n : Int) (l : List Int) (hl : ∀ x ∈ l, (Lit.int .i64 x).wf = true) (most : Int) (hn1 : 1 ≤ n) (hn8 : n ≤ 8) (hm0 : 0 ≤ most) (hm1 : most ≤ 1000) :
    ∀ (d : Nat) (x7 : List S85), (most - x7.length).toNat = d → (x7.length : Int) ≤ most → (∀ b ∈ x7, GoodBid n b) →
    ∃ L, Ev (fun k => worldmintref27_Bids.l0 k n l most x7 x7.length) L ∧ (L.length : Int) ≤ most ∧ ∀ b ∈ L, GoodBid n b := by
  intro d
  induction d with
  | zero =>
    intro x7 hd hx hb
    obtain ⟨r, hr, hr0, hr1⟩ := pick_ok l 0 (most + 1) hl (by omega)
    refine ⟨x7, Ev.succ ?_, hx, hb⟩
    simp only [worldmintref27_Bids.l0, w64 (most + 1) (by omega) (by omega), hr, Option.bind_some]
    simp only [if_neg (show ¬ (x7.length : Int) < r by omega)]
    exact Ev.some_
  | succ d ih =>
    intro x7 hd hx hb
    obtain ⟨r, hr, hr0, hr1⟩ := pick_ok l 0 (most + 1) hl (by omega)
    by_cases hlt : (x7.length : Int) < r
    · obtain ⟨t, ht, ht0, ht1⟩ := pick_ok l (wrap64 (1 + wrap64 (3 * (x7.length : Int)))) 1000000 hl (by omega)
      obtain ⟨u, hu, hu0, hu1⟩ := pick_ok l (wrap64 (2 + wrap64 (3 * (x7.length : Int)))) 255 hl (by omega)
      obtain ⟨v, hv, hv0, hv1⟩ := pick_ok l (wrap64 (3 + wrap64 (3 * (x7.length : Int)))) 255 hl (by omega)
      have e0 : 0 ≤ Int.tmod t 6 ∧ Int.tmod t 6 < 6 := ⟨Int.tmod_nonneg _ ht0, Int.tmod_lt_of_pos _ (by omega)⟩
      have hq : 0 ≤ Int.tdiv t 6 ∧ Int.tdiv t 6 ≤ t := ⟨Int.tdiv_nonneg ht0 (by omega), Int.tdiv_le_self _ ht0⟩
      have hq2 : 0 ≤ Int.tdiv t 216 ∧ Int.tdiv t 216 ≤ t := ⟨Int.tdiv_nonneg ht0 (by omega), Int.tdiv_le_self _ ht0⟩
      have hw1 : wrap64 (Int.tdiv t 6) = Int.tdiv t 6 := w64 _ (by omega) (by omega)
      have hw2 : wrap64 (Int.tdiv t 216) = Int.tdiv t 216 := w64 _ (by omega) (by omega)
      have e1 : 0 ≤ Int.tmod (Int.tdiv t 6) 9 ∧ Int.tmod (Int.tdiv t 6) 9 < 9 := ⟨Int.tmod_nonneg _ hq.1, Int.tmod_lt_of_pos _ (by omega)⟩
      have e2 : 0 ≤ Int.tmod (Int.tdiv t 216) 50 ∧ Int.tmod (Int.tdiv t 216) 50 < 50 := ⟨Int.tmod_nonneg _ hq2.1, Int.tmod_lt_of_pos _ (by omega)⟩
      have g0 : wrap64 (1 + Int.tmod t 6) = 1 + Int.tmod t 6 := w64 _ (by omega) (by omega)
      have g1 : wrap64 (1 + Int.tmod (Int.tdiv t 6) 9) = 1 + Int.tmod (Int.tdiv t 6) 9 := w64 _ (by omega) (by omega)
      have g2 : wrap64 (1 + Int.tmod (Int.tdiv t 216) 50) = 1 + Int.tmod (Int.tdiv t 216) 50 := w64 _ (by omega) (by omega)
      have hpr : ∀ a b : Int, 1 ≤ a → a ≤ 9 → 1 ≤ b → b ≤ 50 → 1 ≤ a * b ∧ a * b ≤ 450 := fun a b a1 a2 b1 b2 => by
        have h1 : 1 * 1 ≤ a * b := Int.mul_le_mul a1 b1 (by omega) (by omega)
        have h2 : a * b ≤ 9 * 50 := Int.mul_le_mul a2 b2 (by omega) (by omega)
        omega
      have hp := hpr (1 + Int.tmod (Int.tdiv t 6) 9) (1 + Int.tmod (Int.tdiv t 216) 50) (by omega) (by omega) (by omega) (by omega)
      have g3 : wrap64 ((1 + Int.tmod (Int.tdiv t 6) 9) * (1 + Int.tmod (Int.tdiv t 216) 50)) = (1 + Int.tmod (Int.tdiv t 6) 9) * (1 + Int.tmod (Int.tdiv t 216) 50) := w64 _ (by omega) (by omega)
      have hstep : ∀ p : Int, 1 ≤ p → p ≤ 450 → ∃ L, Ev (fun k => worldmintref27_Bids.j1 k n l most x7 (x7.length : Int) (1 + Int.tmod t 6) p) L ∧ (L.length : Int) ≤ most ∧ ∀ b ∈ L, GoodBid n b := fun p hp1 hp2 => by
        obtain ⟨L, h1, h2⟩ := bids_l1 n l most x7 (x7.length : Int) (1 + Int.tmod t 6) p hn1 hn8 (by omega) [] (fun ks hk0 hk1 hk2 => by
          obtain ⟨L, h1, h2⟩ := ih (x7 ++ [⟨1 + Int.tmod t 6, p, ks⟩]) (by simp; omega) (by simp; omega) (fun b hb' => by
            rcases List.mem_append.1 hb' with h | h
            · exact hb b h
            · rw [List.mem_singleton] at h; subst h; exact ⟨by show 1 ≤ 1 + _; omega, by show 1 + _ ≤ 6; omega, hp1, hp2, hk0, hk1, hk2⟩)
          refine ⟨L, ?_, h2⟩
          rw [w64 _ (by omega) (by omega)]
          simpa using h1) n.toNat 0 (Go.bits .and .i64 u (Go.bits .or .i64 v 17)) [] (by omega) (by omega) (by omega) rfl (by simp) (by simp) (by omega)
        refine ⟨L, Ev.succ ?_, h2⟩
        simp only [worldmintref27_Bids.j1, hu, hv, Option.bind_some]
        exact h1
      by_cases c : Int.tmod (wrap64 (Int.tdiv t 54)) 4 = 0
      · obtain ⟨L, h1, h2⟩ := hstep _ hp.1 hp.2
        refine ⟨L, Ev.succ ?_, h2⟩
        simp only [worldmintref27_Bids.l0, w64 (most + 1) (by omega) (by omega), hr, ht, Option.bind_some, if_pos hlt, if_pos c, hw1, hw2, g0, g1, g2, g3]
        exact h1
      · obtain ⟨L, h1, h2⟩ := hstep (1 + Int.tmod (Int.tdiv t 6) 9) (by omega) (by omega)
        refine ⟨L, Ev.succ ?_, h2⟩
        simp only [worldmintref27_Bids.l0, w64 (most + 1) (by omega) (by omega), hr, ht, Option.bind_some, if_pos hlt, if_neg c, hw1, g0, g1]
        exact h1
    · refine ⟨x7, Ev.succ ?_, hx, hb⟩
      simp only [worldmintref27_Bids.l0, w64 (most + 1) (by omega) (by omega), hr, Option.bind_some]
      simp only [if_neg hlt]
      exact Ev.some_
theorem bids_ok (n : Int) (l : List Int) (hl : ∀ x ∈ l, (Lit.int .i64 x).wf = true) (most : Int) (hn1 : 1 ≤ n) (hn8 : n ≤ 8) (hm0 : 0 ≤ most) (hm1 : most ≤ 1000) :
    ∃ L, Ev (fun k => worldmintref27_Bids.f k n l most) L ∧ (L.length : Int) ≤ most ∧ ∀ b ∈ L, GoodBid n b := by
  have := bids_l0 n l hl most hn1 hn8 hm0 hm1 _ [] rfl (by simpa using hm0) (by simp)
  simpa [worldmintref27_Bids.f] using this
end Go.Proofs.Ytdamibblnjeooaa.H

/- The search's answer: the best choice, and of equals the least. Plain. -/
namespace Go.Proofs.Ytdamibblnjeooaa.H
open Go.RowKit
set_option linter.unusedVariables false
set_option linter.unusedSimpArgs false
/-- Do places a and b conflict? -/
def cf (l : List S82) (a b : Int) : Bool := conf (l.getD a.toNat z82) (l.getD b.toNat z82)
/-- The places from i on, n of them, whose bit is set. -/
def choiceP : Nat → Nat → Nat → List Int
  | 0, _, _ => []
  | n + 1, bits, i => if bits % 2 = 1 then (i : Int) :: choiceP n (bits / 2) (i + 1) else choiceP n (bits / 2) (i + 1)
/-- Places that go with those taken, and among each other. -/
def okS (U : S82 → Bool) (l : List S82) : List Int → List Int → Bool
  | _, [] => true
  | win, k :: s => U (l.getD k.toNat z82) && !(win.any fun w => cf l w k) && okS U l (win ++ [k]) s
def valP (l : List S82) (s : List Int) : Int := (s.map fun k => (l.getD k.toNat z82).f1).sum
def lessP : List Int → List Int → Bool
  | [], [] => false
  | [], _ :: _ => true
  | _ :: _, [] => false
  | a :: s, b :: t => if a = b then lessP s t else decide (a < b)
/-- The best extension. -/
def ext (U : S82 → Bool) (l : List S82) : List S82 → Nat → List Int → List Int × Int
  | [], _, _ => ([], 0)
  | b :: left, i, win =>
    if U b && !(win.any fun w => conf (l.getD w.toNat z82) b) then
      if (ext U l left (i + 1) (win ++ [(i : Int)])).2 + b.f1 < (ext U l left (i + 1) win).2 then ext U l left (i + 1) win
      else ((i : Int) :: (ext U l left (i + 1) (win ++ [(i : Int)])).1, (ext U l left (i + 1) (win ++ [(i : Int)])).2 + b.f1)
    else ext U l left (i + 1) win
section
variable {U : S82 → Bool} {l : List S82}
theorem ext_bounds : ∀ (left : List S82) (i : Nat) (win : List Int), (∀ b ∈ left, 1 ≤ b.f1) → 0 ≤ (ext U l left i win).2 ∧ (ext U l left i win).2 ≤ restOf U left
  | [], _, _, _ => by simp [ext, restOf]
  | b :: left, i, win, h => by
    have hb := h b (by simp)
    have h1 := ext_bounds left (i + 1) win (fun x hx => h x (by simp [hx]))
    have h2 := ext_bounds left (i + 1) (win ++ [(i : Int)]) (fun x hx => h x (by simp [hx]))
    unfold ext restOf
    cases hU : U b
    · simp only [Bool.false_and, Bool.false_eq_true, if_false]; omega
    · simp only [Bool.true_and, if_true]
      split
      · split
        · constructor <;> omega
        · constructor <;> (simp only; omega)
      · constructor <;> omega
theorem try_ext : ∀ (left : List S82) (i : Nat) (value : Int) (win : List Int) (best : Int) (out : List Int) (val : Int), (∀ b ∈ left, 1 ≤ b.f1) →
    tryP U l left i value win (best, out, val) = if best < value + (ext U l left i win).2 then (value + (ext U l left i win).2, win ++ (ext U l left i win).1, value + (ext U l left i win).2) else (best, out, val)
  | [], i, value, win, best, out, val, _ => by
    simp only [tryP, ext, Int.add_zero, List.append_nil]
    by_cases h : value ≤ best
    · rw [if_pos h, if_neg (by omega)]
    · rw [if_neg h, if_pos (by omega)]
  | b :: left, i, value, win, best, out, val, h => by
    have hl : ∀ x ∈ left, 1 ≤ x.f1 := fun x hx => h x (by simp [hx])
    have hb := h b (by simp)
    have hbd := ext_bounds (U := U) (l := l) (b :: left) i win h
    simp only [tryP]
    by_cases hp : value + restOf U (b :: left) ≤ best
    · rw [if_pos hp, if_neg (by omega)]
    · rw [if_neg hp]
      have ht := try_ext left (i + 1) (value + b.f1) (win ++ [(i : Int)]) best out val hl
      have hs := fun B O V => try_ext left (i + 1) value win B O V hl
      unfold ext
      by_cases hc : (U b && !(win.any fun w => conf (l.getD w.toNat z82) b)) = true
      · rw [if_pos hc, if_pos hc, ht]
        generalize ext U l left (i + 1) (win ++ [(i : Int)]) = T at *
        generalize ext U l left (i + 1) win = S at *
        by_cases h1 : best < value + b.f1 + T.2
        · rw [if_pos h1, hs]
          by_cases h2 : T.2 + b.f1 < S.2
          · rw [if_pos h2, if_pos (by omega), if_pos (by omega)]
          · rw [if_neg h2, if_neg (by omega)]
            simp only
            rw [if_pos (by omega)]
            rw [show value + b.f1 + T.2 = value + (T.2 + b.f1) from by omega]
            simp
        · rw [if_neg h1, hs]
          by_cases h2 : T.2 + b.f1 < S.2
          · rw [if_pos h2]
          · rw [if_neg h2, if_neg (by omega)]
            simp only
            rw [if_neg (by omega)]
      · rw [if_neg hc, if_neg hc, hs]
theorem search_ext (h : ∀ b ∈ l, 1 ≤ b.f1) : searchP U l = ext U l l 0 [] := by
  have hb := ext_bounds (U := U) (l := l) l 0 [] h
  unfold searchP
  rw [try_ext l 0 0 [] (-1) [] 0 h, if_pos (by omega)]
  simp
theorem choice_ge : ∀ (n bits i : Nat), ∀ k ∈ choiceP n bits i, (i : Int) ≤ k ∧ k < (i : Int) + n
  | 0, _, _ => by simp [choiceP]
  | n + 1, bits, i => by
    intro k hk
    have ih := choice_ge n (bits / 2) (i + 1)
    unfold choiceP at hk
    split at hk
    · rcases List.mem_cons.1 hk with rfl | hk
      · constructor <;> omega
      · have := ih k hk; constructor <;> omega
    · have := ih k hk; constructor <;> omega
theorem drop_getD (i : Nat) (b : S82) (left : List S82) (h : l.drop i = b :: left) : l.getD (i : Int).toNat z82 = b ∧ l.drop (i + 1) = left := by
  have h1 : l[i]? = some b := by
    have := congrArg (fun t => t[0]?) h
    simpa using this
  refine ⟨by simp [List.getD, h1], ?_⟩
  have := congrArg List.tail h
  simpa using this
theorem ext_valid : ∀ (left : List S82) (i : Nat) (win : List Int), l.drop i = left →
    okS U l win (ext U l left i win).1 = true ∧ valP l (ext U l left i win).1 = (ext U l left i win).2 ∧ ∃ bits, bits < 2 ^ left.length ∧ choiceP left.length bits i = (ext U l left i win).1
  | [], i, win, _ => ⟨by simp [ext, okS], by simp [ext, valP], 0, by simp, by simp [ext, choiceP]⟩
  | b :: left, i, win, h => by
    obtain ⟨hg, hd⟩ := drop_getD i b left h
    obtain ⟨s1, s2, sb, s3, s4⟩ := ext_valid left (i + 1) win hd
    obtain ⟨t1, t2, tb, t3, t4⟩ := ext_valid left (i + 1) (win ++ [(i : Int)]) hd
    have hskip : okS U l win (ext U l left (i + 1) win).1 = true ∧ valP l (ext U l left (i + 1) win).1 = (ext U l left (i + 1) win).2 ∧ ∃ bits, bits < 2 ^ (b :: left).length ∧ choiceP (b :: left).length bits i = (ext U l left (i + 1) win).1 := by
      refine ⟨s1, s2, 2 * sb, by simp only [List.length_cons, Nat.pow_succ]; omega, ?_⟩
      simp only [List.length_cons, choiceP]
      rw [if_neg (by omega), show 2 * sb / 2 = sb from by omega, s4]
    unfold ext
    by_cases hc : (U b && !(win.any fun w => conf (l.getD w.toNat z82) b)) = true
    · rw [if_pos hc]
      split
      · exact hskip
      · refine ⟨?_, ?_, 2 * tb + 1, by simp only [List.length_cons, Nat.pow_succ]; omega, ?_⟩
        · simp only [okS, cf, hg, t1, Bool.and_true]
          exact hc
        · simp only [valP, List.map_cons, List.sum_cons, hg] at t2 ⊢
          omega
        · simp only [List.length_cons, choiceP]
          rw [if_pos (by omega), show (2 * tb + 1) / 2 = tb from by omega, t4]
    · rw [if_neg hc]
      exact hskip
theorem ext_best : ∀ (left : List S82) (i : Nat) (win : List Int), l.drop i = left → (∀ b ∈ left, 1 ≤ b.f1) → ∀ bits, okS U l win (choiceP left.length bits i) = true →
    valP l (choiceP left.length bits i) ≤ (ext U l left i win).2 ∧ (valP l (choiceP left.length bits i) = (ext U l left i win).2 → choiceP left.length bits i = (ext U l left i win).1 ∨ lessP (ext U l left i win).1 (choiceP left.length bits i) = true)
  | [], i, win, _, _, bits, _ => ⟨by simp [choiceP, ext, valP], fun _ => .inl (by simp [choiceP, ext])⟩
  | b :: left, i, win, h, hp, bits, hok => by
    obtain ⟨hg, hd⟩ := drop_getD i b left h
    have hb := hp b (by simp)
    have hl : ∀ x ∈ left, 1 ≤ x.f1 := fun x hx => hp x (by simp [hx])
    have hs := ext_best left (i + 1) win hd hl (bits / 2)
    have ht := ext_best left (i + 1) (win ++ [(i : Int)]) hd hl (bits / 2)
    have hge := choice_ge left.length (bits / 2) (i + 1)
    have htb := ext_bounds (U := U) (l := l) left (i + 1) (win ++ [(i : Int)]) hl
    simp only [List.length_cons, choiceP] at hok ⊢
    by_cases hbit : bits % 2 = 1
    · rw [if_pos hbit] at hok ⊢
      simp only [okS, cf, hg, Bool.and_eq_true] at hok
      obtain ⟨⟨hU, hnc⟩, hrest⟩ := hok
      obtain ⟨h1, h2⟩ := ht hrest
      unfold ext
      rw [if_pos (by simp only [Bool.and_eq_true]; exact ⟨hU, hnc⟩)]
      have hv : valP l ((i : Int) :: choiceP left.length (bits / 2) (i + 1)) = b.f1 + valP l (choiceP left.length (bits / 2) (i + 1)) := by
        simp only [valP, List.map_cons, List.sum_cons, hg]
      rw [hv]
      split
      · exact ⟨by omega, fun e => by omega⟩
      · refine ⟨by show _ ≤ (_, _).2; simp only; omega, fun e => ?_⟩
        simp only at e ⊢
        rcases h2 (by omega) with h3 | h3
        · exact .inl (by rw [h3])
        · exact .inr (by simp only [lessP, if_true]; exact h3)
    · rw [if_neg hbit] at hok ⊢
      obtain ⟨h1, h2⟩ := hs hok
      unfold ext
      split
      · split
        · exact ⟨h1, h2⟩
        · refine ⟨by show _ ≤ (_, _).2; simp only; omega, fun e => .inr ?_⟩
          simp only at e ⊢
          cases hc : choiceP left.length (bits / 2) (i + 1) with
          | nil =>
            rw [hc] at e
            simp only [valP, List.map_nil, List.sum_nil] at e
            omega
          | cons k s =>
            have := hge k (by rw [hc]; simp)
            simp only [lessP]
            rw [if_neg (by omega)]
            simp
            omega
      · exact ⟨h1, h2⟩
/-- What the reference keeps: a choice that is the best. -/
theorem best_unique (hp : ∀ b ∈ l, 1 ≤ b.f1) (win : List Int) (value : Int) (b0 : Nat) (h0 : b0 < 2 ^ l.length) (hw : choiceP l.length b0 0 = win) (hok : okS U l [] win = true) (hv : valP l win = value)
    (hall : ∀ b, b < 2 ^ l.length → okS U l [] (choiceP l.length b 0) = true → valP l (choiceP l.length b 0) ≤ value ∧ (valP l (choiceP l.length b 0) = value → lessP (choiceP l.length b 0) win = false)) :
    (win, value) = searchP U l := by
  rw [search_ext hp]
  obtain ⟨e1, e2, be, e3, e4⟩ := ext_valid (U := U) l 0 [] (l := l) rfl
  obtain ⟨h1, h2⟩ := hall be e3 (by rw [e4]; exact e1)
  obtain ⟨h3, h4⟩ := ext_best (U := U) (l := l) l 0 [] rfl hp b0 (by rw [hw]; exact hok)
  rw [e4] at h1 h2
  rw [hw] at h3 h4
  have hvv : value = (ext U l l 0 []).2 := by omega
  have hww : win = (ext U l l 0 []).1 := by
    rcases h4 (by omega) with h5 | h5
    · exact h5
    · rw [h2 (by omega)] at h5
      cases h5
  rw [hvv, hww]
theorem less_irrefl : ∀ s, lessP s s = false
  | [] => rfl
  | a :: s => by simp [lessP, less_irrefl s]
theorem less_trans : ∀ a b c, lessP a b = true → lessP b c = true → lessP a c = true
  | [], [], _, h, _ => by simp [lessP] at h
  | [], _ :: _, [], _, h => by simp [lessP] at h
  | [], _ :: _, _ :: _, _, _ => rfl
  | _ :: _, [], _, h, _ => by simp [lessP] at h
  | _ :: _, _ :: _, [], _, h => by simp [lessP] at h
  | x :: a, y :: b, z :: c, h1, h2 => by
    simp only [lessP] at h1 h2 ⊢
    by_cases e1 : x = y
    · subst e1
      rw [if_pos rfl] at h1
      by_cases e2 : x = z
      · subst e2
        rw [if_pos rfl] at h2 ⊢
        exact less_trans a b c h1 h2
      · rw [if_neg e2] at h2 ⊢
        exact h2
    · rw [if_neg e1] at h1
      simp only [decide_eq_true_eq] at h1
      by_cases e2 : y = z
      · subst e2
        rw [if_neg e1]
        simpa using h1
      · rw [if_neg e2] at h2
        simp only [decide_eq_true_eq] at h2
        rw [if_neg (by omega)]
        simp only [decide_eq_true_eq]
        omega
end
end Go.Proofs.Ytdamibblnjeooaa.H

/- What the reference of bids computes: by the same plain words. -/
namespace Go.Proofs.Ytdamibblnjeooaa.H
open Go.RowKit Go.Proofs.YtdamibblnjeooaaW.PrintWords Go.Proofs.YtdamibblnjeooaaW.PrintLast
set_option linter.unusedVariables false
set_option linter.unusedSimpArgs false
/-- A bid of the reference as a bid of the program. -/
def cv (b : S85) : S82 := ⟨b.f0, b.f1, b.f2⟩
theorem drop_cons {α : Type} (l : List α) (p : Nat) (x : α) (d : List α) (h : l.drop p = x :: d) : l[p]? = some x ∧ l.drop (p + 1) = d ∧ p < l.length := by
  have h1 : l[p]? = some x := by
    have := congrArg (fun t => t[0]?) h
    simpa using this
  refine ⟨h1, ?_, ?_⟩
  · have := congrArg List.tail h
    simpa using this
  · have := congrArg List.length h
    simp at this
    omega
theorem drop_nil {α : Type} (l : List α) (p : Nat) (hp : p ≤ l.length) (h : l.drop p = []) : p = l.length := by
  have := congrArg List.length h
  simp at this
  omega
theorem rdR_at (l : List S85) (i : Nat) (x : S85) (h : l[i]? = some x) : rd_T85 l (i : Int) = x := by
  simp [rd_T85, List.getD, h]
theorem rdR_cv (l : List S85) (i : Int) : cv (rd_T85 l i) = (l.map cv).getD i.toNat z82 := by
  simp only [rd_T85, List.getD, List.getElem?_map]
  cases l[i.toNat]? <;> rfl
/-! ### Valid -/
theorem rvalid_l1 (n : Int) (l : List S85) (i f0 f1 : Int) (ks : List Int) (hk : ks.length ≤ 9223372036854775807) (r : Int) (hr : Ev (fun k => worldmintref27_Valid.l0 k n l (wrap64 (i + 1))) r) :
    ∀ (d : List Int) (p : Nat) (last : Int), ks.drop p = d → p ≤ ks.length → -1 ≤ last → (p = 0 → last = -1) → (∀ q, p = q + 1 → rd ks q = last) →
    Ev (fun k => worldmintref27_Valid.l1 k n l i (p : Int) f0 f1 ks) (if lotsOk n last d then r else 1)
  | [], p, last, hd, hp, hl, hz, hq => by
    have := drop_nil ks p hp hd
    refine Ev.succ ?_
    simp only [worldmintref27_Valid.l1, if_neg (show ¬ (p : Int) < (ks.length : Int) by omega), lotsOk, if_true]
    exact hr
  | x :: d, p, last, hd, hp, hl, hz, hq => by
    obtain ⟨hx, hd', hlt⟩ := drop_cons ks p x d hd
    have ih := fun h0 => rvalid_l1 n l i f0 f1 ks hk r hr d (p + 1) x hd' (by omega) h0 (by omega) (fun q e => by
      have : q = p := by omega
      subst this
      exact rd_at ks q x hx)
    have hw : wrap64 ((p : Int) + 1) = ((p + 1 : Nat) : Int) := by rw [w64 _ (by omega) (by omega)]; omega
    have hF : x ≤ last ∨ n ≤ x → lotsOk n last (x :: d) = false := fun h => by
      simp only [lotsOk]
      rw [if_pos (by simpa using h)]
    have hT : ¬ x ≤ last → ¬ n ≤ x → lotsOk n last (x :: d) = lotsOk n x d := fun h1 h2 => by
      simp only [lotsOk]
      rw [if_neg (by simp; omega)]
    refine Ev.succ ?_
    simp only [worldmintref27_Valid.l1, if_pos (show (p : Int) < (ks.length : Int) by omega), if_pos (show (0 : Int) ≤ (p : Int) by omega), rd_at ks p x hx, hw]
    by_cases c1 : x < 0
    · simp only [if_pos c1]
      rw [hF (by omega)]
      simpa using Ev.some_
    · simp only [if_neg c1]
      by_cases c2 : x ≥ n
      · simp only [if_pos c2]
        rw [hF (by omega)]
        simpa using Ev.some_
      · simp only [if_neg c2]
        cases p with
        | zero =>
          have hl1 := hz rfl
          simp only [if_neg (show ¬ ((0 : Nat) : Int) > 0 by omega)]
          rw [hT (by omega) (by omega)]
          exact ih (by omega)
        | succ q =>
          have hw2 : wrap64 (((q + 1 : Nat) : Int) - 1) = (q : Int) := by rw [w64 _ (by omega) (by omega)]; omega
          simp only [if_pos (show ((q + 1 : Nat) : Int) > 0 by omega), hw2, if_pos (show (0 : Int) ≤ (q : Int) by omega), if_pos (show (q : Int) < (ks.length : Int) by omega), hq q rfl]
          by_cases c3 : x ≤ last
          · simp only [if_pos c3]
            rw [hF (by omega)]
            simpa using Ev.some_
          · simp only [if_neg c3]
            rw [hT (by omega) (by omega)]
            exact ih (by omega)
theorem rvalid_l0 (n : Int) (l : List S85) (hl : l.length ≤ 10) (hb : ∀ b ∈ l, b.f2.length ≤ 9223372036854775807) : ∀ (d : List S85) (p : Nat), l.drop p = d → p ≤ l.length →
    Ev (fun k => worldmintref27_Valid.l0 k n l (p : Int)) (bidsErr n (d.map cv))
  | [], p, hd, hp => by
    have := drop_nil l p hp hd
    refine Ev.succ ?_
    simp only [worldmintref27_Valid.l0, if_neg (show ¬ (p : Int) < (l.length : Int) by omega)]
    exact Ev.some_
  | x :: d, p, hd, hp => by
    obtain ⟨hx, hd', hlt⟩ := drop_cons l p x d hd
    have ih := rvalid_l0 n l hl hb d (p + 1) hd' (by omega)
    have hw : wrap64 ((p : Int) + 1) = ((p + 1 : Nat) : Int) := by rw [w64 _ (by omega) (by omega)]; omega
    have h1 := rvalid_l1 n l p x.f0 x.f1 x.f2 (hb x (List.mem_of_getElem? hx)) _ (by rw [hw]; exact ih) x.f2 0 (-1) rfl (Nat.zero_le _) (by omega) (fun _ => rfl) (fun q e => by omega)
    refine Ev.succ ?_
    simp only [worldmintref27_Valid.l0, if_pos (show (p : Int) < (l.length : Int) by omega), if_pos (show (0 : Int) ≤ (p : Int) by omega), rdR_at l p x hx, List.map_cons, bidsErr, cv]
    have hj : ∀ v : Bool, Ev (fun k => worldmintref27_Valid.j2 k n l (p : Int) v x.f0 x.f1 x.f2) (if v then 1 else if x.f1 < 1 || 1099511627776 < x.f1 then 5 else if x.f2.length == 0 then 1 else if !lotsOk n (-1) x.f2 then 1 else bidsErr n (d.map cv)) := fun v => by
      refine Ev.succ ?_
      cases v
      · have hj3 : ∀ u : Bool, Ev (fun k => worldmintref27_Valid.j3 k n l (p : Int) u x.f0 x.f1 x.f2) (if u then 5 else if x.f2.length == 0 then 1 else if !lotsOk n (-1) x.f2 then 1 else bidsErr n (d.map cv)) := fun u => by
          refine Ev.succ ?_
          cases u
          · simp only [worldmintref27_Valid.j3, Bool.false_eq_true, if_false]
            by_cases c : (x.f2.length : Int) = 0
            · simp only [if_pos c]
              rw [if_pos (by simpa using c)]
              exact Ev.some_
            · simp only [if_neg c]
              rw [if_neg (by simpa using c)]
              cases hk : lotsOk n (-1) x.f2
              · simpa [hk] using h1
              · simpa [hk] using h1
          · simp only [worldmintref27_Valid.j3, if_true]
            exact Ev.some_
        simp only [worldmintref27_Valid.j2, Bool.false_eq_true, if_false]
        by_cases c : x.f1 < 1
        · simp only [if_pos c]
          have := hj3 true
          simpa [c] using this
        · simp only [if_neg c]
          have := hj3 (decide (x.f1 > 1099511627776))
          simpa [c] using this
      · simp only [worldmintref27_Valid.j2, if_true]
        exact Ev.some_
    by_cases c : x.f0 < 1
    · simp only [if_pos c]
      have := hj true
      simpa [c] using this
    · simp only [if_neg c]
      have := hj (decide (x.f0 > 1073741824))
      simpa [c] using this
theorem rvalid_ok (n : Int) (l : List S85) (hb : ∀ b ∈ l, b.f2.length ≤ 9223372036854775807) : Ev (fun k => worldmintref27_Valid.f k n l) (validP n (l.map cv)) := by
  have hj : ∀ v : Bool, Ev (fun k => worldmintref27_Valid.j0 k n l v) (if v then 5 else if 10 < l.length then 4 else bidsErr n (l.map cv)) := fun v => by
    refine Ev.succ ?_
    cases v
    · simp only [worldmintref27_Valid.j0, Bool.false_eq_true, if_false]
      by_cases c : (l.length : Int) > 10
      · simp only [if_pos c]
        rw [if_pos (by omega)]
        exact Ev.some_
      · simp only [if_neg c]
        rw [if_neg (by omega)]
        exact rvalid_l0 n l (by omega) hb l 0 rfl (Nat.zero_le _)
    · simp only [worldmintref27_Valid.j0, if_true]
      exact Ev.some_
  unfold worldmintref27_Valid.f validP
  by_cases c : n < 1
  · simp only [if_pos c]
    have := hj true
    simpa [c] using this
  · simp only [if_neg c]
    have := hj (decide (n > 8))
    simpa [c] using this
/-! ### given -/
theorem given_ok (l : List S85) (hl : l.length < 3518437208883) : Ev (fun k => worldmintlaw29_given.f k l) (l.map cv) := by
  have : ∀ (d : List S85) (p : Nat), l.drop p = d → p ≤ l.length → Ev (fun k => worldmintlaw29_given.l0 k l ((l.take p).map cv) (p : Int)) (l.map cv) := by
    intro d
    induction d with
    | nil =>
      intro p hd hp
      have := drop_nil l p hp hd
      subst this
      refine Ev.succ ?_
      simp only [worldmintlaw29_given.l0, if_neg (show ¬ (l.length : Int) < (l.length : Int) by omega), List.take_length]
      exact Ev.some_
    | cons x d ih =>
      intro p hd hp
      obtain ⟨hx, hd', hlt⟩ := drop_cons l p x d hd
      have hw : wrap64 ((p : Int) + 1) = ((p + 1 : Nat) : Int) := by rw [w64 _ (by omega) (by omega)]; omega
      have h1 := ih (p + 1) hd' (by omega)
      refine Ev.succ ?_
      simp only [worldmintlaw29_given.l0, if_pos (show (p : Int) < (l.length : Int) by omega), if_pos (show (0 : Int) ≤ (p : Int) by omega), rdR_at l p x hx, hw, List.length_map, List.length_take]
      simp only [if_pos (show min p l.length < 3518437208883 by omega)]
      have e : (l.take p).map cv ++ [⟨x.f0, x.f1, x.f2⟩] = (l.take (p + 1)).map cv := by
        have hg : l[p] = x := by
          have := List.getElem?_eq_getElem hlt
          rw [hx] at this
          injection this with this
          exact this.symm
        rw [List.take_succ_eq_append_getElem hlt, List.map_append, hg]
        rfl
      rw [e]
      exact h1
  exact this l 0 rfl (Nat.zero_le _)
/-! ### Conflict, Feasible, Value, Less, Choice -/
theorem has_ok (xs : List Int) (x : Int) (hl : xs.length ≤ 9223372036854775807) : Ev (fun k => worldmintref01_Has.f k xs x) (xs.contains x) := by
  have : ∀ (d : List Int) (p : Nat), xs.drop p = d → p ≤ xs.length → Ev (fun k => worldmintref01_Has.l0 k xs x (p : Int)) (d.contains x) := by
    intro d
    induction d with
    | nil =>
      intro p hd hp
      have := drop_nil xs p hp hd
      refine Ev.succ ?_
      simp only [worldmintref01_Has.l0, if_neg (show ¬ (p : Int) < (xs.length : Int) by omega)]
      exact Ev.some_
    | cons y d ih =>
      intro p hd hp
      obtain ⟨hx, hd', hlt⟩ := drop_cons xs p y d hd
      have hw : wrap64 ((p : Int) + 1) = ((p + 1 : Nat) : Int) := by rw [w64 _ (by omega) (by omega)]; omega
      have h1 := ih (p + 1) hd' (by omega)
      refine Ev.succ ?_
      simp only [worldmintref01_Has.l0, if_pos (show (p : Int) < (xs.length : Int) by omega), if_pos (show (0 : Int) ≤ (p : Int) by omega), rd_at xs p y hx, hw]
      by_cases c : y = x
      · subst c
        simp only [if_true]
        simpa using Ev.some_
      · simp only [if_neg c]
        have e : (y :: d).contains x = d.contains x := by rw [List.contains_cons, beq_false_of_ne (fun e : x = y => c e.symm), Bool.false_or]
        rw [e]
        exact h1
  exact this xs 0 rfl (Nat.zero_le _)
theorem rconf_ok (a0 a1 : Int) (a2 : List Int) (b0 b1 : Int) (b2 : List Int) (ha : a2.length ≤ 9223372036854775807) (hb : b2.length ≤ 9223372036854775807) :
    Ev (fun k => worldmintref27_Conflict.f k a0 a1 a2 b0 b1 b2) (conf ⟨b0, b1, b2⟩ ⟨a0, a1, a2⟩) := by
  have : ∀ (d : List Int) (p : Nat), a2.drop p = d → p ≤ a2.length → Ev (fun k => worldmintref27_Conflict.l0 k (p : Int) a0 a1 a2 b0 b1 b2) (d.any fun k => b2.contains k) := by
    intro d
    induction d with
    | nil =>
      intro p hd hp
      have := drop_nil a2 p hp hd
      refine Ev.succ ?_
      simp only [worldmintref27_Conflict.l0, if_neg (show ¬ (p : Int) < (a2.length : Int) by omega)]
      exact Ev.some_
    | cons y d ih =>
      intro p hd hp
      obtain ⟨hx, hd', hlt⟩ := drop_cons a2 p y d hd
      have hw : wrap64 ((p : Int) + 1) = ((p + 1 : Nat) : Int) := by rw [w64 _ (by omega) (by omega)]; omega
      have h1 := ih (p + 1) hd' (by omega)
      refine Ev.succ ?_
      simp only [worldmintref27_Conflict.l0, if_pos (show (p : Int) < (a2.length : Int) by omega), if_pos (show (0 : Int) ≤ (p : Int) by omega), rd_at a2 p y hx, hw]
      refine Ev.bind (has_ok b2 y hb) ?_
      simp only [List.any_cons]
      cases b2.contains y
      · simpa using h1
      · simpa using Ev.some_
  unfold worldmintref27_Conflict.f conf
  by_cases c : a0 = b0
  · subst c
    simp only [if_true]
    simpa using Ev.some_
  · simp only [if_neg c]
    have e : (b0 == a0) = false := by simpa using fun e : b0 = a0 => c e.symm
    simp only [e, Bool.false_or]
    exact this a2 0 rfl (Nat.zero_le _)
theorem choice_ok (n : Nat) (hn : n ≤ 100) : ∀ (d : Nat) (i : Nat) (bits : Nat) (acc : List Int), n - i = d → i ≤ n → acc.length ≤ i → bits ≤ 9223372036854775807 →
    Ev (fun k => worldmintref27_Choice.l0 k (bits : Int) (n : Int) acc (i : Int)) (acc ++ choiceP d bits i)
  | 0, i, bits, acc, hd, hi, hacc, hb => by
    refine Ev.succ ?_
    simp only [worldmintref27_Choice.l0, if_neg (show ¬ (i : Int) < (n : Int) by omega), choiceP, List.append_nil]
    exact Ev.some_
  | d + 1, i, bits, acc, hd, hi, hacc, hb => by
    have hw : wrap64 ((i : Int) + 1) = ((i + 1 : Nat) : Int) := by rw [w64 _ (by omega) (by omega)]; omega
    have ht : Int.tmod (bits : Int) 2 = ((bits % 2 : Nat) : Int) := by rw [Int.tmod_eq_emod_of_nonneg (by omega)]; omega
    have hv : wrap64 (Int.tdiv (bits : Int) 2) = ((bits / 2 : Nat) : Int) := by
      rw [Int.tdiv_eq_ediv_of_nonneg (by omega), w64 _ (by omega) (by omega)]; omega
    refine Ev.succ ?_
    simp only [worldmintref27_Choice.l0, if_pos (show (i : Int) < (n : Int) by omega), ht, hv, hw, choiceP]
    by_cases c : bits % 2 = 1
    · simp only [if_pos (show ((bits % 2 : Nat) : Int) = 1 by omega), if_pos (show acc.length < 17592186044416 by omega), if_pos c]
      have := choice_ok n hn d (i + 1) (bits / 2) (acc ++ [(i : Int)]) (by omega) (by omega) (by simp; omega) (by omega)
      simpa using this
    · simp only [if_neg (show ¬ ((bits % 2 : Nat) : Int) = 1 by omega), if_neg c]
      exact choice_ok n hn d (i + 1) (bits / 2) acc (by omega) (by omega) (by omega) (by omega)
theorem rvalue_ok (l : List S85) (c : List Int) (hc : ∀ k ∈ c, 0 ≤ k ∧ k < l.length) (hl : c.length ≤ 1000) (hp : ∀ b ∈ l, 0 ≤ b.f1 ∧ b.f1 ≤ 1099511627776) : Ev (fun k => worldmintref27_Value.f k l c) (valP (l.map cv) c) := by
  have : ∀ (d : List Int) (p : Nat) (s : Int), c.drop p = d → p ≤ c.length → 0 ≤ s → s ≤ p * 1099511627776 → Ev (fun k => worldmintref27_Value.l0 k l c s (p : Int)) (s + valP (l.map cv) d) := by
    intro d
    induction d with
    | nil =>
      intro p s hd hpl hs0 hs1
      have := drop_nil c p hpl hd
      refine Ev.succ ?_
      simp only [worldmintref27_Value.l0, if_neg (show ¬ (p : Int) < (c.length : Int) by omega), valP, List.map_nil, List.sum_nil, Int.add_zero]
      exact Ev.some_
    | cons y d ih =>
      intro p s hd hpl hs0 hs1
      obtain ⟨hx, hd', hlt⟩ := drop_cons c p y d hd
      obtain ⟨hy0, hy1⟩ := hc y (List.mem_of_getElem? hx)
      have hw : wrap64 ((p : Int) + 1) = ((p + 1 : Nat) : Int) := by rw [w64 _ (by omega) (by omega)]; omega
      have hyl : y.toNat < l.length := by omega
      have hb := hp l[y.toNat] (List.getElem_mem hyl)
      have hrd : rd_T85 l y = l[y.toNat] := by simp [rd_T85, List.getD, hyl]
      have hg : (l.map cv).getD y.toNat z82 = cv l[y.toNat] := by simp [List.getD, hyl]
      have hw2 : wrap64 (s + l[y.toNat].f1) = s + l[y.toNat].f1 := w64 _ (by omega) (by omega)
      have h1 := ih (p + 1) (s + l[y.toNat].f1) hd' (by omega) (by omega) (by omega)
      refine Ev.succ ?_
      simp only [worldmintref27_Value.l0, if_pos (show (p : Int) < (c.length : Int) by omega), if_pos (show (0 : Int) ≤ (p : Int) by omega), rd_at c p y hx, hw, if_pos (show y ≥ 0 by omega), if_pos (show y < (l.length : Int) by omega), if_pos (show (0 : Int) ≤ y by omega), hrd, hw2]
      have e : s + valP (l.map cv) (y :: d) = s + l[y.toNat].f1 + valP (l.map cv) d := by
        simp only [valP, List.map_cons, List.sum_cons, hg, cv]
        omega
      rw [e]
      exact h1
  have h := this c 0 0 rfl (Nat.zero_le _) (by omega) (by omega)
  simpa [worldmintref27_Value.f] using h
end Go.Proofs.Ytdamibblnjeooaa.H

/- Value. Plain. -/
namespace Go.Proofs.Ytdamibblnjeooaa.H
open Go.RowKit Go.Proofs.YtdamibblnjeooaaW.PrintWords Go.Proofs.YtdamibblnjeooaaW.PrintLast
set_option linter.unusedVariables false
set_option linter.unusedSimpArgs false
theorem value_ok (l : List S82) (c : List Int) (hc : ∀ k ∈ c, 0 ≤ k ∧ k < l.length) (hl : c.length ≤ 1000) (hp : ∀ b ∈ l, 0 ≤ b.f1 ∧ b.f1 ≤ 1099511627776) : Ev (fun k => bids_Value.f k l c) (valP l c) := by
  have : ∀ (d : List Int) (p : Nat) (s : Int), c.drop p = d → p ≤ c.length → 0 ≤ s → s ≤ p * 1099511627776 → Ev (fun k => bids_Value.l0 k l s c (c.length : Int) (p : Int)) (s + valP l d) := by
    intro d
    induction d with
    | nil =>
      intro p s hd hpl hs0 hs1
      have := drop_nil c p hpl hd
      refine Ev.succ ?_
      simp only [bids_Value.l0, if_neg (show ¬ (p : Int) < (c.length : Int) by omega), valP, List.map_nil, List.sum_nil, Int.add_zero]
      exact Ev.some_
    | cons y d ih =>
      intro p s hd hpl hs0 hs1
      obtain ⟨hx, hd', hlt⟩ := drop_cons c p y d hd
      obtain ⟨hy0, hy1⟩ := hc y (List.mem_of_getElem? hx)
      have hw : wrap64 ((p : Int) + 1) = ((p + 1 : Nat) : Int) := by rw [w64 _ (by omega) (by omega)]; omega
      have hyl : y.toNat < l.length := by omega
      have hm : l.getD y.toNat z82 ∈ l := by simp [List.getD, hyl]
      have hb := hp _ hm
      have hrd : rd_T82 l y = l.getD y.toNat z82 := rfl
      have hw2 : wrap64 (s + (l.getD y.toNat z82).f1) = s + (l.getD y.toNat z82).f1 := w64 _ (by omega) (by omega)
      have h1 := ih (p + 1) (s + (l.getD y.toNat z82).f1) hd' (by omega) (by omega) (by omega)
      refine Ev.succ ?_
      simp only [bids_Value.l0, if_pos (show (p : Int) < (c.length : Int) by omega), if_pos (show (0 : Int) ≤ (p : Int) by omega), rd_at c p y hx, hw, if_pos (show y ≥ 0 by omega), if_pos (show y < (l.length : Int) by omega), if_pos (show (0 : Int) ≤ y by omega), hrd, hw2]
      have e : s + valP l (y :: d) = s + (l.getD y.toNat z82).f1 + valP l d := by
        simp only [valP, List.map_cons, List.sum_cons]
        omega
      rw [e]
      exact h1
  have h := this c 0 0 rfl (Nat.zero_le _) (by omega) (by omega)
  simpa [bids_Value.f] using h
end Go.Proofs.Ytdamibblnjeooaa.H

/- proof.Check. -/
namespace Go.Proofs.Ytdamibblnjeooaa.H
open Go.RowKit Go.Proofs.YtdamibblnjeooaaW.PrintWords Go.Proofs.YtdamibblnjeooaaW.PrintLast Go.Proofs.YtdamibblnjeooaaW.PrintMore
set_option linter.unusedVariables false
set_option linter.unusedSimpArgs false
/-- The certificate as a whole. -/
def rootP (n : Int) (l : List S82) (v : Int) (nodes : List S55) : Bool × List Bool := nodeP n l v nodes nodes.length 0 (List.replicate l.length 0) (List.replicate nodes.length false)
def checkP (n : Int) (l : List S82) (win : List Int) (v : Int) (nodes : List S55) : Int :=
  if validP n l ≠ 0 then validP n l else if feasP l [] win = false then 1 else if 2047 < nodes.length then 4 else if nodes.length = 0 ∨ v ≠ valP l win then 20 else
  if (rootP n l v nodes).1 = true ∧ (rootP n l v nodes).2.all id = true then 0 else 20
def proof_Check.f (a0 : Int) (l1 : List S82) (l2 : List Int) (a3_0 : Int) (l3_1 : List S55) : Option Int := some (checkP a0 l1 l2 a3_0 l3_1)
def lastP (pre : List Int) (w : Int) : Bool := match pre.getLast? with | some p => decide (w ≤ p) | none => false
theorem feasP_facts (l : List S82) : ∀ (ws pre : List Int), feasP l pre ws = true → (∀ k ∈ ws, 0 ≤ k ∧ k < l.length) ∧ ws.Pairwise (· < ·) ∧ (∀ p, pre.getLast? = some p → ∀ k ∈ ws, p < k)
  | [], _, _ => ⟨by simp, List.Pairwise.nil, by simp⟩
  | w :: ws, pre, h => by
    have h0 : feasP l pre (w :: ws) = if (w < 0 || (l.length : Int) ≤ w || lastP pre w) = true then false else if (pre.any fun v => conf (l.getD v.toNat z82) (l.getD w.toNat z82)) = true then false else feasP l (pre ++ [w]) ws := rfl
    rw [h0] at h
    by_cases c1 : (w < 0 || (l.length : Int) ≤ w || lastP pre w) = true
    · rw [if_pos c1] at h; cases h
    · rw [if_neg c1] at h
      by_cases c2 : (pre.any fun v => conf (l.getD v.toNat z82) (l.getD w.toNat z82)) = true
      · rw [if_pos c2] at h; cases h
      · rw [if_neg c2] at h
        obtain ⟨h1, h2, h3⟩ := feasP_facts l ws (pre ++ [w]) h
        have h4 := h3 w (by simp)
        simp only [Bool.or_eq_true, decide_eq_true_eq, not_or] at c1
        refine ⟨fun k hk => ?_, List.pairwise_cons.2 ⟨h4, h2⟩, fun p hp k hk => ?_⟩
        · rcases List.mem_cons.1 hk with rfl | hk
          · omega
          · exact h1 k hk
        · have h5 : ¬ w ≤ p := by
            have h6 := c1.2
            unfold lastP at h6
            rw [hp] at h6
            simpa using h6
          rcases List.mem_cons.1 hk with rfl | hk
          · omega
          · have := h4 k hk; omega
theorem rise_len : ∀ (s : List Int) (a : Int) (n : Nat), s.Pairwise (· < ·) → (∀ k ∈ s, a ≤ k ∧ k < a + n) → s.length ≤ n
  | [], _, _, _, _ => Nat.zero_le _
  | x :: s, a, n, hr, h => by
    obtain ⟨h1, h2⟩ := List.pairwise_cons.1 hr
    have hx := h x (by simp)
    obtain ⟨m, rfl⟩ : ∃ m, n = m + 1 := ⟨n - 1, by omega⟩
    have := rise_len s (a + 1) m h2 (fun k hk => by
      have h3 := h1 k hk
      have h4 := h k (by simp [hk])
      omega)
    simp only [List.length_cons]; omega
theorem feas_len (l : List S82) (win : List Int) (h : feasP l [] win = true) : win.length ≤ l.length := by
  obtain ⟨h1, h2, _⟩ := feasP_facts l win [] h
  exact rise_len win 0 l.length h2 (fun k hk => by have := h1 k hk; omega)
theorem made_boolsC (n : Nat) : madeCells #[Value.bool false] n = (bools (List.replicate n false)).toArray := by
  apply Array.ext
  · simp [bools, madeCells]
  · intro i h1 h2
    simp [bools, madeCells, Nat.mod_one]
theorem infoBo : (Try.prog.info? 4).map (fun i => (i.zero, i.size, i.bytes)) = some (some (.bool false), 1, 1) := by kernel_rfl
set_option maxHeartbeats 8000000 in
set_option maxRecDepth 100000 in
theorem proof_Check.calls (a0 : Int) (A1 : Option Addr) (c1 : Nat) (l1 : List S82) (A2 : Option Addr) (c2 : Nat) (l2 : List Int) (a3_0 : Int) (A3_1 : Option Addr) (c3_1 : Nat) (l3_1 : List S55) (r : Int) (w : World)
    (hr1 : Kd.C k82 w A1 l1.length l1) (hc1 : l1.length ≤ c1) (hr2 : Kd.C (Kd.int .i64) w A2 l2.length l2) (hc2 : l2.length ≤ c2) (hr3_1 : Kd.C k55 w A3_1 l3_1.length l3_1) (hc3_1 : l3_1.length ≤ c3_1) (h : proof_Check.f a0 l1 l2 a3_0 l3_1 = some r) :
    Calls Try.prog 18 #[.int .i64 a0, .slice A1 l1.length c1, .slice A2 l2.length c2, .agg #[.int .i64 a3_0, .slice A3_1 l3_1.length c3_1]] w fun e w' => e = .returned (.int .i64 r) ∧ Below w.heap.size w w' := by
  obtain rfl : checkP a0 l1 l2 a3_0 l3_1 = r := Option.some.inj h
  clear h
  obtain ⟨k, hk⟩ := bids_Valid_f a0 l1 (lots_short hr1)
  obtain ⟨wA, hwA⟩ : ∃ wA, wA = w.alloc (.cells #[.int .i64 a3_0, .slice A3_1 l3_1.length c3_1] 44) := ⟨_, rfl⟩
  have hbA : Below w.heap.size w wA := by rw [hwA]; exact (Below.refl _ w).alloc (Nat.le_refl _) _
  have hPA : wA.heap[w.heap.size]? = some (.cells #[.int .i64 a3_0, .slice A3_1 l3_1.length c3_1] 44 (0, 0)) := by rw [hwA]; exact heap_alloc_new w _
  have hv := bids_Valid.calls k a0 A1 c1 l1 _ wA (Kd.C_below hr1 hbA) hc1 hk
  have Hv := Aside0.mk hv
  have Hr1 := Aside0.mk hr1
  have Hr2 := Aside0.mk hr2
  have Hr3 := Aside0.mk hr3_1
  have HbA := Aside0.mk hbA
  have HPA := Aside0.mk hPA
  clear hr1 hr2 hr3_1 hbA hPA hv hk
  by_cases hz : validP a0 l1 = 0
  · rw [hz] at Hv
    obtain ⟨hn1, hn2, hl10, hbb⟩ := validP_bids a0 l1 hz
    have Hbb := Aside0.mk hbb
    have Hz := Aside0.mk hz
    clear hbb hz
    have hfc := fun W (hW : Below w.heap.size w W) => bids_Feasible.calls A1 c1 l1 A2 c2 l2 _ W (Kd.C_below Hr1.out hW) hc1 (Kd.C_below Hr2.out hW) hc2 rfl
    have Hfc := Aside0.mk hfc
    clear hfc
    go_enter Try.func18, Try.ntmps18
    go_upto_region 1 with (fail)
    rw [← hwA]
    clear hwA
    go_wp2_with fail
    refine Hv.out.mono ?_
    rintro e w1 ⟨rfl, hb1⟩
    have hW1 := HbA.out.trans (hb1.mono HbA.out.size)
    have hP1 := (hb1.block _ (Array.getElem?_eq_some_iff.1 HPA.out).1).trans HPA.out
    have hf1 := Hfc.out w1 hW1
    have HW1 := Aside0.mk hW1
    have HP1 := Aside0.mk hP1
    have Hf1 := Aside0.mk hf1
    clear hb1 hW1 hP1 hf1 Hfc HPA HbA Hv
    cases hfe : feasP l1 [] l2
    · have hres : checkP a0 l1 l2 a3_0 l3_1 = 1 := by unfold checkP; rw [if_neg (by rw [Hz.out]; simp), if_pos hfe]
      rw [hfe] at Hf1
      have Hres := Aside0.mk hres
      clear hres hfe
      go_wp2_with fail
      refine Hf1.out.mono ?_
      rintro e w2 ⟨rfl, hb2⟩
      have hW2 := HW1.out.trans (hb2.mono HW1.out.size)
      clear hb2 Hf1
      go_wp2
      go_ret
      exact ⟨by rw [Hres.out]; rfl, hW2⟩
    · rw [hfe] at Hf1
      have Hfe := Aside0.mk hfe
      clear hfe
      go_wp2_with fail
      refine Hf1.out.mono ?_
      rintro e w2 ⟨rfl, hb2⟩
      have hW2 := HW1.out.trans (hb2.mono HW1.out.size)
      have hP2 := (hb2.block _ (Array.getElem?_eq_some_iff.1 HP1.out).1).trans HP1.out
      have hcp0 : w2.cell? ⟨w.heap.size, 0, none⟩ = some (.int .i64 a3_0) := (blk_cell hP2 0).trans rfl
      have hcp1 : w2.cell? ⟨w.heap.size, 1, none⟩ = some (.slice A3_1 l3_1.length c3_1) := (blk_cell hP2 1).trans rfl
      have HW2 := Aside0.mk hW2
      have HP2 := Aside0.mk hP2
      clear hb2 hW2 hP2 Hf1 HW1 HP1
      have hnb := (show l3_1.length ≤ 9223372036854775807 from Hr3.out.2.1)
      by_cases hbig : 2047 < l3_1.length
      · have hres : checkP a0 l1 l2 a3_0 l3_1 = 4 := by unfold checkP; rw [if_neg (by rw [Hz.out]; simp), if_neg (by rw [Hfe.out]; simp), if_pos hbig]
        have Hres := Aside0.mk hres
        have hd1 : decide ((2047 : Int) < (l3_1.length : Int)) = true := decide_eq_true (by omega)
        have hd2 : decide (2047 < l3_1.length) = true := decide_eq_true hbig
        clear hres
        go_wp2
        go_ret
        exact ⟨by rw [Hres.out]; rfl, HW2.out⟩
      · have hd1 : decide ((2047 : Int) < (l3_1.length : Int)) = false := decide_eq_false (by omega)
        have hd2 : decide (2047 < l3_1.length) = false := decide_eq_false hbig
        have Hbig := Aside0.mk hbig
        clear hbig
        by_cases hz0 : l3_1.length = 0
        · have hres : checkP a0 l1 l2 a3_0 l3_1 = 20 := by unfold checkP; rw [if_neg (by rw [Hz.out]; simp), if_neg (by rw [Hfe.out]; simp), if_neg Hbig.out, if_pos (.inl hz0)]
          have Hres := Aside0.mk hres
          rw [hz0] at hcp1
          clear hres hz0
          go_upto_region 8 with (fail)
          go_quiet (fail)
          have hW3 : Below w.heap.size w (w2.drewN nq) := HW2.out.trans ((pw_below_drewN (Below.refl w2.heap.size w2) nq).mono HW2.out.size)
          go_wp2
          go_ret
          exact ⟨by rw [Hres.out]; rfl, hW3⟩
        · have hd3 : ((l3_1.length : Int) == 0) = false := by simpa using hz0
          obtain ⟨hr, hp, _⟩ := feasP_facts l1 l2 [] Hfe.out
          have hfl := feas_len l1 l2 Hfe.out
          obtain ⟨kv, hkv⟩ := (value_ok l1 l2 hr (by omega) (fun b hb => by have := (Hbb.out b hb).1; omega)).ex
          have hva := bids_Value.calls kv A1 c1 l1 A2 c2 l2 _ w2.drew (Kd.C_below Hr1.out (HW2.out.trans ((below_drew0 w2).mono HW2.out.size))) hc1 (Kd.C_below Hr2.out (HW2.out.trans ((below_drew0 w2).mono HW2.out.size))) hc2 hkv
          have Hva := Aside0.mk hva
          have Hz0 := Aside0.mk hz0
          clear hva hkv hr hp hfl hz0
          have hkeep : ∀ w', Below w2.heap.size w2 w' → w'.cell? ⟨w.heap.size, 0, none⟩ = some (.int .i64 a3_0) ∧ w'.cell? ⟨w.heap.size, 1, none⟩ = some (.slice A3_1 l3_1.length c3_1) := fun w' hb =>
            ⟨(hb.cell (World.block_lt_of_cell? w2 _ hcp0)).trans hcp0, (hb.cell (World.block_lt_of_cell? w2 _ hcp1)).trans hcp1⟩
          have Hkeep := Aside0.mk hkeep
          clear hkeep
          by_cases hvv : a3_0 = valP l1 l2
          · have hd4 : (a3_0 != valP l1 l2) = false := by simpa using hvv
            have hres : checkP a0 l1 l2 a3_0 l3_1 = if (rootP a0 l1 a3_0 l3_1).1 = true ∧ (rootP a0 l1 a3_0 l3_1).2.all id = true then 0 else 20 := by
              unfold checkP
              rw [if_neg (by rw [Hz.out]; simp), if_neg (by rw [Hfe.out]; simp), if_neg Hbig.out, if_neg (by
                rintro (h | h)
                · exact Hz0.out h
                · exact h hvv)]
            have Hres := Aside0.mk hres
            clear hvv hres
            generalize valP l1 l2 = vv at *
            go_upto_region 8 with (fail)
            refine wp_region_held_drew (S := fun w' => w'.cell? ⟨w.heap.size, 0, none⟩ = some (.int .i64 a3_0) ∧ w'.cell? ⟨w.heap.size, 1, none⟩ = some (.slice A3_1 l3_1.length c3_1)) (by kernel_rfl) (Hkeep.out w2.drew (below_drew0 w2)) ?_
            intro hS0
            refine wpAnyH_take (i := 0) (v := ?_) rfl (by kernel_rfl) (by kernel_rfl) (by kernel_rfl) (fun _ _ _ h => h) (Or.inl ⟨by rfl, ?_⟩) (by assumption) ?_
            rotate_left
            · (intro w_ hSw_; (try dsimp only at hSw_); go_simp; try with_reducible rfl)
            try simp only [Act.put, List.getElem_toArray, List.getElem_cons_zero, List.getElem_cons_succ, List.setIfInBounds_toArray, List.set_cons_zero, List.set_cons_succ]
            refine wpAnyH_take (i := 1) (v := ?_) rfl (by kernel_rfl) (by kernel_rfl) (by kernel_rfl) (fun _ _ _ h => h) (Or.inl ⟨by rfl, ?_⟩) (by assumption) ?_
            rotate_left
            · (intro w_ hSw_; (try dsimp only at hSw_); go_simp; try with_reducible rfl)
            try simp only [Act.put, List.getElem_toArray, List.getElem_cons_zero, List.getElem_cons_succ, List.setIfInBounds_toArray, List.set_cons_zero, List.set_cons_succ]
            refine wpAnyH_take (i := 2) (v := ?_) rfl (by kernel_rfl) (by kernel_rfl) (by kernel_rfl) (fun _ _ _ h => h) (Or.inl ⟨by rfl, ?_⟩) (by assumption) ?_
            rotate_left
            · (intro w_ hSw_; (try dsimp only at hSw_); go_simp; try with_reducible rfl)
            try simp only [Act.put, List.getElem_toArray, List.getElem_cons_zero, List.getElem_cons_succ, List.setIfInBounds_toArray, List.set_cons_zero, List.set_cons_succ]
            refine wpAnyH_take (i := 3) (v := ?_) rfl (by kernel_rfl) (by kernel_rfl) (by kernel_rfl) (fun _ _ _ h => h) (Or.inl ⟨by rfl, ?_⟩) (by assumption) ?_
            rotate_left
            · (intro w_ hSw_; (try dsimp only at hSw_); go_simp; try with_reducible rfl)
            try simp only [Act.put, List.getElem_toArray, List.getElem_cons_zero, List.getElem_cons_succ, List.setIfInBounds_toArray, List.set_cons_zero, List.set_cons_succ]
            refine wpAnyH_take (i := 4) (v := ?_) rfl (by kernel_rfl) (by kernel_rfl) (by kernel_rfl) (fun _ _ _ h => h) (Or.inl ⟨by rfl, ?_⟩) (by assumption) ?_
            rotate_left
            · (intro w_ hSw_; (try dsimp only at hSw_); go_simp; try with_reducible rfl)
            try simp only [Act.put, List.getElem_toArray, List.getElem_cons_zero, List.getElem_cons_succ, List.setIfInBounds_toArray, List.set_cons_zero, List.set_cons_succ]
            refine wpAnyH_take (i := 5) (v := ?_) rfl (by kernel_rfl) (by kernel_rfl) (by kernel_rfl) (fun _ _ _ h => h) (Or.inl ⟨by rfl, ?_⟩) (by assumption) ?_
            rotate_left
            · (intro w_ hSw_; (try dsimp only at hSw_); go_simp; try with_reducible rfl)
            try simp only [Act.put, List.getElem_toArray, List.getElem_cons_zero, List.getElem_cons_succ, List.setIfInBounds_toArray, List.set_cons_zero, List.set_cons_succ]
            refine wpAnyH_take (i := 6) (v := ?_) rfl (by kernel_rfl) (by kernel_rfl) (by kernel_rfl) (fun _ _ _ h => h) (Or.inl ⟨by rfl, ?_⟩) (by assumption) ?_
            rotate_left
            · (intro w_ hSw_; (try dsimp only at hSw_); go_simp; try with_reducible rfl)
            try simp only [Act.put, List.getElem_toArray, List.getElem_cons_zero, List.getElem_cons_succ, List.setIfInBounds_toArray, List.set_cons_zero, List.set_cons_succ]
            refine wpAnyH_take (i := 7) (v := ?_) rfl (by kernel_rfl) (by kernel_rfl) (by kernel_rfl) (fun _ _ _ h => h) (Or.inl ⟨by rfl, ?_⟩) (by assumption) ?_
            rotate_left
            · (intro w_ hSw_; (try dsimp only at hSw_); go_simp; try with_reducible rfl)
            try simp only [Act.put, List.getElem_toArray, List.getElem_cons_zero, List.getElem_cons_succ, List.setIfInBounds_toArray, List.set_cons_zero, List.set_cons_succ]
            refine wpAnyH_take (i := 8) (v := ?_) rfl (by kernel_rfl) (by kernel_rfl) (by kernel_rfl) (fun _ _ _ h => h) (Or.inl ⟨by rfl, ?_⟩) (by assumption) ?_
            rotate_left
            · (intro w_ hSw_; (try dsimp only at hSw_); go_simp; try with_reducible rfl)
            try simp only [Act.put, List.getElem_toArray, List.getElem_cons_zero, List.getElem_cons_succ, List.setIfInBounds_toArray, List.set_cons_zero, List.set_cons_succ]
            refine wpAnyH_ready (rs := [9]) (by kernel_rfl) (by simp) ?_
            refine AllReadyH.cons rfl (fun K hK => ?_) AllReadyH.nil
            go_simp
            refine Hva.out.mono ?_
            rintro e w3 ⟨rfl, hd_⟩
            have hb3 := hd_.below
            refine hK.out _ _ (Hkeep.out w3 ⟨hb3.os, hb3.tape, hb3.output, hb3.size, hb3.block⟩) (fun hSn_ => ?_)
            clear hK K
            try simp only [Act.put, List.getElem_toArray, List.getElem_cons_zero, List.getElem_cons_succ, List.setIfInBounds_toArray, List.set_cons_zero, List.set_cons_succ]
            refine wpAnyH_take (i := 10) (v := ?_) rfl (by kernel_rfl) (by kernel_rfl) (by kernel_rfl) (fun _ _ _ h => h) (Or.inl ⟨by rfl, ?_⟩) (by assumption) ?_
            rotate_left
            · (intro w_ hSw_; (try dsimp only at hSw_); go_simp; try with_reducible rfl)
            try simp only [Act.put, List.getElem_toArray, List.getElem_cons_zero, List.getElem_cons_succ, List.setIfInBounds_toArray, List.set_cons_zero, List.set_cons_succ]
            refine wpAnyH_take (i := 11) (v := ?_) rfl (by kernel_rfl) (by kernel_rfl) (by kernel_rfl) (fun _ _ _ h => h) (Or.inl ⟨by rfl, ?_⟩) (by assumption) ?_
            rotate_left
            · (intro w_ hSw_; (try dsimp only at hSw_); go_simp; try with_reducible rfl)
            try simp only [Act.put, List.getElem_toArray, List.getElem_cons_zero, List.getElem_cons_succ, List.setIfInBounds_toArray, List.set_cons_zero, List.set_cons_succ]
            refine wpAnyH_take (i := 12) (v := ?_) rfl (by kernel_rfl) (by kernel_rfl) (by kernel_rfl) (fun _ _ _ h => h) (Or.inl ⟨by rfl, ?_⟩) (by assumption) ?_
            rotate_left
            · (intro w_ hSw_; (try dsimp only at hSw_); go_simp; try with_reducible rfl)
            try simp only [Act.put, List.getElem_toArray, List.getElem_cons_zero, List.getElem_cons_succ, List.setIfInBounds_toArray, List.set_cons_zero, List.set_cons_succ]
            refine wpAnyH_done (by kernel_rfl) ?_ _
            have hb3' : Below w2.heap.size w2 w3 := ⟨hb3.os, hb3.tape, hb3.output, hb3.size, hb3.block⟩
            have hW3 : Below w.heap.size w w3 := HW2.out.trans (hb3'.mono HW2.out.size)
            have hP3 := (hb3'.block _ (Array.getElem?_eq_some_iff.1 HP2.out).1).trans HP2.out
            clear hb3 hb3' hd_ hSn_ hS0 Hva Hkeep HW2 HP2 hcp0 hcp1
            have hcp0 : w3.cell? ⟨w.heap.size, 0, none⟩ = some (.int .i64 a3_0) := (blk_cell hP3 0).trans rfl
            have hcp1 : w3.cell? ⟨w.heap.size, 1, none⟩ = some (.slice A3_1 l3_1.length c3_1) := (blk_cell hP3 1).trans rfl
            have hal : ∀ (w : World) (o : Obj) (p : Addr) (v : Value), w.cell? p = some v → (w.alloc o).cell? p = some v := fun w o p v hp => (((Below.refl _ w).alloc (Nat.le_refl _) o).cell (p := p) (World.block_lt_of_cell? w _ hp)).trans hp
            have k0 := fun o => hal w3 o _ _ hcp0
            have k1 := fun o => hal w3 o _ _ hcp1
            have hmk := print_make_of (P := Try.prog) 91 4 (.bool false) 1 Try.underlying91 infoBo rfl (by decide) l3_1.length (by have := Hbig.out; omega)
            have HW3 := Aside0.mk hW3
            clear hal hP3 hW3
            go_upto_region 10 with (fail)
            go_region
            obtain ⟨W5, hW5⟩ : ∃ W5, W5 = ((w3.alloc (.cells (madeCells #[.bool false] l3_1.length) 4)).alloc (.cells #[.int .i64 a0, .slice A1 l1.length c1, .int .i64 a3_0, .slice A3_1 l3_1.length c3_1, .slice (some ⟨w3.heap.size, 0, none⟩) l3_1.length l3_1.length] 93)).drew := ⟨_, rfl⟩
            rw [← hW5]
            obtain ⟨s, hs⟩ : ∃ s : PCx, s = ⟨w, w3.heap.size + 1, w3.heap.size, a0, A1, c1, l1, a3_0, A3_1, c3_1, l3_1⟩ := ⟨_, rfl⟩
            have hb5 : Below w3.heap.size w3 W5 := by
              rw [hW5]
              exact below_drew (((Below.refl _ w3).alloc (Nat.le_refl _) _).alloc (by simp) _)
            have hSt : NSt s W5 (List.replicate l3_1.length false) := by
              rw [hs]
              refine ⟨HW3.out.trans (hb5.mono HW3.out.size), ?_, ?_⟩
              · show W5.heap[w3.heap.size + 1]? = _
                have h_ := heap_alloc_new (w3.alloc (.cells (madeCells #[.bool false] l3_1.length) 4)) (.cells #[.int .i64 a0, .slice A1 l1.length c1, .int .i64 a3_0, .slice A3_1 l3_1.length c3_1, .slice (some ⟨w3.heap.size, 0, none⟩) l3_1.length l3_1.length] 93)
                rw [World.size_alloc] at h_
                rw [hW5]
                exact h_
              · show W5.heap[w3.heap.size]? = _
                rw [← made_boolsC, hW5]
                exact (Below.heap_alloc _ _ _ (by simp)).trans (heap_alloc_new w3 _)
            have hok : POk s := by
              rw [hs]
              exact ⟨Hr1.out, Hr3.out, hl10, ⟨hn1, hn2⟩, Hbb.out, by have := Hbig.out; show l3_1.length ≤ 2047; omega, Nat.le_succ_of_le HW3.out.size, HW3.out.size, Nat.succ_ne_self _⟩
            have hmk2 := print_make (P := Try.prog) 22 3 .i64 8 Try.underlying22 infoW (by decide) l1.length (by omega)
            rw [made_zerosW] at hmk2
            obtain ⟨W6, hW6⟩ : ∃ W6, W6 = W5.alloc (.cells (List.replicate l1.length (Value.int .i64 0)).toArray 3) := ⟨_, rfl⟩
            have hmk3 := hmk2 W5
            rw [← hW6] at hmk3
            have hb6 : Below W5.heap.size W5 W6 := by rw [hW6]; exact (Below.refl _ W5).alloc (Nat.le_refl _) _
            have hD6 : W6.heap[W5.heap.size]? = some (.cells ((List.replicate l1.length (0 : Int)).map (Value.int .i64)).toArray 3 (0, 0)) := by
              rw [hW6, List.map_replicate]
              exact heap_alloc_new W5 _
            have hsb5 := (Array.getElem?_eq_some_iff.1 hSt.hS).1
            have hn := node_calls s hok l3_1.length 0 (List.replicate l1.length 0) W5.heap.size (List.replicate l3_1.length false) W6 (by have := Hz0.out; rw [hs]; show 0 < l3_1.length; omega) (by rw [hs]; show l3_1.length ≤ 0 + l3_1.length; omega) (by rw [hs, List.length_replicate]) (by rw [hs, List.length_replicate]) (hSt.step hb6) hD6 (by omega)
            rw [List.length_replicate, show ((0 : Nat) : Int) = 0 from rfl] at hn
            have hroot : nodeP s.n s.l s.v s.nodes l3_1.length 0 (List.replicate l1.length 0) (List.replicate l3_1.length false) = rootP a0 l1 a3_0 l3_1 := by rw [hs]; rfl
            rw [hroot] at hn
            have hrl : (rootP a0 l1 a3_0 l3_1).2.length = l3_1.length := by unfold rootP; rw [nodeP_len, List.length_replicate]
            have hcb : s.cb = w3.heap.size + 1 := by rw [hs]
            have hsbs : s.sb = w3.heap.size := by rw [hs]
            have hsn : s.nodes.length = l3_1.length := by rw [hs]
            have hsw : s.w0 = w := by rw [hs]
            rw [hcb] at hn
            have Hn := Aside0.mk hn
            have Hrl := Aside0.mk hrl
            have Hcb := Aside0.mk hcb
            have Hsbs := Aside0.mk hsbs
            have Hsn := Aside0.mk hsn
            have Hsw := Aside0.mk hsw
            clear hW5 hs hb5 hSt hok hmk hmk2 hW6 hb6 hD6 hsb5 hn hroot hrl hcb hsbs hsn hsw k0 k1 hcp0 hcp1 HW3 hd1 hd2 hd3 hd4
            generalize rootP a0 l1 a3_0 l3_1 = rt at *
            go_wp2_with fail
            refine Hn.out.mono ?_
            rintro e w7 ⟨rfl, hS7, hT7⟩
            have hW7 : Below w.heap.size w w7 := by have := hS7.below; rwa [Hsw.out] at this
            cases hr1 : rt.1
            · have hfin : checkP a0 l1 l2 a3_0 l3_1 = 20 := by rw [Hres.out, hr1, if_neg (by simp)]
              have Hfin := Aside0.mk hfin
              clear hfin hS7 hT7 hr1 Hn
              go_wp2
              go_ret
              exact ⟨by rw [Hfin.out]; rfl, hW7⟩
            · have hc4 : w7.cell? ⟨w3.heap.size + 1, 4, none⟩ = some (.slice (some ⟨w3.heap.size, 0, none⟩) l3_1.length l3_1.length) := by
                have h := hS7.hC
                rw [Hcb.out, Hsbs.out, Hsn.out] at h
                exact (blk_cell h 4).trans rfl
              have hcn := containsB_calls w3.heap.size rt.2 l3_1.length w7 (by have h := hS7.hS; rwa [Hsbs.out] at h) (by rw [Hrl.out]; have := Hbig.out; omega)
              rw [Hrl.out] at hcn
              have Hcn := Aside0.mk hcn
              have Hr1' := Aside0.mk hr1
              clear hS7 hT7 hcn hr1 Hn
              cases hall : rt.2.all id
              · rw [hall] at Hcn
                have hfin : checkP a0 l1 l2 a3_0 l3_1 = 20 := by rw [Hres.out, hall, if_neg (by simp)]
                have Hfin := Aside0.mk hfin
                clear hfin hall
                go_wp2_with fail
                refine Hcn.out.mono ?_
                rintro e w8 ⟨rfl, hb8⟩
                have hW8 := hW7.trans (hb8.mono hW7.size)
                clear hb8 Hcn
                go_wp2
                go_ret
                exact ⟨by rw [Hfin.out]; rfl, hW8⟩
              · rw [hall] at Hcn
                have hfin : checkP a0 l1 l2 a3_0 l3_1 = 0 := by rw [Hres.out, hall, Hr1'.out, if_pos ⟨rfl, rfl⟩]
                have Hfin := Aside0.mk hfin
                clear hfin hall
                go_wp2_with fail
                refine Hcn.out.mono ?_
                rintro e w8 ⟨rfl, hb8⟩
                have hW8 := hW7.trans (hb8.mono hW7.size)
                clear hb8 Hcn
                go_wp2
                go_ret
                exact ⟨by rw [Hfin.out]; rfl, hW8⟩
          · have hres : checkP a0 l1 l2 a3_0 l3_1 = 20 := by unfold checkP; rw [if_neg (by rw [Hz.out]; simp), if_neg (by rw [Hfe.out]; simp), if_neg Hbig.out, if_pos (.inr hvv)]
            have Hres := Aside0.mk hres
            have hd4 : (a3_0 != valP l1 l2) = true := by simpa using hvv
            clear hres hvv
            generalize valP l1 l2 = vv at *
            go_upto_region 8 with (fail)
            refine wp_region_held_drew (S := fun w' => w'.cell? ⟨w.heap.size, 0, none⟩ = some (.int .i64 a3_0) ∧ w'.cell? ⟨w.heap.size, 1, none⟩ = some (.slice A3_1 l3_1.length c3_1)) (by kernel_rfl) (Hkeep.out w2.drew (below_drew0 w2)) ?_
            intro hS0
            refine wpAnyH_take (i := 0) (v := ?_) rfl (by kernel_rfl) (by kernel_rfl) (by kernel_rfl) (fun _ _ _ h => h) (Or.inl ⟨by rfl, ?_⟩) (by assumption) ?_
            rotate_left
            · (intro w_ hSw_; (try dsimp only at hSw_); go_simp; try with_reducible rfl)
            try simp only [Act.put, List.getElem_toArray, List.getElem_cons_zero, List.getElem_cons_succ, List.setIfInBounds_toArray, List.set_cons_zero, List.set_cons_succ]
            refine wpAnyH_take (i := 1) (v := ?_) rfl (by kernel_rfl) (by kernel_rfl) (by kernel_rfl) (fun _ _ _ h => h) (Or.inl ⟨by rfl, ?_⟩) (by assumption) ?_
            rotate_left
            · (intro w_ hSw_; (try dsimp only at hSw_); go_simp; try with_reducible rfl)
            try simp only [Act.put, List.getElem_toArray, List.getElem_cons_zero, List.getElem_cons_succ, List.setIfInBounds_toArray, List.set_cons_zero, List.set_cons_succ]
            refine wpAnyH_take (i := 2) (v := ?_) rfl (by kernel_rfl) (by kernel_rfl) (by kernel_rfl) (fun _ _ _ h => h) (Or.inl ⟨by rfl, ?_⟩) (by assumption) ?_
            rotate_left
            · (intro w_ hSw_; (try dsimp only at hSw_); go_simp; try with_reducible rfl)
            try simp only [Act.put, List.getElem_toArray, List.getElem_cons_zero, List.getElem_cons_succ, List.setIfInBounds_toArray, List.set_cons_zero, List.set_cons_succ]
            refine wpAnyH_take (i := 3) (v := ?_) rfl (by kernel_rfl) (by kernel_rfl) (by kernel_rfl) (fun _ _ _ h => h) (Or.inl ⟨by rfl, ?_⟩) (by assumption) ?_
            rotate_left
            · (intro w_ hSw_; (try dsimp only at hSw_); go_simp; try with_reducible rfl)
            try simp only [Act.put, List.getElem_toArray, List.getElem_cons_zero, List.getElem_cons_succ, List.setIfInBounds_toArray, List.set_cons_zero, List.set_cons_succ]
            refine wpAnyH_take (i := 4) (v := ?_) rfl (by kernel_rfl) (by kernel_rfl) (by kernel_rfl) (fun _ _ _ h => h) (Or.inl ⟨by rfl, ?_⟩) (by assumption) ?_
            rotate_left
            · (intro w_ hSw_; (try dsimp only at hSw_); go_simp; try with_reducible rfl)
            try simp only [Act.put, List.getElem_toArray, List.getElem_cons_zero, List.getElem_cons_succ, List.setIfInBounds_toArray, List.set_cons_zero, List.set_cons_succ]
            refine wpAnyH_take (i := 5) (v := ?_) rfl (by kernel_rfl) (by kernel_rfl) (by kernel_rfl) (fun _ _ _ h => h) (Or.inl ⟨by rfl, ?_⟩) (by assumption) ?_
            rotate_left
            · (intro w_ hSw_; (try dsimp only at hSw_); go_simp; try with_reducible rfl)
            try simp only [Act.put, List.getElem_toArray, List.getElem_cons_zero, List.getElem_cons_succ, List.setIfInBounds_toArray, List.set_cons_zero, List.set_cons_succ]
            refine wpAnyH_take (i := 6) (v := ?_) rfl (by kernel_rfl) (by kernel_rfl) (by kernel_rfl) (fun _ _ _ h => h) (Or.inl ⟨by rfl, ?_⟩) (by assumption) ?_
            rotate_left
            · (intro w_ hSw_; (try dsimp only at hSw_); go_simp; try with_reducible rfl)
            try simp only [Act.put, List.getElem_toArray, List.getElem_cons_zero, List.getElem_cons_succ, List.setIfInBounds_toArray, List.set_cons_zero, List.set_cons_succ]
            refine wpAnyH_take (i := 7) (v := ?_) rfl (by kernel_rfl) (by kernel_rfl) (by kernel_rfl) (fun _ _ _ h => h) (Or.inl ⟨by rfl, ?_⟩) (by assumption) ?_
            rotate_left
            · (intro w_ hSw_; (try dsimp only at hSw_); go_simp; try with_reducible rfl)
            try simp only [Act.put, List.getElem_toArray, List.getElem_cons_zero, List.getElem_cons_succ, List.setIfInBounds_toArray, List.set_cons_zero, List.set_cons_succ]
            refine wpAnyH_take (i := 8) (v := ?_) rfl (by kernel_rfl) (by kernel_rfl) (by kernel_rfl) (fun _ _ _ h => h) (Or.inl ⟨by rfl, ?_⟩) (by assumption) ?_
            rotate_left
            · (intro w_ hSw_; (try dsimp only at hSw_); go_simp; try with_reducible rfl)
            try simp only [Act.put, List.getElem_toArray, List.getElem_cons_zero, List.getElem_cons_succ, List.setIfInBounds_toArray, List.set_cons_zero, List.set_cons_succ]
            refine wpAnyH_ready (rs := [9]) (by kernel_rfl) (by simp) ?_
            refine AllReadyH.cons rfl (fun K hK => ?_) AllReadyH.nil
            go_simp
            refine Hva.out.mono ?_
            rintro e w3 ⟨rfl, hd_⟩
            have hb3 := hd_.below
            refine hK.out _ _ (Hkeep.out w3 ⟨hb3.os, hb3.tape, hb3.output, hb3.size, hb3.block⟩) (fun hSn_ => ?_)
            clear hK K
            try simp only [Act.put, List.getElem_toArray, List.getElem_cons_zero, List.getElem_cons_succ, List.setIfInBounds_toArray, List.set_cons_zero, List.set_cons_succ]
            refine wpAnyH_take (i := 10) (v := ?_) rfl (by kernel_rfl) (by kernel_rfl) (by kernel_rfl) (fun _ _ _ h => h) (Or.inl ⟨by rfl, ?_⟩) (by assumption) ?_
            rotate_left
            · (intro w_ hSw_; (try dsimp only at hSw_); go_simp; try with_reducible rfl)
            try simp only [Act.put, List.getElem_toArray, List.getElem_cons_zero, List.getElem_cons_succ, List.setIfInBounds_toArray, List.set_cons_zero, List.set_cons_succ]
            refine wpAnyH_take (i := 11) (v := ?_) rfl (by kernel_rfl) (by kernel_rfl) (by kernel_rfl) (fun _ _ _ h => h) (Or.inl ⟨by rfl, ?_⟩) (by assumption) ?_
            rotate_left
            · (intro w_ hSw_; (try dsimp only at hSw_); go_simp; try with_reducible rfl)
            try simp only [Act.put, List.getElem_toArray, List.getElem_cons_zero, List.getElem_cons_succ, List.setIfInBounds_toArray, List.set_cons_zero, List.set_cons_succ]
            refine wpAnyH_take (i := 12) (v := ?_) rfl (by kernel_rfl) (by kernel_rfl) (by kernel_rfl) (fun _ _ _ h => h) (Or.inl ⟨by rfl, ?_⟩) (by assumption) ?_
            rotate_left
            · (intro w_ hSw_; (try dsimp only at hSw_); go_simp; try with_reducible rfl)
            try simp only [Act.put, List.getElem_toArray, List.getElem_cons_zero, List.getElem_cons_succ, List.setIfInBounds_toArray, List.set_cons_zero, List.set_cons_succ]
            refine wpAnyH_done (by kernel_rfl) ?_ _
            have hW3 : Below w.heap.size w w3 := HW2.out.trans (Below.mono (w := w2) ⟨hb3.os, hb3.tape, hb3.output, hb3.size, hb3.block⟩ HW2.out.size)
            go_wp2
            go_ret
            exact ⟨by rw [Hres.out]; rfl, hW3⟩
  · have hres : checkP a0 l1 l2 a3_0 l3_1 = validP a0 l1 := by unfold checkP; rw [if_pos hz]
    rw [hres]
    generalize validP a0 l1 = z at *
    have hz' : (z != 0) = true := by simpa using hz
    clear hz hres
    go_enter Try.func18, Try.ntmps18
    go_upto_region 1 with (fail)
    rw [← hwA]
    clear hwA
    go_wp2_with fail
    refine Hv.out.mono ?_
    rintro e w1 ⟨rfl, hb1⟩
    have hW1 := HbA.out.trans (hb1.mono HbA.out.size)
    clear hb1 Hv
    go_wp2
    go_ret
    exact ⟨rfl, hW1⟩
end Go.Proofs.Ytdamibblnjeooaa.H

/- Written by a program of this session over the kit's printer: what the functions named below compute, and that the machine's calls compute it. Not trusted: Lean checks it. -/
namespace Go.Proofs.Ytdamibblnjeooaa.H
open Go.RowKit Go.Proofs.YtdamibblnjeooaaW.PrintWords Go.Proofs.YtdamibblnjeooaaW.PrintLast Go.Proofs.YtdamibblnjeooaaW.PrintMore
attribute [local go_sem] max2_int min2_int max_two min_two max_three min_three max_four min_four   -- for this text's walks alone
set_option linter.unusedVariables false
set_option linter.unusedSimpArgs false

/-! ### worldmintlaw29_lives: function 22 -/
def worldmintlaw29_lives.f  : Option (Bool) := (some (([(⟨1, 6, (([0, 1] : List Int))⟩ : S82), (⟨2, 4, (([0] : List Int))⟩ : S82), (⟨3, 4, (([1] : List Int))⟩ : S82)] : List (S82)) : List (S82))).bind fun y201 => ((some (([(⟨(-1), 0, 0, (([3, 3] : List Int))⟩ : S55)] : List (S55)) : List (S55))).bind fun y207 => ((proof_Check.f 2 y201 (([1, 2] : List Int)) 8 y207).bind fun t221 => (if t221 = 0 then ((proof_Check.f 2 y201 (([1, 2] : List Int)) 8 (([(⟨(-1), 0, 0, (([0, 0] : List Int))⟩ : S55)] : List (S55)))).bind fun t225 => (if t225 = 20 then ((proof_Check.f 2 y201 (([0, 1] : List Int)) 8 y207).bind fun t229 => (if t229 = 1 then ((proof_Size.f 8 y207).bind fun t230 => (some (t230 == 1))) else (some false))) else (some false))) else (some false))))
set_option maxHeartbeats 8000000 in
set_option maxRecDepth 100000 in
theorem worldmintlaw29_lives.calls  (r : Bool) (w : World) (h : worldmintlaw29_lives.f  = some r) :
  Calls Try.prog 22 #[] w fun e w' => e = .returned (.bool r) ∧ Below w.heap.size w w' := by
 have hu82 := Try.underlying82
 have hu55 := Try.underlying55
 have hu44 := Try.underlying44
 have HB := Aside0.mk (Below.refl w.heap.size w)
 have H : ((some (([(⟨1, 6, (([0, 1] : List Int))⟩ : S82), (⟨2, 4, (([0] : List Int))⟩ : S82), (⟨3, 4, (([1] : List Int))⟩ : S82)] : List (S82)) : List (S82))).bind fun y201 => ((some (([(⟨(-1), 0, 0, (([3, 3] : List Int))⟩ : S55)] : List (S55)) : List (S55))).bind fun y207 => ((proof_Check.f 2 y201 (([1, 2] : List Int)) 8 y207).bind fun t221 => (if t221 = 0 then ((proof_Check.f 2 y201 (([1, 2] : List Int)) 8 (([(⟨(-1), 0, 0, (([0, 0] : List Int))⟩ : S55)] : List (S55)))).bind fun t225 => (if t225 = 20 then ((proof_Check.f 2 y201 (([0, 1] : List Int)) 8 y207).bind fun t229 => (if t229 = 1 then ((proof_Size.f 8 y207).bind fun t230 => (some (t230 == 1))) else (some false))) else (some false))) else (some false))))) = some r := h
 clear h
 obtain ⟨y192, hy192⟩ : ∃ y_ : List Int, y_ = (([0, 1] : List Int)) := ⟨_, rfl⟩
 replace H : ((some (([(⟨1, 6, y192⟩ : S82), (⟨2, 4, (([0] : List Int))⟩ : S82), (⟨3, 4, (([1] : List Int))⟩ : S82)] : List (S82)) : List (S82))).bind fun y201 => ((some (([(⟨(-1), 0, 0, (([3, 3] : List Int))⟩ : S55)] : List (S55)) : List (S55))).bind fun y207 => ((proof_Check.f 2 y201 (([1, 2] : List Int)) 8 y207).bind fun t221 => (if t221 = 0 then ((proof_Check.f 2 y201 (([1, 2] : List Int)) 8 (([(⟨(-1), 0, 0, (([0, 0] : List Int))⟩ : S55)] : List (S55)))).bind fun t225 => (if t225 = 20 then ((proof_Check.f 2 y201 (([0, 1] : List Int)) 8 y207).bind fun t229 => (if t229 = 1 then ((proof_Size.f 8 y207).bind fun t230 => (some (t230 == 1))) else (some false))) else (some false))) else (some false))))) = some r := by first | (rw [hy192]; with_reducible exact H) | (have H2_ := (Option.bind_some _ _).symm.trans H; rw [hy192]; with_reducible exact H2_) | (have H2_ := (Option.bind_some _ _).symm.trans H; with_reducible exact H2_) | with_reducible exact H | (rw [hy192]; exact H) | exact H
 have Ny192 := Aside0.mk hy192
 clear hy192
 obtain ⟨y195, hy195⟩ : ∃ y_ : List Int, y_ = (([0] : List Int)) := ⟨_, rfl⟩
 replace H : ((some (([(⟨1, 6, y192⟩ : S82), (⟨2, 4, y195⟩ : S82), (⟨3, 4, (([1] : List Int))⟩ : S82)] : List (S82)) : List (S82))).bind fun y201 => ((some (([(⟨(-1), 0, 0, (([3, 3] : List Int))⟩ : S55)] : List (S55)) : List (S55))).bind fun y207 => ((proof_Check.f 2 y201 (([1, 2] : List Int)) 8 y207).bind fun t221 => (if t221 = 0 then ((proof_Check.f 2 y201 (([1, 2] : List Int)) 8 (([(⟨(-1), 0, 0, (([0, 0] : List Int))⟩ : S55)] : List (S55)))).bind fun t225 => (if t225 = 20 then ((proof_Check.f 2 y201 (([0, 1] : List Int)) 8 y207).bind fun t229 => (if t229 = 1 then ((proof_Size.f 8 y207).bind fun t230 => (some (t230 == 1))) else (some false))) else (some false))) else (some false))))) = some r := by first | (rw [hy195]; with_reducible exact H) | (have H2_ := (Option.bind_some _ _).symm.trans H; rw [hy195]; with_reducible exact H2_) | (have H2_ := (Option.bind_some _ _).symm.trans H; with_reducible exact H2_) | with_reducible exact H | (rw [hy195]; exact H) | exact H
 have Ny195 := Aside0.mk hy195
 clear hy195
 obtain ⟨y198, hy198⟩ : ∃ y_ : List Int, y_ = (([1] : List Int)) := ⟨_, rfl⟩
 replace H : ((some (([(⟨1, 6, y192⟩ : S82), (⟨2, 4, y195⟩ : S82), (⟨3, 4, y198⟩ : S82)] : List (S82)) : List (S82))).bind fun y201 => ((some (([(⟨(-1), 0, 0, (([3, 3] : List Int))⟩ : S55)] : List (S55)) : List (S55))).bind fun y207 => ((proof_Check.f 2 y201 (([1, 2] : List Int)) 8 y207).bind fun t221 => (if t221 = 0 then ((proof_Check.f 2 y201 (([1, 2] : List Int)) 8 (([(⟨(-1), 0, 0, (([0, 0] : List Int))⟩ : S55)] : List (S55)))).bind fun t225 => (if t225 = 20 then ((proof_Check.f 2 y201 (([0, 1] : List Int)) 8 y207).bind fun t229 => (if t229 = 1 then ((proof_Size.f 8 y207).bind fun t230 => (some (t230 == 1))) else (some false))) else (some false))) else (some false))))) = some r := by first | (rw [hy198]; with_reducible exact H) | (have H2_ := (Option.bind_some _ _).symm.trans H; rw [hy198]; with_reducible exact H2_) | (have H2_ := (Option.bind_some _ _).symm.trans H; with_reducible exact H2_) | with_reducible exact H | (rw [hy198]; exact H) | exact H
 have Ny198 := Aside0.mk hy198
 clear hy198
 obtain ⟨y201, hy201⟩ : ∃ y_ : List (S82), y_ = (([(⟨1, 6, y192⟩ : S82), (⟨2, 4, y195⟩ : S82), (⟨3, 4, y198⟩ : S82)] : List (S82))) := ⟨_, rfl⟩
 replace H : ((some (([(⟨(-1), 0, 0, (([3, 3] : List Int))⟩ : S55)] : List (S55)) : List (S55))).bind fun y207 => ((proof_Check.f 2 y201 (([1, 2] : List Int)) 8 y207).bind fun t221 => (if t221 = 0 then ((proof_Check.f 2 y201 (([1, 2] : List Int)) 8 (([(⟨(-1), 0, 0, (([0, 0] : List Int))⟩ : S55)] : List (S55)))).bind fun t225 => (if t225 = 20 then ((proof_Check.f 2 y201 (([0, 1] : List Int)) 8 y207).bind fun t229 => (if t229 = 1 then ((proof_Size.f 8 y207).bind fun t230 => (some (t230 == 1))) else (some false))) else (some false))) else (some false)))) = some r := by first | (rw [hy201]; with_reducible exact H) | (have H2_ := (Option.bind_some _ _).symm.trans H; rw [hy201]; with_reducible exact H2_) | (have H2_ := (Option.bind_some _ _).symm.trans H; with_reducible exact H2_) | with_reducible exact H | (rw [hy201]; exact H) | exact H
 have Ny201 := Aside0.mk hy201
 clear hy201
 obtain ⟨y204, hy204⟩ : ∃ y_ : List Int, y_ = (([3, 3] : List Int)) := ⟨_, rfl⟩
 replace H : ((some (([(⟨(-1), 0, 0, y204⟩ : S55)] : List (S55)) : List (S55))).bind fun y207 => ((proof_Check.f 2 y201 (([1, 2] : List Int)) 8 y207).bind fun t221 => (if t221 = 0 then ((proof_Check.f 2 y201 (([1, 2] : List Int)) 8 (([(⟨(-1), 0, 0, (([0, 0] : List Int))⟩ : S55)] : List (S55)))).bind fun t225 => (if t225 = 20 then ((proof_Check.f 2 y201 (([0, 1] : List Int)) 8 y207).bind fun t229 => (if t229 = 1 then ((proof_Size.f 8 y207).bind fun t230 => (some (t230 == 1))) else (some false))) else (some false))) else (some false)))) = some r := by first | (rw [hy204]; with_reducible exact H) | (have H2_ := (Option.bind_some _ _).symm.trans H; rw [hy204]; with_reducible exact H2_) | (have H2_ := (Option.bind_some _ _).symm.trans H; with_reducible exact H2_) | with_reducible exact H | (rw [hy204]; exact H) | exact H
 have Ny204 := Aside0.mk hy204
 clear hy204
 obtain ⟨y207, hy207⟩ : ∃ y_ : List (S55), y_ = (([(⟨(-1), 0, 0, y204⟩ : S55)] : List (S55))) := ⟨_, rfl⟩
 replace H : ((proof_Check.f 2 y201 (([1, 2] : List Int)) 8 y207).bind fun t221 => (if t221 = 0 then ((proof_Check.f 2 y201 (([1, 2] : List Int)) 8 (([(⟨(-1), 0, 0, (([0, 0] : List Int))⟩ : S55)] : List (S55)))).bind fun t225 => (if t225 = 20 then ((proof_Check.f 2 y201 (([0, 1] : List Int)) 8 y207).bind fun t229 => (if t229 = 1 then ((proof_Size.f 8 y207).bind fun t230 => (some (t230 == 1))) else (some false))) else (some false))) else (some false))) = some r := by first | (rw [hy207]; with_reducible exact H) | (have H2_ := (Option.bind_some _ _).symm.trans H; rw [hy207]; with_reducible exact H2_) | (have H2_ := (Option.bind_some _ _).symm.trans H; with_reducible exact H2_) | with_reducible exact H | (rw [hy207]; exact H) | exact H
 have Ny207 := Aside0.mk hy207
 clear hy207
 obtain ⟨y211, hy211⟩ : ∃ y_ : List Int, y_ = (([0, 0] : List Int)) := ⟨_, rfl⟩
 replace H : ((proof_Check.f 2 y201 (([1, 2] : List Int)) 8 y207).bind fun t221 => (if t221 = 0 then ((proof_Check.f 2 y201 (([1, 2] : List Int)) 8 (([(⟨(-1), 0, 0, y211⟩ : S55)] : List (S55)))).bind fun t225 => (if t225 = 20 then ((proof_Check.f 2 y201 (([0, 1] : List Int)) 8 y207).bind fun t229 => (if t229 = 1 then ((proof_Size.f 8 y207).bind fun t230 => (some (t230 == 1))) else (some false))) else (some false))) else (some false))) = some r := by first | (rw [hy211]; with_reducible exact H) | (have H2_ := (Option.bind_some _ _).symm.trans H; rw [hy211]; with_reducible exact H2_) | (have H2_ := (Option.bind_some _ _).symm.trans H; with_reducible exact H2_) | with_reducible exact H | (rw [hy211]; exact H) | exact H
 have Ny211 := Aside0.mk hy211
 clear hy211
 obtain ⟨y214, hy214⟩ : ∃ y_ : List (S55), y_ = (([(⟨(-1), 0, 0, y211⟩ : S55)] : List (S55))) := ⟨_, rfl⟩
 replace H : ((proof_Check.f 2 y201 (([1, 2] : List Int)) 8 y207).bind fun t221 => (if t221 = 0 then ((proof_Check.f 2 y201 (([1, 2] : List Int)) 8 y214).bind fun t225 => (if t225 = 20 then ((proof_Check.f 2 y201 (([0, 1] : List Int)) 8 y207).bind fun t229 => (if t229 = 1 then ((proof_Size.f 8 y207).bind fun t230 => (some (t230 == 1))) else (some false))) else (some false))) else (some false))) = some r := by first | (rw [hy214]; with_reducible exact H) | (have H2_ := (Option.bind_some _ _).symm.trans H; rw [hy214]; with_reducible exact H2_) | (have H2_ := (Option.bind_some _ _).symm.trans H; with_reducible exact H2_) | with_reducible exact H | (rw [hy214]; exact H) | exact H
 have Ny214 := Aside0.mk hy214
 clear hy214
 obtain ⟨y218, hy218⟩ : ∃ y_ : List Int, y_ = (([1, 2] : List Int)) := ⟨_, rfl⟩
 replace H : ((proof_Check.f 2 y201 y218 8 y207).bind fun t221 => (if t221 = 0 then ((proof_Check.f 2 y201 (([1, 2] : List Int)) 8 y214).bind fun t225 => (if t225 = 20 then ((proof_Check.f 2 y201 (([0, 1] : List Int)) 8 y207).bind fun t229 => (if t229 = 1 then ((proof_Size.f 8 y207).bind fun t230 => (some (t230 == 1))) else (some false))) else (some false))) else (some false))) = some r := by first | (rw [hy218]; with_reducible exact H) | (have H2_ := (Option.bind_some _ _).symm.trans H; rw [hy218]; with_reducible exact H2_) | (have H2_ := (Option.bind_some _ _).symm.trans H; with_reducible exact H2_) | with_reducible exact H | (rw [hy218]; exact H) | exact H
 have Ny218 := Aside0.mk hy218
 clear hy218
 replace H := Option.bind_eq_some_iff.mp H
 obtain ⟨t221, A10, H⟩ := H
 replace H : (if t221 = 0 then ((proof_Check.f 2 y201 (([1, 2] : List Int)) 8 y214).bind fun t225 => (if t225 = 20 then ((proof_Check.f 2 y201 (([0, 1] : List Int)) 8 y207).bind fun t229 => (if t229 = 1 then ((proof_Size.f 8 y207).bind fun t230 => (some (t230 == 1))) else (some false))) else (some false))) else (some false)) = some r := H
 have A1 := Aside0.mk A10
 clear A10
 by_cases c2 : t221 = 0
 ·rw [if_pos c2] at H
  have c2b0 : (t221 == 0) = true := beq_iff_eq.mpr c2
  have c2b1 : (t221 != 0) = false := bne_eq_false_iff_eq.mpr c2
  clear c2
  obtain ⟨y222, hy222⟩ : ∃ y_ : List Int, y_ = (([1, 2] : List Int)) := ⟨_, rfl⟩
  replace H : ((proof_Check.f 2 y201 y222 8 y214).bind fun t225 => (if t225 = 20 then ((proof_Check.f 2 y201 (([0, 1] : List Int)) 8 y207).bind fun t229 => (if t229 = 1 then ((proof_Size.f 8 y207).bind fun t230 => (some (t230 == 1))) else (some false))) else (some false))) = some r := by first | (rw [hy222]; with_reducible exact H) | (have H2_ := (Option.bind_some _ _).symm.trans H; rw [hy222]; with_reducible exact H2_) | (have H2_ := (Option.bind_some _ _).symm.trans H; with_reducible exact H2_) | with_reducible exact H | (rw [hy222]; exact H) | exact H
  have Ny222 := Aside0.mk hy222
  clear hy222
  replace H := Option.bind_eq_some_iff.mp H
  obtain ⟨t225, A30, H⟩ := H
  replace H : (if t225 = 20 then ((proof_Check.f 2 y201 (([0, 1] : List Int)) 8 y207).bind fun t229 => (if t229 = 1 then ((proof_Size.f 8 y207).bind fun t230 => (some (t230 == 1))) else (some false))) else (some false)) = some r := H
  have A3 := Aside0.mk A30
  clear A30
  by_cases c4 : t225 = 20
  ·rw [if_pos c4] at H
   have c4b0 : (t225 == 20) = true := beq_iff_eq.mpr c4
   have c4b1 : (t225 != 20) = false := bne_eq_false_iff_eq.mpr c4
   clear c4
   obtain ⟨y226, hy226⟩ : ∃ y_ : List Int, y_ = (([0, 1] : List Int)) := ⟨_, rfl⟩
   replace H : ((proof_Check.f 2 y201 y226 8 y207).bind fun t229 => (if t229 = 1 then ((proof_Size.f 8 y207).bind fun t230 => (some (t230 == 1))) else (some false))) = some r := by first | (rw [hy226]; with_reducible exact H) | (have H2_ := (Option.bind_some _ _).symm.trans H; rw [hy226]; with_reducible exact H2_) | (have H2_ := (Option.bind_some _ _).symm.trans H; with_reducible exact H2_) | with_reducible exact H | (rw [hy226]; exact H) | exact H
   have Ny226 := Aside0.mk hy226
   clear hy226
   replace H := Option.bind_eq_some_iff.mp H
   obtain ⟨t229, A50, H⟩ := H
   replace H : (if t229 = 1 then ((proof_Size.f 8 y207).bind fun t230 => (some (t230 == 1))) else (some false)) = some r := H
   have A5 := Aside0.mk A50
   clear A50
   by_cases c6 : t229 = 1
   ·rw [if_pos c6] at H
    have c6b0 : (t229 == 1) = true := beq_iff_eq.mpr c6
    have c6b1 : (t229 != 1) = false := bne_eq_false_iff_eq.mpr c6
    clear c6
    replace H := Option.bind_eq_some_iff.mp H
    obtain ⟨t230, A70, H⟩ := H
    replace H : (some (t230 == 1)) = some r := H
    have A7 := Aside0.mk A70
    clear A70
    obtain rfl := Option.some.inj H
    go_enter Try.func22, Try.ntmps22
    go_wp2_with (first | ((with_reducible refine gate_dst (N := 4) rfl ?_); (try (refine gate_guard (by rfl) ?_; dsimp only)); refine Kd.R_lit (Kd.int .i64) _ 3 ?hg (N := 4) ?hd (xs := ([0, 1] : List Int)) (inner := [.int .i64 0, .int .i64 1]) (ok := fun _ => True) (okp := fun _ => True) ?hr ?hp (fun _ hk => hk) trivial (Below.refl _ _) (Nat.le_refl _) (by simp) ?_; (case hd => rfl); (case hg => rfl); (case hr => first | (go_simp; done) | (go_simp; rfl)); (case hp => exact (Reps.one (show Kd.M (Kd.int .i64) _ _ _ 0 [.int .i64 0] from rfl) (Reps.one (show Kd.M (Kd.int .i64) _ _ _ 1 [.int .i64 1] from rfl) (Reps.none _ _)))); intro v193 w8 ho9 hb hg_ hnew_; clear hg_ hnew_; (first | rw [← Ny192.out] at ho9 | (simp only [Int.reduceToNat] at ho9; rw [← Ny192.out] at ho9)); have n0_ := Aside0.mk (Kd.R_lower ho9 (below_size (by repeat (first | (with_reducible first | exact HB.out | apply below_alloc | apply pw_below_drewN | apply below_drew1) | exact HB.out)))); have n1_ := Aside0.mk (below_step (by repeat (first | (with_reducible first | exact HB.out | apply below_alloc | apply pw_below_drewN | apply below_drew1) | exact HB.out)) hb); clear HB; have HO194 := n0_; have HB := n1_; clear n0_ n1_; clear hb ho9; obtain ⟨Ao10, co10, eo10⟩ := Kd.R_slice HO194.out; subst eo10) | ((with_reducible refine gate_dst (N := 6) rfl ?_); (try (refine gate_guard (by rfl) ?_; dsimp only)); refine Kd.R_lit (Kd.int .i64) _ 3 ?hg (N := 6) ?hd (xs := ([0] : List Int)) (inner := [.int .i64 0]) (ok := fun _ => True) (okp := fun _ => True) ?hr ?hp (fun _ hk => hk) trivial (Below.refl _ _) (Nat.le_refl _) (by simp) ?_; (case hd => rfl); (case hg => rfl); (case hr => first | (go_simp; done) | (go_simp; rfl)); (case hp => exact (Reps.one (show Kd.M (Kd.int .i64) _ _ _ 0 [.int .i64 0] from rfl) (Reps.none _ _))); intro v196 w11 ho12 hb hg_ hnew_; clear hg_ hnew_; (first | rw [← Ny195.out] at ho12 | (simp only [Int.reduceToNat] at ho12; rw [← Ny195.out] at ho12)); have n0_ := Aside0.mk (Kd.R_elder' (by (with_reducible repeat (first | apply Kd.R_alloc | apply Kd.R_drewN | apply Kd.R_drew)); exact HO194.out) (Kd.R_base ho12) hb); have n1_ := Aside0.mk (Kd.R_lower (Kd.R_new' ho12 (Kd.R_lt (by (with_reducible repeat (first | apply Kd.R_alloc | apply Kd.R_drewN | apply Kd.R_drew)); exact HO194.out))) (below_size (by repeat (first | (with_reducible first | exact HB.out | apply below_alloc | apply pw_below_drewN | apply below_drew1) | exact HB.out)))); have n2_ := Aside0.mk (below_step (by repeat (first | (with_reducible first | exact HB.out | apply below_alloc | apply pw_below_drewN | apply below_drew1) | exact HB.out)) hb); clear HO194; clear HB; have HO194 := n0_; have HO197 := n1_; have HB := n2_; clear n0_ n1_ n2_; clear hb ho12; obtain ⟨Ao13, co13, eo13⟩ := Kd.R_slice HO197.out; subst eo13) | ((with_reducible refine gate_dst (N := 8) rfl ?_); (try (refine gate_guard (by rfl) ?_; dsimp only)); refine Kd.R_lit (Kd.int .i64) _ 3 ?hg (N := 8) ?hd (xs := ([1] : List Int)) (inner := [.int .i64 1]) (ok := fun _ => True) (okp := fun _ => True) ?hr ?hp (fun _ hk => hk) trivial (Below.refl _ _) (Nat.le_refl _) (by simp) ?_; (case hd => rfl); (case hg => rfl); (case hr => first | (go_simp; done) | (go_simp; rfl)); (case hp => exact (Reps.one (show Kd.M (Kd.int .i64) _ _ _ 1 [.int .i64 1] from rfl) (Reps.none _ _))); intro v199 w14 ho15 hb hg_ hnew_; clear hg_ hnew_; (first | rw [← Ny198.out] at ho15 | (simp only [Int.reduceToNat] at ho15; rw [← Ny198.out] at ho15)); have n0_ := Aside0.mk (Kd.R_elder' (by (with_reducible repeat (first | apply Kd.R_alloc | apply Kd.R_drewN | apply Kd.R_drew)); exact HO194.out) (Kd.R_base ho15) hb); have n1_ := Aside0.mk (Kd.R_elder' (by (with_reducible repeat (first | apply Kd.R_alloc | apply Kd.R_drewN | apply Kd.R_drew)); exact HO197.out) (Kd.R_base ho15) hb); have n2_ := Aside0.mk (Kd.R_lower (Kd.R_new' (Kd.R_new' ho15 (Kd.R_lt (by (with_reducible repeat (first | apply Kd.R_alloc | apply Kd.R_drewN | apply Kd.R_drew)); exact HO194.out))) (Kd.R_lt (by (with_reducible repeat (first | apply Kd.R_alloc | apply Kd.R_drewN | apply Kd.R_drew)); exact HO197.out))) (below_size (by repeat (first | (with_reducible first | exact HB.out | apply below_alloc | apply pw_below_drewN | apply below_drew1) | exact HB.out)))); have n3_ := Aside0.mk (below_step (by repeat (first | (with_reducible first | exact HB.out | apply below_alloc | apply pw_below_drewN | apply below_drew1) | exact HB.out)) hb); clear HO194; clear HO197; clear HB; have HO194 := n0_; have HO197 := n1_; have HO200 := n2_; have HB := n3_; clear n0_ n1_ n2_ n3_; clear hb ho15; obtain ⟨Ao16, co16, eo16⟩ := Kd.R_slice HO200.out; subst eo16) | ((with_reducible refine gate_dst (N := 10) rfl ?_); (try (refine gate_guard (by rfl) ?_; dsimp only)); refine Kd.N_lit k82 _ 82 ?hg (N' := 10) ?hd (xs := ([(⟨1, 6, y192⟩ : S82), (⟨2, 4, y195⟩ : S82), (⟨3, 4, y198⟩ : S82)] : List (S82))) (inner := [.int .i64 1, .int .i64 6, .slice Ao10 y192.length co10, .int .i64 2, .int .i64 4, .slice Ao13 y195.length co13, .int .i64 3, .int .i64 4, .slice Ao16 y198.length co16]) (ok := (fun _ => True)) (okp := (fun _ => True)) ?hr ?hp (fun _ hk => hk) ((show ∀ k_, w14.heap.size ≤ k_ → (fun _ => True) k_ from fun k_ hk => trivial) _ (Nat.le_refl _)) (Below.refl _ _) (Nat.le_refl _) (by simp) ?_; (case hd => rfl); (case hg => rfl); (case hr => first | (go_simp; done) | (go_simp; rfl)); (case hp => exact (Reps.c3 (show Kd.FK k82 _ _ (⟨1, 6, y192⟩ : S82) [.int .i64 1, .int .i64 6, .slice Ao10 y192.length co10] from (k82_mkF _ _ (⟨1, 6, y192⟩ : S82) (Kd.R_reads' (Kd.R_mono (ok' := (fun _ => True)) (HO194.out) (fun k_ hk => trivial))).2.1 (Kd.R_F (Kd.R_mono (ok' := (fun _ => True)) (HO194.out) (fun k_ hk => trivial))))) (Reps.c3 (show Kd.FK k82 _ _ (⟨2, 4, y195⟩ : S82) [.int .i64 2, .int .i64 4, .slice Ao13 y195.length co13] from (k82_mkF _ _ (⟨2, 4, y195⟩ : S82) (Kd.R_reads' (Kd.R_mono (ok' := (fun _ => True)) (HO197.out) (fun k_ hk => trivial))).2.1 (Kd.R_F (Kd.R_mono (ok' := (fun _ => True)) (HO197.out) (fun k_ hk => trivial))))) (Reps.c3 (show Kd.FK k82 _ _ (⟨3, 4, y198⟩ : S82) [.int .i64 3, .int .i64 4, .slice Ao16 y198.length co16] from (k82_mkF _ _ (⟨3, 4, y198⟩ : S82) (Kd.R_reads' (Kd.R_mono (ok' := (fun _ => True)) (HO200.out) (fun k_ hk => trivial))).2.1 (Kd.R_F (Kd.R_mono (ok' := (fun _ => True)) (HO200.out) (fun k_ hk => trivial))))) (Reps.none _ _))))); intro v202 w17 ho18 hb hg_ hnew_; clear hg_ hnew_; (first | rw [← Ny201.out] at ho18 | (simp only [Int.reduceToNat] at ho18; rw [← Ny201.out] at ho18)); have n0_ := Aside0.mk (Kd.N_lower ho18 (below_size (by repeat (first | (with_reducible first | exact HB.out | apply below_alloc | apply pw_below_drewN | apply below_drew1) | exact HB.out)))); have n1_ := Aside0.mk (below_step (by repeat (first | (with_reducible first | exact HB.out | apply below_alloc | apply pw_below_drewN | apply below_drew1) | exact HB.out)) hb); clear HB; clear HO194; clear HO197; clear HO200; have HO203 := n0_; have HB := n1_; clear n0_ n1_; clear hb ho18) | ((with_reducible refine gate_dst (N := 11) rfl ?_); (try (refine gate_guard (by rfl) ?_; dsimp only)); refine Kd.R_lit (Kd.int .i64) _ 3 ?hg (N := 11) ?hd (xs := ([3, 3] : List Int)) (inner := [.int .i64 3, .int .i64 3]) (ok := fun _ => True) (okp := fun _ => True) ?hr ?hp (fun _ hk => hk) trivial (Below.refl _ _) (Nat.le_refl _) (by simp) ?_; (case hd => rfl); (case hg => rfl); (case hr => first | (go_simp; done) | (go_simp; rfl)); (case hp => exact (Reps.one (show Kd.M (Kd.int .i64) _ _ _ 3 [.int .i64 3] from rfl) (Reps.one (show Kd.M (Kd.int .i64) _ _ _ 3 [.int .i64 3] from rfl) (Reps.none _ _)))); intro v205 w19 ho20 hb hg_ hnew_; clear hg_ hnew_; (first | rw [← Ny204.out] at ho20 | (simp only [Int.reduceToNat] at ho20; rw [← Ny204.out] at ho20)); have n0_ := Aside0.mk (Kd.N_elder' (by (with_reducible repeat (first | apply Kd.N_alloc | apply Kd.N_drewN | apply Kd.N_drew)); exact HO203.out) (Kd.R_base ho20) hb); have n1_ := Aside0.mk (Kd.R_lower ho20 (below_size (by repeat (first | (with_reducible first | exact HB.out | apply below_alloc | apply pw_below_drewN | apply below_drew1) | exact HB.out)))); have n2_ := Aside0.mk (below_step (by repeat (first | (with_reducible first | exact HB.out | apply below_alloc | apply pw_below_drewN | apply below_drew1) | exact HB.out)) hb); clear HO203; clear HB; have HO203 := n0_; have HO206 := n1_; have HB := n2_; clear n0_ n1_ n2_; clear hb ho20; obtain ⟨Ao21, co21, eo21⟩ := Kd.R_slice HO206.out; subst eo21) | ((with_reducible refine gate_dst (N := 13) rfl ?_); (try (refine gate_guard (by rfl) ?_; dsimp only)); refine Kd.N_lit k55 _ 55 ?hg (N' := 13) ?hd (xs := ([(⟨(-1), 0, 0, y204⟩ : S55)] : List (S55))) (inner := [.int .i64 (-1), .int .i64 0, .int .i64 0, .slice Ao21 y204.length co21]) (ok := (fun k_ => some k_ ≠ (v202 : Value).ownBlock)) (okp := (fun k_ => some k_ ≠ (v202 : Value).ownBlock)) ?hr ?hp (fun _ hk => hk) ((show ∀ k_, w19.heap.size ≤ k_ → (fun k_ => some k_ ≠ (v202 : Value).ownBlock) k_ from fun k_ hk => Kd.fresh' (Kd.N_lt (by (with_reducible repeat (first | apply Kd.N_alloc | apply Kd.N_drewN | apply Kd.N_drew)); exact HO203.out)) k_ hk) _ (Nat.le_refl _)) (Below.refl _ _) (Nat.le_refl _) (by simp) ?_; (case hd => rfl); (case hg => rfl); (case hr => first | (go_simp; done) | (go_simp; rfl)); (case hp => exact (Reps.c4 (show Kd.FK k55 _ _ (⟨(-1), 0, 0, y204⟩ : S55) [.int .i64 (-1), .int .i64 0, .int .i64 0, .slice Ao21 y204.length co21] from (k55_mkF _ _ (⟨(-1), 0, 0, y204⟩ : S55) (Kd.R_reads' (Kd.R_mono (ok' := (fun k_ => some k_ ≠ (v202 : Value).ownBlock)) (Kd.R_apart' (HO206.out) (Kd.N_typed HO203.out) (by decide)) (fun k_ hk => hk.2))).2.1 (Kd.R_F (Kd.R_mono (ok' := (fun k_ => some k_ ≠ (v202 : Value).ownBlock)) (Kd.R_apart' (HO206.out) (Kd.N_typed HO203.out) (by decide)) (fun k_ hk => hk.2))))) (Reps.none _ _))); intro v208 w22 ho23 hb hg_ hnew_; clear hg_ hnew_; (first | rw [← Ny207.out] at ho23 | (simp only [Int.reduceToNat] at ho23; rw [← Ny207.out] at ho23)); have n0_ := Aside0.mk (Kd.N_elder' (by (with_reducible repeat (first | apply Kd.N_alloc | apply Kd.N_drewN | apply Kd.N_drew)); exact HO203.out) (Kd.N_base ho23) hb); have n1_ := Aside0.mk (Kd.N_lower ho23 (below_size (by repeat (first | (with_reducible first | exact HB.out | apply below_alloc | apply pw_below_drewN | apply below_drew1) | exact HB.out)))); have n2_ := Aside0.mk (below_step (by repeat (first | (with_reducible first | exact HB.out | apply below_alloc | apply pw_below_drewN | apply below_drew1) | exact HB.out)) hb); clear HO203; clear HB; clear HO206; have HO203 := n0_; have HO209 := n1_; have HB := n2_; clear n0_ n1_ n2_; clear hb ho23; obtain ⟨Ao24, co24, eo24⟩ := Kd.N_slice HO209.out; subst eo24) | ((with_reducible refine gate_dst (N := 2) rfl ?_); (try (refine gate_guard (by rfl) ?_; dsimp only)); refine box_event ?hg (N := 2) ?hd (cs := #[.int .i64 0, .slice none 0 0]) (t := 44) ?hr ?_; (case hd => rfl); (case hg => rfl); (case hr => first | (go_simp; done) | (go_simp; rfl)); intro gb210 hg w25 hbox hb; have n0_ := Aside0.mk (Kd.N_below (Kd.N_elderB (by (with_reducible repeat (first | apply Kd.N_alloc | apply Kd.N_drewN | apply Kd.N_drew)); exact HO203.out) gb210 (Nat.le_of_eq hg.symm)) hb); have n1_ := Aside0.mk (Kd.N_below (Kd.N_elderB (by (with_reducible repeat (first | apply Kd.N_alloc | apply Kd.N_drewN | apply Kd.N_drew)); exact HO209.out) gb210 (Nat.le_of_eq hg.symm)) hb); have n2_ := Aside0.mk (below_step (by repeat (first | (with_reducible first | exact HB.out | apply below_alloc | apply pw_below_drewN | apply below_drew1) | exact HB.out)) hb); have n3_ := Aside0.mk (hbox); have n4_ := Aside0.mk ((by rw [hg]; exact (below_size (by repeat (first | (with_reducible first | exact HB.out | apply below_alloc | apply pw_below_drewN | apply below_drew1) | exact HB.out))) : w.heap.size ≤ gb210)); have n5_ := Aside0.mk ((by rw [hg]; exact (below_size (by repeat (first | (with_reducible first | exact HB.out | apply below_alloc | apply pw_below_drewN | apply below_drew1) | exact HB.out))) : w.heap.size ≤ gb210)); clear HO203; clear HO209; clear HB; have HO203 := n0_; have HO209 := n1_; have HB := n2_; have BK210 := n3_; have GW210 := n4_; have GE210 := n5_; clear n0_ n1_ n2_ n3_ n4_ n5_; clear hb hbox hg; have hcz26_0 : w25.cell? ⟨gb210, 0, none⟩ = some (.int .i64 0) := (blk_cell BK210.out 0).trans rfl; have hcz26_1 : w25.cell? ⟨gb210, 1, none⟩ = some (.slice none 0 0) := (blk_cell BK210.out 1).trans rfl; have hfz26_0 := blk_frozen BK210.out 0; have hfz26_1 := blk_frozen BK210.out 1) | ((with_reducible refine gate_dst (N := 15) rfl ?_); (try (refine gate_guard (by rfl) ?_; dsimp only)); refine Kd.R_lit (Kd.int .i64) _ 3 ?hg (N := 15) ?hd (xs := ([0, 0] : List Int)) (inner := [.int .i64 0, .int .i64 0]) (ok := fun _ => True) (okp := fun _ => True) ?hr ?hp (fun _ hk => hk) trivial (Below.refl _ _) (Nat.le_refl _) (by simp) ?_; (case hd => rfl); (case hg => rfl); (case hr => first | (go_simp; done) | (go_simp; rfl)); (case hp => exact (Reps.one (show Kd.M (Kd.int .i64) _ _ _ 0 [.int .i64 0] from rfl) (Reps.one (show Kd.M (Kd.int .i64) _ _ _ 0 [.int .i64 0] from rfl) (Reps.none _ _)))); intro v212 w27 ho28 hb hg_ hnew_; clear hg_ hnew_; (first | rw [← Ny211.out] at ho28 | (simp only [Int.reduceToNat] at ho28; rw [← Ny211.out] at ho28)); have n0_ := Aside0.mk (Kd.N_elder' (by (with_reducible repeat (first | apply Kd.N_alloc | apply Kd.N_drewN | apply Kd.N_drew)); exact (Kd.N_mono (Kd.N_far (p := ⟨gb210, 1, none⟩) (Kd.N_far (p := ⟨gb210, 0, none⟩) (Kd.N_mono HO203.out (fun k_ hk => (⟨hk, hk.2⟩ : _ ∧ k_ ≠ gb210))) (fun _ hk => hk.2) (.int .i64 8)) (fun _ hk => hk.2) (.slice Ao24 y207.length co24)) (fun _ h_ => h_.1))) (Kd.R_base ho28) hb); have n1_ := Aside0.mk (Kd.N_elder' (by (with_reducible repeat (first | apply Kd.N_alloc | apply Kd.N_drewN | apply Kd.N_drew)); exact (Kd.N_mono (Kd.N_far (p := ⟨gb210, 1, none⟩) (Kd.N_far (p := ⟨gb210, 0, none⟩) (Kd.N_mono HO209.out (fun k_ hk => (⟨hk, hk.2⟩ : _ ∧ k_ ≠ gb210))) (fun _ hk => hk.2) (.int .i64 8)) (fun _ hk => hk.2) (.slice Ao24 y207.length co24)) (fun _ h_ => h_.1))) (Kd.R_base ho28) hb); have n2_ := Aside0.mk (Kd.R_lower ho28 (below_size (by repeat (first | (with_reducible first | exact HB.out | apply below_alloc | apply pw_below_drewN | apply below_drew1 | refine below_set ?_ GE210.out) | exact HB.out)))); have n3_ := Aside0.mk (blk_below (g := gb210) (o := .cells #[.int .i64 8, .slice Ao24 y207.length co24] 44 (0, 0)) (by (with_reducible repeat (first | refine blk_drewN ?_ _ | refine blk_drew ?_ | refine blk_alloc ?_ _)); refine blk_put (cs := #[.int .i64 8, .slice none 0 0]) ?_ 1 _ rfl; (with_reducible repeat (first | refine blk_drewN ?_ _ | refine blk_drew ?_ | refine blk_alloc ?_ _)); refine blk_put (cs := #[.int .i64 0, .slice none 0 0]) ?_ 0 _ rfl; (with_reducible repeat (first | refine blk_drewN ?_ _ | refine blk_drew ?_ | refine blk_alloc ?_ _)); exact BK210.out) hb); have n4_ := Aside0.mk (below_step (by repeat (first | (with_reducible first | exact HB.out | apply below_alloc | apply pw_below_drewN | apply below_drew1 | refine below_set ?_ GE210.out) | exact HB.out)) hb); clear HO203; clear HO209; clear BK210; clear HB; have HO203 := n0_; have HO209 := n1_; have HO213 := n2_; have BK210 := n3_; have HB := n4_; clear n0_ n1_ n2_ n3_ n4_; clear hb ho28; obtain ⟨Ao29, co29, eo29⟩ := Kd.R_slice HO213.out; subst eo29) | ((with_reducible refine gate_dst (N := 17) rfl ?_); (try (refine gate_guard (by rfl) ?_; dsimp only)); refine Kd.N_lit k55 _ 55 ?hg (N' := 17) ?hd (xs := ([(⟨(-1), 0, 0, y211⟩ : S55)] : List (S55))) (inner := [.int .i64 (-1), .int .i64 0, .int .i64 0, .slice Ao29 y211.length co29]) (ok := (fun k_ => some k_ ≠ (v202 : Value).ownBlock ∧ some k_ ≠ (.slice Ao24 y207.length co24 : Value).ownBlock ∧ k_ ≠ gb210)) (okp := (fun k_ => some k_ ≠ (v202 : Value).ownBlock ∧ some k_ ≠ (.slice Ao24 y207.length co24 : Value).ownBlock ∧ k_ ≠ gb210)) ?hr ?hp (fun _ hk => hk) ((show ∀ k_, w27.heap.size ≤ k_ → (fun k_ => some k_ ≠ (v202 : Value).ownBlock ∧ some k_ ≠ (.slice Ao24 y207.length co24 : Value).ownBlock ∧ k_ ≠ gb210) k_ from fun k_ hk => ⟨Kd.fresh' (Kd.N_lt (by (with_reducible repeat (first | apply Kd.N_alloc | apply Kd.N_drewN | apply Kd.N_drew)); exact HO203.out)) k_ hk, Kd.fresh' (Kd.N_lt (by (with_reducible repeat (first | apply Kd.N_alloc | apply Kd.N_drewN | apply Kd.N_drew)); exact HO209.out)) k_ hk, Kd.freshB (g := gb210) (o := .cells #[.int .i64 8, .slice Ao24 y207.length co24] 44 (0, 0)) (by (with_reducible repeat (first | refine blk_drewN ?_ _ | refine blk_drew ?_ | refine blk_alloc ?_ _)); exact BK210.out) k_ hk⟩) _ (Nat.le_refl _)) (Below.refl _ _) (Nat.le_refl _) (by simp) ?_; (case hd => rfl); (case hg => rfl); (case hr => first | (go_simp; done) | (go_simp; rfl)); (case hp => exact (Reps.c4 (show Kd.FK k55 _ _ (⟨(-1), 0, 0, y211⟩ : S55) [.int .i64 (-1), .int .i64 0, .int .i64 0, .slice Ao29 y211.length co29] from (k55_mkF _ _ (⟨(-1), 0, 0, y211⟩ : S55) (Kd.R_reads' (Kd.R_mono (ok' := (fun k_ => some k_ ≠ (v202 : Value).ownBlock ∧ some k_ ≠ (.slice Ao24 y207.length co24 : Value).ownBlock ∧ k_ ≠ gb210)) (Kd.R_types (Kd.R_apart' (Kd.R_apart' (HO213.out) (Kd.N_typed HO203.out) (by decide)) (Kd.N_typed HO209.out) (by decide)) BK210.out (by decide)) (fun k_ hk => ⟨hk.1.1.2, ⟨hk.1.2, hk.2⟩⟩))).2.1 (Kd.R_F (Kd.R_mono (ok' := (fun k_ => some k_ ≠ (v202 : Value).ownBlock ∧ some k_ ≠ (.slice Ao24 y207.length co24 : Value).ownBlock ∧ k_ ≠ gb210)) (Kd.R_types (Kd.R_apart' (Kd.R_apart' (HO213.out) (Kd.N_typed HO203.out) (by decide)) (Kd.N_typed HO209.out) (by decide)) BK210.out (by decide)) (fun k_ hk => ⟨hk.1.1.2, ⟨hk.1.2, hk.2⟩⟩))))) (Reps.none _ _))); intro v215 w30 ho31 hb hg_ hnew_; clear hg_ hnew_; (first | rw [← Ny214.out] at ho31 | (simp only [Int.reduceToNat] at ho31; rw [← Ny214.out] at ho31)); have n0_ := Aside0.mk (Kd.N_elder' (by (with_reducible repeat (first | apply Kd.N_alloc | apply Kd.N_drewN | apply Kd.N_drew)); exact HO203.out) (Kd.N_base ho31) hb); have n1_ := Aside0.mk (Kd.N_elder' (by (with_reducible repeat (first | apply Kd.N_alloc | apply Kd.N_drewN | apply Kd.N_drew)); exact HO209.out) (Kd.N_base ho31) hb); have n2_ := Aside0.mk (Kd.N_lower ho31 (below_size (by repeat (first | (with_reducible first | exact HB.out | apply below_alloc | apply pw_below_drewN | apply below_drew1 | refine below_set ?_ GE210.out) | exact HB.out)))); have n3_ := Aside0.mk (blk_below (g := gb210) (o := .cells #[.int .i64 8, .slice Ao24 y207.length co24] 44 (0, 0)) (by (with_reducible repeat (first | refine blk_drewN ?_ _ | refine blk_drew ?_ | refine blk_alloc ?_ _)); exact BK210.out) hb); have n4_ := Aside0.mk (below_step (by repeat (first | (with_reducible first | exact HB.out | apply below_alloc | apply pw_below_drewN | apply below_drew1 | refine below_set ?_ GE210.out) | exact HB.out)) hb); clear HO203; clear HO209; clear BK210; clear HB; clear HO213; have HO203 := n0_; have HO209 := n1_; have HO216 := n2_; have BK210 := n3_; have HB := n4_; clear n0_ n1_ n2_ n3_ n4_; clear hb ho31; obtain ⟨Ao32, co32, eo32⟩ := Kd.N_slice HO216.out; subst eo32) | ((with_reducible refine gate_dst (N := 3) rfl ?_); (try (refine gate_guard (by rfl) ?_; dsimp only)); refine box_event ?hg (N := 3) ?hd (cs := #[.int .i64 0, .slice none 0 0]) (t := 44) ?hr ?_; (case hd => rfl); (case hg => rfl); (case hr => first | (go_simp; done) | (go_simp; rfl)); intro gb217 hg w33 hbox hb; have n0_ := Aside0.mk (Kd.N_below (Kd.N_elderB (by (with_reducible repeat (first | apply Kd.N_alloc | apply Kd.N_drewN | apply Kd.N_drew)); exact HO203.out) gb217 (Nat.le_of_eq hg.symm)) hb); have n1_ := Aside0.mk (Kd.N_below (Kd.N_elderB (by (with_reducible repeat (first | apply Kd.N_alloc | apply Kd.N_drewN | apply Kd.N_drew)); exact HO209.out) gb217 (Nat.le_of_eq hg.symm)) hb); have n2_ := Aside0.mk (Kd.N_below (Kd.N_elderB (by (with_reducible repeat (first | apply Kd.N_alloc | apply Kd.N_drewN | apply Kd.N_drew)); exact HO216.out) gb217 (Nat.le_of_eq hg.symm)) hb); have n3_ := Aside0.mk (blk_below (g := gb210) (o := .cells #[.int .i64 8, .slice Ao24 y207.length co24] 44 (0, 0)) (by (with_reducible repeat (first | refine blk_drewN ?_ _ | refine blk_drew ?_ | refine blk_alloc ?_ _)); exact BK210.out) hb); have n4_ := Aside0.mk (below_step (by repeat (first | (with_reducible first | exact HB.out | apply below_alloc | apply pw_below_drewN | apply below_drew1 | refine below_set ?_ GE210.out) | exact HB.out)) hb); have n5_ := Aside0.mk (hbox); have n6_ := Aside0.mk ((by rw [hg]; exact (below_size (by repeat (first | (with_reducible first | exact HB.out | apply below_alloc | apply pw_below_drewN | apply below_drew1 | refine below_set ?_ GE210.out) | exact HB.out))) : w.heap.size ≤ gb217)); have n7_ := Aside0.mk ((by rw [hg]; exact (below_size (by repeat (first | (with_reducible first | exact HB.out | apply below_alloc | apply pw_below_drewN | apply below_drew1 | refine below_set ?_ GE210.out) | exact HB.out))) : w.heap.size ≤ gb217)); have n8_ := Aside0.mk ((by rw [hg]; exact Nat.ne_of_lt (blk_lt (g := gb210) (o := .cells #[.int .i64 8, .slice Ao24 y207.length co24] 44 (0, 0)) (by (with_reducible repeat (first | refine blk_drewN ?_ _ | refine blk_drew ?_ | refine blk_alloc ?_ _)); exact BK210.out)) : gb210 ≠ gb217)); have n9_ := Aside0.mk ((by rw [hg]; exact Nat.ne_of_gt (blk_lt (g := gb210) (o := .cells #[.int .i64 8, .slice Ao24 y207.length co24] 44 (0, 0)) (by (with_reducible repeat (first | refine blk_drewN ?_ _ | refine blk_drew ?_ | refine blk_alloc ?_ _)); exact BK210.out)) : gb217 ≠ gb210)); clear HO203; clear HO209; clear HO216; clear BK210; clear HB; have HO203 := n0_; have HO209 := n1_; have HO216 := n2_; have BK210 := n3_; have HB := n4_; have BK217 := n5_; have GW217 := n6_; have GE217 := n7_; have NB210_217 := n8_; have NB217_210 := n9_; clear n0_ n1_ n2_ n3_ n4_ n5_ n6_ n7_ n8_ n9_; clear hb hbox hg; have hnb34 := NB217_210.out; have hnc34 := NB210_217.out; have hcz35_0 : w33.cell? ⟨gb217, 0, none⟩ = some (.int .i64 0) := (blk_cell BK217.out 0).trans rfl; have hcz35_1 : w33.cell? ⟨gb217, 1, none⟩ = some (.slice none 0 0) := (blk_cell BK217.out 1).trans rfl; have hfz35_0 := blk_frozen BK217.out 0; have hfz35_1 := blk_frozen BK217.out 1) | ((with_reducible refine gate_dst (N := 20) rfl ?_); (try (refine gate_guard (by rfl) ?_; dsimp only)); refine Kd.R_lit (Kd.int .i64) _ 3 ?hg (N := 20) ?hd (xs := ([1, 2] : List Int)) (inner := [.int .i64 1, .int .i64 2]) (ok := fun _ => True) (okp := fun _ => True) ?hr ?hp (fun _ hk => hk) trivial (Below.refl _ _) (Nat.le_refl _) (by simp) ?_; (case hd => rfl); (case hg => rfl); (case hr => first | (go_simp; done) | (go_simp; rfl)); (case hp => exact (Reps.one (show Kd.M (Kd.int .i64) _ _ _ 1 [.int .i64 1] from rfl) (Reps.one (show Kd.M (Kd.int .i64) _ _ _ 2 [.int .i64 2] from rfl) (Reps.none _ _)))); intro v219 w36 ho37 hb hg_ hnew_; clear hg_ hnew_; (first | rw [← Ny218.out] at ho37 | (simp only [Int.reduceToNat] at ho37; rw [← Ny218.out] at ho37)); have n0_ := Aside0.mk (Kd.N_elder' (by (with_reducible repeat (first | apply Kd.N_alloc | apply Kd.N_drewN | apply Kd.N_drew)); exact (Kd.N_mono (Kd.N_far (p := ⟨gb217, 1, none⟩) (Kd.N_far (p := ⟨gb217, 0, none⟩) (Kd.N_mono HO203.out (fun k_ hk => (⟨hk, hk.2⟩ : _ ∧ k_ ≠ gb217))) (fun _ hk => hk.2) (.int .i64 8)) (fun _ hk => hk.2) (.slice Ao32 y214.length co32)) (fun _ h_ => h_.1))) (Kd.R_base ho37) hb); have n1_ := Aside0.mk (Kd.N_elder' (by (with_reducible repeat (first | apply Kd.N_alloc | apply Kd.N_drewN | apply Kd.N_drew)); exact (Kd.N_mono (Kd.N_far (p := ⟨gb217, 1, none⟩) (Kd.N_far (p := ⟨gb217, 0, none⟩) (Kd.N_mono HO209.out (fun k_ hk => (⟨hk, hk.2⟩ : _ ∧ k_ ≠ gb217))) (fun _ hk => hk.2) (.int .i64 8)) (fun _ hk => hk.2) (.slice Ao32 y214.length co32)) (fun _ h_ => h_.1))) (Kd.R_base ho37) hb); have n2_ := Aside0.mk (Kd.N_elder' (by (with_reducible repeat (first | apply Kd.N_alloc | apply Kd.N_drewN | apply Kd.N_drew)); exact (Kd.N_mono (Kd.N_far (p := ⟨gb217, 1, none⟩) (Kd.N_far (p := ⟨gb217, 0, none⟩) (Kd.N_mono HO216.out (fun k_ hk => (⟨hk, hk.2⟩ : _ ∧ k_ ≠ gb217))) (fun _ hk => hk.2) (.int .i64 8)) (fun _ hk => hk.2) (.slice Ao32 y214.length co32)) (fun _ h_ => h_.1))) (Kd.R_base ho37) hb); have n3_ := Aside0.mk (Kd.R_lower ho37 (below_size (by repeat (first | (with_reducible first | exact HB.out | apply below_alloc | apply pw_below_drewN | apply below_drew1 | refine below_set ?_ GE210.out | refine below_set ?_ GE217.out) | exact HB.out)))); have n4_ := Aside0.mk (blk_below (g := gb210) (o := .cells #[.int .i64 8, .slice Ao24 y207.length co24] 44 (0, 0)) (by (with_reducible repeat (first | refine blk_drewN ?_ _ | refine blk_drew ?_ | refine blk_alloc ?_ _)); refine blk_far ?_ NB210_217.out _; (with_reducible repeat (first | refine blk_drewN ?_ _ | refine blk_drew ?_ | refine blk_alloc ?_ _)); refine blk_far ?_ NB210_217.out _; (with_reducible repeat (first | refine blk_drewN ?_ _ | refine blk_drew ?_ | refine blk_alloc ?_ _)); exact BK210.out) hb); have n5_ := Aside0.mk (blk_below (g := gb217) (o := .cells #[.int .i64 8, .slice Ao32 y214.length co32] 44 (0, 0)) (by (with_reducible repeat (first | refine blk_drewN ?_ _ | refine blk_drew ?_ | refine blk_alloc ?_ _)); refine blk_put (cs := #[.int .i64 8, .slice none 0 0]) ?_ 1 _ rfl; (with_reducible repeat (first | refine blk_drewN ?_ _ | refine blk_drew ?_ | refine blk_alloc ?_ _)); refine blk_put (cs := #[.int .i64 0, .slice none 0 0]) ?_ 0 _ rfl; (with_reducible repeat (first | refine blk_drewN ?_ _ | refine blk_drew ?_ | refine blk_alloc ?_ _)); exact BK217.out) hb); have n6_ := Aside0.mk (below_step (by repeat (first | (with_reducible first | exact HB.out | apply below_alloc | apply pw_below_drewN | apply below_drew1 | refine below_set ?_ GE210.out | refine below_set ?_ GE217.out) | exact HB.out)) hb); clear HO203; clear HO209; clear HO216; clear BK210; clear BK217; clear HB; have HO203 := n0_; have HO209 := n1_; have HO216 := n2_; have HO220 := n3_; have BK210 := n4_; have BK217 := n5_; have HB := n6_; clear n0_ n1_ n2_ n3_ n4_ n5_ n6_; clear hb ho37; have hcz38_0 : w36.cell? ⟨gb210, 0, none⟩ = some (.int .i64 8) := (blk_cell BK210.out 0).trans rfl; have hcz38_1 : w36.cell? ⟨gb210, 1, none⟩ = some (.slice Ao24 y207.length co24) := (blk_cell BK210.out 1).trans rfl; have hfz38_0 := blk_frozen BK210.out 0; have hfz38_1 := blk_frozen BK210.out 1; obtain ⟨Ao39, co39, eo39⟩ := Kd.N_slice HO203.out; subst eo39; obtain ⟨Ao40, co40, eo40⟩ := Kd.R_slice HO220.out; subst eo40) | ((with_reducible refine gate_callee (f := 18) rfl ?_); refine goesL_ (some 22) rfl rfl Try.func18 (by kernel_rfl) rfl #[.int .i64 2, .slice Ao39 y201.length co39, .slice Ao40 y218.length co40, .agg #[.int .i64 8, .slice Ao24 y207.length co24]] rfl (by (try simp only [List.map_toArray, List.map_cons, List.map_nil]); first | done | rfl | (simp only [List.length_drop, List.length_take]; rfl)) ?_; (with_reducible refine (proof_Check.calls 2 _ _ y201 _ _ y218 8 _ _ y207 t221 _ ?side1 ?side2 ?side3 ?side4 ?side5 ?side6 A1.out).mono ?_); (case side1 => repeat (first | exact (Kd.N_reads' HO203.out).2.2 | (with_reducible refine Kd.C_alloc ?_ _) | (with_reducible refine Kd.C_drewN ?_ _) | (with_reducible refine Kd.C_drew ?_))); (case side2 => exact (Kd.N_reads' HO203.out).2.1); (case side3 => repeat (first | exact (Kd.R_reads' HO220.out).2.2 | (with_reducible refine Kd.C_alloc ?_ _) | (with_reducible refine Kd.C_drewN ?_ _) | (with_reducible refine Kd.C_drew ?_))); (case side4 => exact (Kd.R_reads' HO220.out).2.1); (case side5 => repeat (first | exact (Kd.N_reads' HO209.out).2.2 | (with_reducible refine Kd.C_alloc ?_ _) | (with_reducible refine Kd.C_drewN ?_ _) | (with_reducible refine Kd.C_drew ?_))); (case side6 => exact (Kd.N_reads' HO209.out).2.1); rintro e w41 ⟨rfl, hb⟩; refine ⟨_, rfl, ?_⟩; have n0_ := Aside0.mk (Kd.N_below (by (with_reducible repeat (first | apply Kd.N_alloc | apply Kd.N_drewN | apply Kd.N_drew)); exact HO203.out) hb); have n1_ := Aside0.mk (Kd.N_below (by (with_reducible repeat (first | apply Kd.N_alloc | apply Kd.N_drewN | apply Kd.N_drew)); exact HO209.out) hb); have n2_ := Aside0.mk (Kd.N_below (by (with_reducible repeat (first | apply Kd.N_alloc | apply Kd.N_drewN | apply Kd.N_drew)); exact HO216.out) hb); have n3_ := Aside0.mk (Kd.R_below (by (with_reducible repeat (first | apply Kd.R_alloc | apply Kd.R_drewN | apply Kd.R_drew)); exact HO220.out) hb); have n4_ := Aside0.mk (blk_below (g := gb210) (o := .cells #[.int .i64 8, .slice Ao24 y207.length co24] 44 (0, 0)) (by (with_reducible repeat (first | refine blk_drewN ?_ _ | refine blk_drew ?_ | refine blk_alloc ?_ _)); exact BK210.out) hb); have n5_ := Aside0.mk (blk_below (g := gb217) (o := .cells #[.int .i64 8, .slice Ao32 y214.length co32] 44 (0, 0)) (by (with_reducible repeat (first | refine blk_drewN ?_ _ | refine blk_drew ?_ | refine blk_alloc ?_ _)); exact BK217.out) hb); have n6_ := Aside0.mk (below_step (by repeat (first | (with_reducible first | exact HB.out | apply below_alloc | apply pw_below_drewN | apply below_drew1 | refine below_set ?_ GE210.out | refine below_set ?_ GE217.out) | exact HB.out)) hb); clear HO203; clear HO209; clear HO216; clear HO220; clear BK210; clear BK217; clear HB; have HO203 := n0_; have HO209 := n1_; have HO216 := n2_; have HO220 := n3_; have BK210 := n4_; have BK217 := n5_; have HB := n6_; clear n0_ n1_ n2_ n3_ n4_ n5_ n6_; (try clear hb); (try clear hb2); (try clear hk); (try clear hi)) | ((with_reducible refine gate_dst (N := 26) rfl ?_); (try (refine gate_guard (by rfl) ?_; dsimp only)); refine Kd.R_lit (Kd.int .i64) _ 3 ?hg (N := 26) ?hd (xs := ([1, 2] : List Int)) (inner := [.int .i64 1, .int .i64 2]) (ok := fun _ => True) (okp := fun _ => True) ?hr ?hp (fun _ hk => hk) trivial (Below.refl _ _) (Nat.le_refl _) (by simp) ?_; (case hd => rfl); (case hg => rfl); (case hr => first | (go_simp; done) | (go_simp; rfl)); (case hp => exact (Reps.one (show Kd.M (Kd.int .i64) _ _ _ 1 [.int .i64 1] from rfl) (Reps.one (show Kd.M (Kd.int .i64) _ _ _ 2 [.int .i64 2] from rfl) (Reps.none _ _)))); intro v223 w42 ho43 hb hg_ hnew_; clear hg_ hnew_; (first | rw [← Ny222.out] at ho43 | (simp only [Int.reduceToNat] at ho43; rw [← Ny222.out] at ho43)); have n0_ := Aside0.mk (Kd.N_elder' (by (with_reducible repeat (first | apply Kd.N_alloc | apply Kd.N_drewN | apply Kd.N_drew)); exact HO203.out) (Kd.R_base ho43) hb); have n1_ := Aside0.mk (Kd.N_elder' (by (with_reducible repeat (first | apply Kd.N_alloc | apply Kd.N_drewN | apply Kd.N_drew)); exact HO209.out) (Kd.R_base ho43) hb); have n2_ := Aside0.mk (Kd.N_elder' (by (with_reducible repeat (first | apply Kd.N_alloc | apply Kd.N_drewN | apply Kd.N_drew)); exact HO216.out) (Kd.R_base ho43) hb); have n3_ := Aside0.mk (Kd.R_elder' (by (with_reducible repeat (first | apply Kd.R_alloc | apply Kd.R_drewN | apply Kd.R_drew)); exact HO220.out) (Kd.R_base ho43) hb); have n4_ := Aside0.mk (Kd.R_lower (Kd.R_new' ho43 (Kd.R_lt (by (with_reducible repeat (first | apply Kd.R_alloc | apply Kd.R_drewN | apply Kd.R_drew)); exact HO220.out))) (below_size (by repeat (first | (with_reducible first | exact HB.out | apply below_alloc | apply pw_below_drewN | apply below_drew1 | refine below_set ?_ GE210.out | refine below_set ?_ GE217.out) | exact HB.out)))); have n5_ := Aside0.mk (blk_below (g := gb210) (o := .cells #[.int .i64 8, .slice Ao24 y207.length co24] 44 (0, 0)) (by (with_reducible repeat (first | refine blk_drewN ?_ _ | refine blk_drew ?_ | refine blk_alloc ?_ _)); exact BK210.out) hb); have n6_ := Aside0.mk (blk_below (g := gb217) (o := .cells #[.int .i64 8, .slice Ao32 y214.length co32] 44 (0, 0)) (by (with_reducible repeat (first | refine blk_drewN ?_ _ | refine blk_drew ?_ | refine blk_alloc ?_ _)); exact BK217.out) hb); have n7_ := Aside0.mk (below_step (by repeat (first | (with_reducible first | exact HB.out | apply below_alloc | apply pw_below_drewN | apply below_drew1 | refine below_set ?_ GE210.out | refine below_set ?_ GE217.out) | exact HB.out)) hb); clear HO203; clear HO209; clear HO216; clear HO220; clear BK210; clear BK217; clear HB; have HO203 := n0_; have HO209 := n1_; have HO216 := n2_; have HO220 := n3_; have HO224 := n4_; have BK210 := n5_; have BK217 := n6_; have HB := n7_; clear n0_ n1_ n2_ n3_ n4_ n5_ n6_ n7_; clear hb ho43; have hcz44_0 : w42.cell? ⟨gb217, 0, none⟩ = some (.int .i64 8) := (blk_cell BK217.out 0).trans rfl; have hcz44_1 : w42.cell? ⟨gb217, 1, none⟩ = some (.slice Ao32 y214.length co32) := (blk_cell BK217.out 1).trans rfl; have hfz44_0 := blk_frozen BK217.out 0; have hfz44_1 := blk_frozen BK217.out 1; obtain ⟨Ao45, co45, eo45⟩ := Kd.R_slice HO224.out; subst eo45) | (go_at_call 18; (with_reducible refine (proof_Check.calls 2 _ _ y201 _ _ y222 8 _ _ y214 t225 _ ?side1 ?side2 ?side3 ?side4 ?side5 ?side6 A3.out).mono ?_); (case side1 => repeat (first | exact (Kd.N_reads' HO203.out).2.2 | (with_reducible refine Kd.C_alloc ?_ _) | (with_reducible refine Kd.C_drewN ?_ _) | (with_reducible refine Kd.C_drew ?_))); (case side2 => exact (Kd.N_reads' HO203.out).2.1); (case side3 => repeat (first | exact (Kd.R_reads' HO224.out).2.2 | (with_reducible refine Kd.C_alloc ?_ _) | (with_reducible refine Kd.C_drewN ?_ _) | (with_reducible refine Kd.C_drew ?_))); (case side4 => exact (Kd.R_reads' HO224.out).2.1); (case side5 => repeat (first | exact (Kd.N_reads' HO216.out).2.2 | (with_reducible refine Kd.C_alloc ?_ _) | (with_reducible refine Kd.C_drewN ?_ _) | (with_reducible refine Kd.C_drew ?_))); (case side6 => exact (Kd.N_reads' HO216.out).2.1); rintro e w46 ⟨rfl, hb⟩; have n0_ := Aside0.mk (Kd.N_below (by (with_reducible repeat (first | apply Kd.N_alloc | apply Kd.N_drewN | apply Kd.N_drew)); exact HO203.out) hb); have n1_ := Aside0.mk (Kd.N_below (by (with_reducible repeat (first | apply Kd.N_alloc | apply Kd.N_drewN | apply Kd.N_drew)); exact HO209.out) hb); have n2_ := Aside0.mk (Kd.N_below (by (with_reducible repeat (first | apply Kd.N_alloc | apply Kd.N_drewN | apply Kd.N_drew)); exact HO216.out) hb); have n3_ := Aside0.mk (Kd.R_below (by (with_reducible repeat (first | apply Kd.R_alloc | apply Kd.R_drewN | apply Kd.R_drew)); exact HO220.out) hb); have n4_ := Aside0.mk (Kd.R_below (by (with_reducible repeat (first | apply Kd.R_alloc | apply Kd.R_drewN | apply Kd.R_drew)); exact HO224.out) hb); have n5_ := Aside0.mk (blk_below (g := gb210) (o := .cells #[.int .i64 8, .slice Ao24 y207.length co24] 44 (0, 0)) (by (with_reducible repeat (first | refine blk_drewN ?_ _ | refine blk_drew ?_ | refine blk_alloc ?_ _)); exact BK210.out) hb); have n6_ := Aside0.mk (blk_below (g := gb217) (o := .cells #[.int .i64 8, .slice Ao32 y214.length co32] 44 (0, 0)) (by (with_reducible repeat (first | refine blk_drewN ?_ _ | refine blk_drew ?_ | refine blk_alloc ?_ _)); exact BK217.out) hb); have n7_ := Aside0.mk (below_step (by repeat (first | (with_reducible first | exact HB.out | apply below_alloc | apply pw_below_drewN | apply below_drew1 | refine below_set ?_ GE210.out | refine below_set ?_ GE217.out) | exact HB.out)) hb); clear HO203; clear HO209; clear HO216; clear HO220; clear HO224; clear BK210; clear BK217; clear HB; have HO203 := n0_; have HO209 := n1_; have HO216 := n2_; have HO220 := n3_; have HO224 := n4_; have BK210 := n5_; have BK217 := n6_; have HB := n7_; clear n0_ n1_ n2_ n3_ n4_ n5_ n6_ n7_; (try clear hb); (try clear hb2); (try clear hk); (try clear hi)) | ((with_reducible refine gate_dst (N := 33) rfl ?_); (try (refine gate_guard (by rfl) ?_; dsimp only)); refine Kd.R_lit (Kd.int .i64) _ 3 ?hg (N := 33) ?hd (xs := ([0, 1] : List Int)) (inner := [.int .i64 0, .int .i64 1]) (ok := fun _ => True) (okp := fun _ => True) ?hr ?hp (fun _ hk => hk) trivial (Below.refl _ _) (Nat.le_refl _) (by simp) ?_; (case hd => rfl); (case hg => rfl); (case hr => first | (go_simp; done) | (go_simp; rfl)); (case hp => exact (Reps.one (show Kd.M (Kd.int .i64) _ _ _ 0 [.int .i64 0] from rfl) (Reps.one (show Kd.M (Kd.int .i64) _ _ _ 1 [.int .i64 1] from rfl) (Reps.none _ _)))); intro v227 w47 ho48 hb hg_ hnew_; clear hg_ hnew_; (first | rw [← Ny226.out] at ho48 | (simp only [Int.reduceToNat] at ho48; rw [← Ny226.out] at ho48)); have n0_ := Aside0.mk (Kd.N_elder' (by (with_reducible repeat (first | apply Kd.N_alloc | apply Kd.N_drewN | apply Kd.N_drew)); exact HO203.out) (Kd.R_base ho48) hb); have n1_ := Aside0.mk (Kd.N_elder' (by (with_reducible repeat (first | apply Kd.N_alloc | apply Kd.N_drewN | apply Kd.N_drew)); exact HO209.out) (Kd.R_base ho48) hb); have n2_ := Aside0.mk (Kd.N_elder' (by (with_reducible repeat (first | apply Kd.N_alloc | apply Kd.N_drewN | apply Kd.N_drew)); exact HO216.out) (Kd.R_base ho48) hb); have n3_ := Aside0.mk (Kd.R_elder' (by (with_reducible repeat (first | apply Kd.R_alloc | apply Kd.R_drewN | apply Kd.R_drew)); exact HO220.out) (Kd.R_base ho48) hb); have n4_ := Aside0.mk (Kd.R_elder' (by (with_reducible repeat (first | apply Kd.R_alloc | apply Kd.R_drewN | apply Kd.R_drew)); exact HO224.out) (Kd.R_base ho48) hb); have n5_ := Aside0.mk (Kd.R_lower (Kd.R_new' (Kd.R_new' ho48 (Kd.R_lt (by (with_reducible repeat (first | apply Kd.R_alloc | apply Kd.R_drewN | apply Kd.R_drew)); exact HO220.out))) (Kd.R_lt (by (with_reducible repeat (first | apply Kd.R_alloc | apply Kd.R_drewN | apply Kd.R_drew)); exact HO224.out))) (below_size (by repeat (first | (with_reducible first | exact HB.out | apply below_alloc | apply pw_below_drewN | apply below_drew1 | refine below_set ?_ GE210.out | refine below_set ?_ GE217.out) | exact HB.out)))); have n6_ := Aside0.mk (blk_below (g := gb210) (o := .cells #[.int .i64 8, .slice Ao24 y207.length co24] 44 (0, 0)) (by (with_reducible repeat (first | refine blk_drewN ?_ _ | refine blk_drew ?_ | refine blk_alloc ?_ _)); exact BK210.out) hb); have n7_ := Aside0.mk (blk_below (g := gb217) (o := .cells #[.int .i64 8, .slice Ao32 y214.length co32] 44 (0, 0)) (by (with_reducible repeat (first | refine blk_drewN ?_ _ | refine blk_drew ?_ | refine blk_alloc ?_ _)); exact BK217.out) hb); have n8_ := Aside0.mk (below_step (by repeat (first | (with_reducible first | exact HB.out | apply below_alloc | apply pw_below_drewN | apply below_drew1 | refine below_set ?_ GE210.out | refine below_set ?_ GE217.out) | exact HB.out)) hb); clear HO203; clear HO209; clear HO216; clear HO220; clear HO224; clear BK210; clear BK217; clear HB; have HO203 := n0_; have HO209 := n1_; have HO216 := n2_; have HO220 := n3_; have HO224 := n4_; have HO228 := n5_; have BK210 := n6_; have BK217 := n7_; have HB := n8_; clear n0_ n1_ n2_ n3_ n4_ n5_ n6_ n7_ n8_; clear hb ho48; have hcz49_0 : w47.cell? ⟨gb210, 0, none⟩ = some (.int .i64 8) := (blk_cell BK210.out 0).trans rfl; have hcz49_1 : w47.cell? ⟨gb210, 1, none⟩ = some (.slice Ao24 y207.length co24) := (blk_cell BK210.out 1).trans rfl; have hfz49_0 := blk_frozen BK210.out 0; have hfz49_1 := blk_frozen BK210.out 1; obtain ⟨Ao50, co50, eo50⟩ := Kd.R_slice HO228.out; subst eo50) | (go_at_call 18; (with_reducible refine (proof_Check.calls 2 _ _ y201 _ _ y226 8 _ _ y207 t229 _ ?side1 ?side2 ?side3 ?side4 ?side5 ?side6 A5.out).mono ?_); (case side1 => repeat (first | exact (Kd.N_reads' HO203.out).2.2 | (with_reducible refine Kd.C_alloc ?_ _) | (with_reducible refine Kd.C_drewN ?_ _) | (with_reducible refine Kd.C_drew ?_))); (case side2 => exact (Kd.N_reads' HO203.out).2.1); (case side3 => repeat (first | exact (Kd.R_reads' HO228.out).2.2 | (with_reducible refine Kd.C_alloc ?_ _) | (with_reducible refine Kd.C_drewN ?_ _) | (with_reducible refine Kd.C_drew ?_))); (case side4 => exact (Kd.R_reads' HO228.out).2.1); (case side5 => repeat (first | exact (Kd.N_reads' HO209.out).2.2 | (with_reducible refine Kd.C_alloc ?_ _) | (with_reducible refine Kd.C_drewN ?_ _) | (with_reducible refine Kd.C_drew ?_))); (case side6 => exact (Kd.N_reads' HO209.out).2.1); rintro e w51 ⟨rfl, hb⟩; have n0_ := Aside0.mk (Kd.N_below (by (with_reducible repeat (first | apply Kd.N_alloc | apply Kd.N_drewN | apply Kd.N_drew)); exact HO203.out) hb); have n1_ := Aside0.mk (Kd.N_below (by (with_reducible repeat (first | apply Kd.N_alloc | apply Kd.N_drewN | apply Kd.N_drew)); exact HO209.out) hb); have n2_ := Aside0.mk (Kd.N_below (by (with_reducible repeat (first | apply Kd.N_alloc | apply Kd.N_drewN | apply Kd.N_drew)); exact HO216.out) hb); have n3_ := Aside0.mk (Kd.R_below (by (with_reducible repeat (first | apply Kd.R_alloc | apply Kd.R_drewN | apply Kd.R_drew)); exact HO220.out) hb); have n4_ := Aside0.mk (Kd.R_below (by (with_reducible repeat (first | apply Kd.R_alloc | apply Kd.R_drewN | apply Kd.R_drew)); exact HO224.out) hb); have n5_ := Aside0.mk (Kd.R_below (by (with_reducible repeat (first | apply Kd.R_alloc | apply Kd.R_drewN | apply Kd.R_drew)); exact HO228.out) hb); have n6_ := Aside0.mk (blk_below (g := gb210) (o := .cells #[.int .i64 8, .slice Ao24 y207.length co24] 44 (0, 0)) (by (with_reducible repeat (first | refine blk_drewN ?_ _ | refine blk_drew ?_ | refine blk_alloc ?_ _)); exact BK210.out) hb); have n7_ := Aside0.mk (blk_below (g := gb217) (o := .cells #[.int .i64 8, .slice Ao32 y214.length co32] 44 (0, 0)) (by (with_reducible repeat (first | refine blk_drewN ?_ _ | refine blk_drew ?_ | refine blk_alloc ?_ _)); exact BK217.out) hb); have n8_ := Aside0.mk (below_step (by repeat (first | (with_reducible first | exact HB.out | apply below_alloc | apply pw_below_drewN | apply below_drew1 | refine below_set ?_ GE210.out | refine below_set ?_ GE217.out) | exact HB.out)) hb); clear HO203; clear HO209; clear HO216; clear HO220; clear HO224; clear HO228; clear BK210; clear BK217; clear HB; have HO203 := n0_; have HO209 := n1_; have HO216 := n2_; have HO220 := n3_; have HO224 := n4_; have HO228 := n5_; have BK210 := n6_; have BK217 := n7_; have HB := n8_; clear n0_ n1_ n2_ n3_ n4_ n5_ n6_ n7_ n8_; (try clear hb); (try clear hb2); (try clear hk); (try clear hi); have hcz52_0 : w51.cell? ⟨gb210, 0, none⟩ = some (.int .i64 8) := (blk_cell BK210.out 0).trans rfl; have hcz52_1 : w51.cell? ⟨gb210, 1, none⟩ = some (.slice Ao24 y207.length co24) := (blk_cell BK210.out 1).trans rfl; have hfz52_0 := blk_frozen BK210.out 0; have hfz52_1 := blk_frozen BK210.out 1) | (go_at_call 38; (with_reducible refine (proof_Size.calls 8 _ _ y207 t230 _ ?side1 ?side2 A7.out).mono ?_); (case side1 => repeat (first | exact (Kd.N_reads' HO209.out).2.2 | (with_reducible refine Kd.C_alloc ?_ _) | (with_reducible refine Kd.C_drewN ?_ _) | (with_reducible refine Kd.C_drew ?_))); (case side2 => exact (Kd.N_reads' HO209.out).2.1); rintro e w53 ⟨rfl, hb⟩; have n0_ := Aside0.mk (Kd.N_below (by (with_reducible repeat (first | apply Kd.N_alloc | apply Kd.N_drewN | apply Kd.N_drew)); exact HO203.out) hb); have n1_ := Aside0.mk (Kd.N_below (by (with_reducible repeat (first | apply Kd.N_alloc | apply Kd.N_drewN | apply Kd.N_drew)); exact HO209.out) hb); have n2_ := Aside0.mk (Kd.N_below (by (with_reducible repeat (first | apply Kd.N_alloc | apply Kd.N_drewN | apply Kd.N_drew)); exact HO216.out) hb); have n3_ := Aside0.mk (Kd.R_below (by (with_reducible repeat (first | apply Kd.R_alloc | apply Kd.R_drewN | apply Kd.R_drew)); exact HO220.out) hb); have n4_ := Aside0.mk (Kd.R_below (by (with_reducible repeat (first | apply Kd.R_alloc | apply Kd.R_drewN | apply Kd.R_drew)); exact HO224.out) hb); have n5_ := Aside0.mk (Kd.R_below (by (with_reducible repeat (first | apply Kd.R_alloc | apply Kd.R_drewN | apply Kd.R_drew)); exact HO228.out) hb); have n6_ := Aside0.mk (blk_below (g := gb210) (o := .cells #[.int .i64 8, .slice Ao24 y207.length co24] 44 (0, 0)) (by (with_reducible repeat (first | refine blk_drewN ?_ _ | refine blk_drew ?_ | refine blk_alloc ?_ _)); exact BK210.out) hb); have n7_ := Aside0.mk (blk_below (g := gb217) (o := .cells #[.int .i64 8, .slice Ao32 y214.length co32] 44 (0, 0)) (by (with_reducible repeat (first | refine blk_drewN ?_ _ | refine blk_drew ?_ | refine blk_alloc ?_ _)); exact BK217.out) hb); have n8_ := Aside0.mk (below_step (by repeat (first | (with_reducible first | exact HB.out | apply below_alloc | apply pw_below_drewN | apply below_drew1 | refine below_set ?_ GE210.out | refine below_set ?_ GE217.out) | exact HB.out)) hb); clear HO203; clear HO209; clear HO216; clear HO220; clear HO224; clear HO228; clear BK210; clear BK217; clear HB; have HO203 := n0_; have HO209 := n1_; have HO216 := n2_; have HO220 := n3_; have HO224 := n4_; have HO228 := n5_; have BK210 := n6_; have BK217 := n7_; have HB := n8_; clear n0_ n1_ n2_ n3_ n4_ n5_ n6_ n7_ n8_; (try clear hb); (try clear hb2); (try clear hk); (try clear hi)))
    go_ret
    exact ⟨by first | rfl | (simp [errW_none, errW_some] <;> rfl) | (simp [*, errW_none, errW_some] <;> rfl), by repeat (first | (with_reducible first | exact HB.out | apply below_alloc | apply pw_below_drewN | apply below_drew1 | refine below_set ?_ GE210.out | refine below_set ?_ GE217.out) | exact HB.out)⟩
   ·rw [if_neg c6] at H
    have c6b0 : (t229 == 1) = false := beq_eq_false_iff_ne.mpr c6
    have c6b1 : (t229 != 1) = true := bne_iff_ne.mpr c6
    obtain rfl := Option.some.inj H
    go_enter Try.func22, Try.ntmps22
    go_wp2_with (first | ((with_reducible refine gate_dst (N := 4) rfl ?_); (try (refine gate_guard (by rfl) ?_; dsimp only)); refine Kd.R_lit (Kd.int .i64) _ 3 ?hg (N := 4) ?hd (xs := ([0, 1] : List Int)) (inner := [.int .i64 0, .int .i64 1]) (ok := fun _ => True) (okp := fun _ => True) ?hr ?hp (fun _ hk => hk) trivial (Below.refl _ _) (Nat.le_refl _) (by simp) ?_; (case hd => rfl); (case hg => rfl); (case hr => first | (go_simp; done) | (go_simp; rfl)); (case hp => exact (Reps.one (show Kd.M (Kd.int .i64) _ _ _ 0 [.int .i64 0] from rfl) (Reps.one (show Kd.M (Kd.int .i64) _ _ _ 1 [.int .i64 1] from rfl) (Reps.none _ _)))); intro v193 w54 ho55 hb hg_ hnew_; clear hg_ hnew_; (first | rw [← Ny192.out] at ho55 | (simp only [Int.reduceToNat] at ho55; rw [← Ny192.out] at ho55)); have n0_ := Aside0.mk (Kd.R_lower ho55 (below_size (by repeat (first | (with_reducible first | exact HB.out | apply below_alloc | apply pw_below_drewN | apply below_drew1) | exact HB.out)))); have n1_ := Aside0.mk (below_step (by repeat (first | (with_reducible first | exact HB.out | apply below_alloc | apply pw_below_drewN | apply below_drew1) | exact HB.out)) hb); clear HB; have HO194 := n0_; have HB := n1_; clear n0_ n1_; clear hb ho55; obtain ⟨Ao56, co56, eo56⟩ := Kd.R_slice HO194.out; subst eo56) | ((with_reducible refine gate_dst (N := 6) rfl ?_); (try (refine gate_guard (by rfl) ?_; dsimp only)); refine Kd.R_lit (Kd.int .i64) _ 3 ?hg (N := 6) ?hd (xs := ([0] : List Int)) (inner := [.int .i64 0]) (ok := fun _ => True) (okp := fun _ => True) ?hr ?hp (fun _ hk => hk) trivial (Below.refl _ _) (Nat.le_refl _) (by simp) ?_; (case hd => rfl); (case hg => rfl); (case hr => first | (go_simp; done) | (go_simp; rfl)); (case hp => exact (Reps.one (show Kd.M (Kd.int .i64) _ _ _ 0 [.int .i64 0] from rfl) (Reps.none _ _))); intro v196 w57 ho58 hb hg_ hnew_; clear hg_ hnew_; (first | rw [← Ny195.out] at ho58 | (simp only [Int.reduceToNat] at ho58; rw [← Ny195.out] at ho58)); have n0_ := Aside0.mk (Kd.R_elder' (by (with_reducible repeat (first | apply Kd.R_alloc | apply Kd.R_drewN | apply Kd.R_drew)); exact HO194.out) (Kd.R_base ho58) hb); have n1_ := Aside0.mk (Kd.R_lower (Kd.R_new' ho58 (Kd.R_lt (by (with_reducible repeat (first | apply Kd.R_alloc | apply Kd.R_drewN | apply Kd.R_drew)); exact HO194.out))) (below_size (by repeat (first | (with_reducible first | exact HB.out | apply below_alloc | apply pw_below_drewN | apply below_drew1) | exact HB.out)))); have n2_ := Aside0.mk (below_step (by repeat (first | (with_reducible first | exact HB.out | apply below_alloc | apply pw_below_drewN | apply below_drew1) | exact HB.out)) hb); clear HO194; clear HB; have HO194 := n0_; have HO197 := n1_; have HB := n2_; clear n0_ n1_ n2_; clear hb ho58; obtain ⟨Ao59, co59, eo59⟩ := Kd.R_slice HO197.out; subst eo59) | ((with_reducible refine gate_dst (N := 8) rfl ?_); (try (refine gate_guard (by rfl) ?_; dsimp only)); refine Kd.R_lit (Kd.int .i64) _ 3 ?hg (N := 8) ?hd (xs := ([1] : List Int)) (inner := [.int .i64 1]) (ok := fun _ => True) (okp := fun _ => True) ?hr ?hp (fun _ hk => hk) trivial (Below.refl _ _) (Nat.le_refl _) (by simp) ?_; (case hd => rfl); (case hg => rfl); (case hr => first | (go_simp; done) | (go_simp; rfl)); (case hp => exact (Reps.one (show Kd.M (Kd.int .i64) _ _ _ 1 [.int .i64 1] from rfl) (Reps.none _ _))); intro v199 w60 ho61 hb hg_ hnew_; clear hg_ hnew_; (first | rw [← Ny198.out] at ho61 | (simp only [Int.reduceToNat] at ho61; rw [← Ny198.out] at ho61)); have n0_ := Aside0.mk (Kd.R_elder' (by (with_reducible repeat (first | apply Kd.R_alloc | apply Kd.R_drewN | apply Kd.R_drew)); exact HO194.out) (Kd.R_base ho61) hb); have n1_ := Aside0.mk (Kd.R_elder' (by (with_reducible repeat (first | apply Kd.R_alloc | apply Kd.R_drewN | apply Kd.R_drew)); exact HO197.out) (Kd.R_base ho61) hb); have n2_ := Aside0.mk (Kd.R_lower (Kd.R_new' (Kd.R_new' ho61 (Kd.R_lt (by (with_reducible repeat (first | apply Kd.R_alloc | apply Kd.R_drewN | apply Kd.R_drew)); exact HO194.out))) (Kd.R_lt (by (with_reducible repeat (first | apply Kd.R_alloc | apply Kd.R_drewN | apply Kd.R_drew)); exact HO197.out))) (below_size (by repeat (first | (with_reducible first | exact HB.out | apply below_alloc | apply pw_below_drewN | apply below_drew1) | exact HB.out)))); have n3_ := Aside0.mk (below_step (by repeat (first | (with_reducible first | exact HB.out | apply below_alloc | apply pw_below_drewN | apply below_drew1) | exact HB.out)) hb); clear HO194; clear HO197; clear HB; have HO194 := n0_; have HO197 := n1_; have HO200 := n2_; have HB := n3_; clear n0_ n1_ n2_ n3_; clear hb ho61; obtain ⟨Ao62, co62, eo62⟩ := Kd.R_slice HO200.out; subst eo62) | ((with_reducible refine gate_dst (N := 10) rfl ?_); (try (refine gate_guard (by rfl) ?_; dsimp only)); refine Kd.N_lit k82 _ 82 ?hg (N' := 10) ?hd (xs := ([(⟨1, 6, y192⟩ : S82), (⟨2, 4, y195⟩ : S82), (⟨3, 4, y198⟩ : S82)] : List (S82))) (inner := [.int .i64 1, .int .i64 6, .slice Ao56 y192.length co56, .int .i64 2, .int .i64 4, .slice Ao59 y195.length co59, .int .i64 3, .int .i64 4, .slice Ao62 y198.length co62]) (ok := (fun _ => True)) (okp := (fun _ => True)) ?hr ?hp (fun _ hk => hk) ((show ∀ k_, w60.heap.size ≤ k_ → (fun _ => True) k_ from fun k_ hk => trivial) _ (Nat.le_refl _)) (Below.refl _ _) (Nat.le_refl _) (by simp) ?_; (case hd => rfl); (case hg => rfl); (case hr => first | (go_simp; done) | (go_simp; rfl)); (case hp => exact (Reps.c3 (show Kd.FK k82 _ _ (⟨1, 6, y192⟩ : S82) [.int .i64 1, .int .i64 6, .slice Ao56 y192.length co56] from (k82_mkF _ _ (⟨1, 6, y192⟩ : S82) (Kd.R_reads' (Kd.R_mono (ok' := (fun _ => True)) (HO194.out) (fun k_ hk => trivial))).2.1 (Kd.R_F (Kd.R_mono (ok' := (fun _ => True)) (HO194.out) (fun k_ hk => trivial))))) (Reps.c3 (show Kd.FK k82 _ _ (⟨2, 4, y195⟩ : S82) [.int .i64 2, .int .i64 4, .slice Ao59 y195.length co59] from (k82_mkF _ _ (⟨2, 4, y195⟩ : S82) (Kd.R_reads' (Kd.R_mono (ok' := (fun _ => True)) (HO197.out) (fun k_ hk => trivial))).2.1 (Kd.R_F (Kd.R_mono (ok' := (fun _ => True)) (HO197.out) (fun k_ hk => trivial))))) (Reps.c3 (show Kd.FK k82 _ _ (⟨3, 4, y198⟩ : S82) [.int .i64 3, .int .i64 4, .slice Ao62 y198.length co62] from (k82_mkF _ _ (⟨3, 4, y198⟩ : S82) (Kd.R_reads' (Kd.R_mono (ok' := (fun _ => True)) (HO200.out) (fun k_ hk => trivial))).2.1 (Kd.R_F (Kd.R_mono (ok' := (fun _ => True)) (HO200.out) (fun k_ hk => trivial))))) (Reps.none _ _))))); intro v202 w63 ho64 hb hg_ hnew_; clear hg_ hnew_; (first | rw [← Ny201.out] at ho64 | (simp only [Int.reduceToNat] at ho64; rw [← Ny201.out] at ho64)); have n0_ := Aside0.mk (Kd.N_lower ho64 (below_size (by repeat (first | (with_reducible first | exact HB.out | apply below_alloc | apply pw_below_drewN | apply below_drew1) | exact HB.out)))); have n1_ := Aside0.mk (below_step (by repeat (first | (with_reducible first | exact HB.out | apply below_alloc | apply pw_below_drewN | apply below_drew1) | exact HB.out)) hb); clear HB; clear HO194; clear HO197; clear HO200; have HO203 := n0_; have HB := n1_; clear n0_ n1_; clear hb ho64) | ((with_reducible refine gate_dst (N := 11) rfl ?_); (try (refine gate_guard (by rfl) ?_; dsimp only)); refine Kd.R_lit (Kd.int .i64) _ 3 ?hg (N := 11) ?hd (xs := ([3, 3] : List Int)) (inner := [.int .i64 3, .int .i64 3]) (ok := fun _ => True) (okp := fun _ => True) ?hr ?hp (fun _ hk => hk) trivial (Below.refl _ _) (Nat.le_refl _) (by simp) ?_; (case hd => rfl); (case hg => rfl); (case hr => first | (go_simp; done) | (go_simp; rfl)); (case hp => exact (Reps.one (show Kd.M (Kd.int .i64) _ _ _ 3 [.int .i64 3] from rfl) (Reps.one (show Kd.M (Kd.int .i64) _ _ _ 3 [.int .i64 3] from rfl) (Reps.none _ _)))); intro v205 w65 ho66 hb hg_ hnew_; clear hg_ hnew_; (first | rw [← Ny204.out] at ho66 | (simp only [Int.reduceToNat] at ho66; rw [← Ny204.out] at ho66)); have n0_ := Aside0.mk (Kd.N_elder' (by (with_reducible repeat (first | apply Kd.N_alloc | apply Kd.N_drewN | apply Kd.N_drew)); exact HO203.out) (Kd.R_base ho66) hb); have n1_ := Aside0.mk (Kd.R_lower ho66 (below_size (by repeat (first | (with_reducible first | exact HB.out | apply below_alloc | apply pw_below_drewN | apply below_drew1) | exact HB.out)))); have n2_ := Aside0.mk (below_step (by repeat (first | (with_reducible first | exact HB.out | apply below_alloc | apply pw_below_drewN | apply below_drew1) | exact HB.out)) hb); clear HO203; clear HB; have HO203 := n0_; have HO206 := n1_; have HB := n2_; clear n0_ n1_ n2_; clear hb ho66; obtain ⟨Ao67, co67, eo67⟩ := Kd.R_slice HO206.out; subst eo67) | ((with_reducible refine gate_dst (N := 13) rfl ?_); (try (refine gate_guard (by rfl) ?_; dsimp only)); refine Kd.N_lit k55 _ 55 ?hg (N' := 13) ?hd (xs := ([(⟨(-1), 0, 0, y204⟩ : S55)] : List (S55))) (inner := [.int .i64 (-1), .int .i64 0, .int .i64 0, .slice Ao67 y204.length co67]) (ok := (fun k_ => some k_ ≠ (v202 : Value).ownBlock)) (okp := (fun k_ => some k_ ≠ (v202 : Value).ownBlock)) ?hr ?hp (fun _ hk => hk) ((show ∀ k_, w65.heap.size ≤ k_ → (fun k_ => some k_ ≠ (v202 : Value).ownBlock) k_ from fun k_ hk => Kd.fresh' (Kd.N_lt (by (with_reducible repeat (first | apply Kd.N_alloc | apply Kd.N_drewN | apply Kd.N_drew)); exact HO203.out)) k_ hk) _ (Nat.le_refl _)) (Below.refl _ _) (Nat.le_refl _) (by simp) ?_; (case hd => rfl); (case hg => rfl); (case hr => first | (go_simp; done) | (go_simp; rfl)); (case hp => exact (Reps.c4 (show Kd.FK k55 _ _ (⟨(-1), 0, 0, y204⟩ : S55) [.int .i64 (-1), .int .i64 0, .int .i64 0, .slice Ao67 y204.length co67] from (k55_mkF _ _ (⟨(-1), 0, 0, y204⟩ : S55) (Kd.R_reads' (Kd.R_mono (ok' := (fun k_ => some k_ ≠ (v202 : Value).ownBlock)) (Kd.R_apart' (HO206.out) (Kd.N_typed HO203.out) (by decide)) (fun k_ hk => hk.2))).2.1 (Kd.R_F (Kd.R_mono (ok' := (fun k_ => some k_ ≠ (v202 : Value).ownBlock)) (Kd.R_apart' (HO206.out) (Kd.N_typed HO203.out) (by decide)) (fun k_ hk => hk.2))))) (Reps.none _ _))); intro v208 w68 ho69 hb hg_ hnew_; clear hg_ hnew_; (first | rw [← Ny207.out] at ho69 | (simp only [Int.reduceToNat] at ho69; rw [← Ny207.out] at ho69)); have n0_ := Aside0.mk (Kd.N_elder' (by (with_reducible repeat (first | apply Kd.N_alloc | apply Kd.N_drewN | apply Kd.N_drew)); exact HO203.out) (Kd.N_base ho69) hb); have n1_ := Aside0.mk (Kd.N_lower ho69 (below_size (by repeat (first | (with_reducible first | exact HB.out | apply below_alloc | apply pw_below_drewN | apply below_drew1) | exact HB.out)))); have n2_ := Aside0.mk (below_step (by repeat (first | (with_reducible first | exact HB.out | apply below_alloc | apply pw_below_drewN | apply below_drew1) | exact HB.out)) hb); clear HO203; clear HB; clear HO206; have HO203 := n0_; have HO209 := n1_; have HB := n2_; clear n0_ n1_ n2_; clear hb ho69; obtain ⟨Ao70, co70, eo70⟩ := Kd.N_slice HO209.out; subst eo70) | ((with_reducible refine gate_dst (N := 2) rfl ?_); (try (refine gate_guard (by rfl) ?_; dsimp only)); refine box_event ?hg (N := 2) ?hd (cs := #[.int .i64 0, .slice none 0 0]) (t := 44) ?hr ?_; (case hd => rfl); (case hg => rfl); (case hr => first | (go_simp; done) | (go_simp; rfl)); intro gb210 hg w71 hbox hb; have n0_ := Aside0.mk (Kd.N_below (Kd.N_elderB (by (with_reducible repeat (first | apply Kd.N_alloc | apply Kd.N_drewN | apply Kd.N_drew)); exact HO203.out) gb210 (Nat.le_of_eq hg.symm)) hb); have n1_ := Aside0.mk (Kd.N_below (Kd.N_elderB (by (with_reducible repeat (first | apply Kd.N_alloc | apply Kd.N_drewN | apply Kd.N_drew)); exact HO209.out) gb210 (Nat.le_of_eq hg.symm)) hb); have n2_ := Aside0.mk (below_step (by repeat (first | (with_reducible first | exact HB.out | apply below_alloc | apply pw_below_drewN | apply below_drew1) | exact HB.out)) hb); have n3_ := Aside0.mk (hbox); have n4_ := Aside0.mk ((by rw [hg]; exact (below_size (by repeat (first | (with_reducible first | exact HB.out | apply below_alloc | apply pw_below_drewN | apply below_drew1) | exact HB.out))) : w.heap.size ≤ gb210)); have n5_ := Aside0.mk ((by rw [hg]; exact (below_size (by repeat (first | (with_reducible first | exact HB.out | apply below_alloc | apply pw_below_drewN | apply below_drew1) | exact HB.out))) : w.heap.size ≤ gb210)); clear HO203; clear HO209; clear HB; have HO203 := n0_; have HO209 := n1_; have HB := n2_; have BK210 := n3_; have GW210 := n4_; have GE210 := n5_; clear n0_ n1_ n2_ n3_ n4_ n5_; clear hb hbox hg; have hcz72_0 : w71.cell? ⟨gb210, 0, none⟩ = some (.int .i64 0) := (blk_cell BK210.out 0).trans rfl; have hcz72_1 : w71.cell? ⟨gb210, 1, none⟩ = some (.slice none 0 0) := (blk_cell BK210.out 1).trans rfl; have hfz72_0 := blk_frozen BK210.out 0; have hfz72_1 := blk_frozen BK210.out 1) | ((with_reducible refine gate_dst (N := 15) rfl ?_); (try (refine gate_guard (by rfl) ?_; dsimp only)); refine Kd.R_lit (Kd.int .i64) _ 3 ?hg (N := 15) ?hd (xs := ([0, 0] : List Int)) (inner := [.int .i64 0, .int .i64 0]) (ok := fun _ => True) (okp := fun _ => True) ?hr ?hp (fun _ hk => hk) trivial (Below.refl _ _) (Nat.le_refl _) (by simp) ?_; (case hd => rfl); (case hg => rfl); (case hr => first | (go_simp; done) | (go_simp; rfl)); (case hp => exact (Reps.one (show Kd.M (Kd.int .i64) _ _ _ 0 [.int .i64 0] from rfl) (Reps.one (show Kd.M (Kd.int .i64) _ _ _ 0 [.int .i64 0] from rfl) (Reps.none _ _)))); intro v212 w73 ho74 hb hg_ hnew_; clear hg_ hnew_; (first | rw [← Ny211.out] at ho74 | (simp only [Int.reduceToNat] at ho74; rw [← Ny211.out] at ho74)); have n0_ := Aside0.mk (Kd.N_elder' (by (with_reducible repeat (first | apply Kd.N_alloc | apply Kd.N_drewN | apply Kd.N_drew)); exact (Kd.N_mono (Kd.N_far (p := ⟨gb210, 1, none⟩) (Kd.N_far (p := ⟨gb210, 0, none⟩) (Kd.N_mono HO203.out (fun k_ hk => (⟨hk, hk.2⟩ : _ ∧ k_ ≠ gb210))) (fun _ hk => hk.2) (.int .i64 8)) (fun _ hk => hk.2) (.slice Ao70 y207.length co70)) (fun _ h_ => h_.1))) (Kd.R_base ho74) hb); have n1_ := Aside0.mk (Kd.N_elder' (by (with_reducible repeat (first | apply Kd.N_alloc | apply Kd.N_drewN | apply Kd.N_drew)); exact (Kd.N_mono (Kd.N_far (p := ⟨gb210, 1, none⟩) (Kd.N_far (p := ⟨gb210, 0, none⟩) (Kd.N_mono HO209.out (fun k_ hk => (⟨hk, hk.2⟩ : _ ∧ k_ ≠ gb210))) (fun _ hk => hk.2) (.int .i64 8)) (fun _ hk => hk.2) (.slice Ao70 y207.length co70)) (fun _ h_ => h_.1))) (Kd.R_base ho74) hb); have n2_ := Aside0.mk (Kd.R_lower ho74 (below_size (by repeat (first | (with_reducible first | exact HB.out | apply below_alloc | apply pw_below_drewN | apply below_drew1 | refine below_set ?_ GE210.out) | exact HB.out)))); have n3_ := Aside0.mk (blk_below (g := gb210) (o := .cells #[.int .i64 8, .slice Ao70 y207.length co70] 44 (0, 0)) (by (with_reducible repeat (first | refine blk_drewN ?_ _ | refine blk_drew ?_ | refine blk_alloc ?_ _)); refine blk_put (cs := #[.int .i64 8, .slice none 0 0]) ?_ 1 _ rfl; (with_reducible repeat (first | refine blk_drewN ?_ _ | refine blk_drew ?_ | refine blk_alloc ?_ _)); refine blk_put (cs := #[.int .i64 0, .slice none 0 0]) ?_ 0 _ rfl; (with_reducible repeat (first | refine blk_drewN ?_ _ | refine blk_drew ?_ | refine blk_alloc ?_ _)); exact BK210.out) hb); have n4_ := Aside0.mk (below_step (by repeat (first | (with_reducible first | exact HB.out | apply below_alloc | apply pw_below_drewN | apply below_drew1 | refine below_set ?_ GE210.out) | exact HB.out)) hb); clear HO203; clear HO209; clear BK210; clear HB; have HO203 := n0_; have HO209 := n1_; have HO213 := n2_; have BK210 := n3_; have HB := n4_; clear n0_ n1_ n2_ n3_ n4_; clear hb ho74; obtain ⟨Ao75, co75, eo75⟩ := Kd.R_slice HO213.out; subst eo75) | ((with_reducible refine gate_dst (N := 17) rfl ?_); (try (refine gate_guard (by rfl) ?_; dsimp only)); refine Kd.N_lit k55 _ 55 ?hg (N' := 17) ?hd (xs := ([(⟨(-1), 0, 0, y211⟩ : S55)] : List (S55))) (inner := [.int .i64 (-1), .int .i64 0, .int .i64 0, .slice Ao75 y211.length co75]) (ok := (fun k_ => some k_ ≠ (v202 : Value).ownBlock ∧ some k_ ≠ (.slice Ao70 y207.length co70 : Value).ownBlock ∧ k_ ≠ gb210)) (okp := (fun k_ => some k_ ≠ (v202 : Value).ownBlock ∧ some k_ ≠ (.slice Ao70 y207.length co70 : Value).ownBlock ∧ k_ ≠ gb210)) ?hr ?hp (fun _ hk => hk) ((show ∀ k_, w73.heap.size ≤ k_ → (fun k_ => some k_ ≠ (v202 : Value).ownBlock ∧ some k_ ≠ (.slice Ao70 y207.length co70 : Value).ownBlock ∧ k_ ≠ gb210) k_ from fun k_ hk => ⟨Kd.fresh' (Kd.N_lt (by (with_reducible repeat (first | apply Kd.N_alloc | apply Kd.N_drewN | apply Kd.N_drew)); exact HO203.out)) k_ hk, Kd.fresh' (Kd.N_lt (by (with_reducible repeat (first | apply Kd.N_alloc | apply Kd.N_drewN | apply Kd.N_drew)); exact HO209.out)) k_ hk, Kd.freshB (g := gb210) (o := .cells #[.int .i64 8, .slice Ao70 y207.length co70] 44 (0, 0)) (by (with_reducible repeat (first | refine blk_drewN ?_ _ | refine blk_drew ?_ | refine blk_alloc ?_ _)); exact BK210.out) k_ hk⟩) _ (Nat.le_refl _)) (Below.refl _ _) (Nat.le_refl _) (by simp) ?_; (case hd => rfl); (case hg => rfl); (case hr => first | (go_simp; done) | (go_simp; rfl)); (case hp => exact (Reps.c4 (show Kd.FK k55 _ _ (⟨(-1), 0, 0, y211⟩ : S55) [.int .i64 (-1), .int .i64 0, .int .i64 0, .slice Ao75 y211.length co75] from (k55_mkF _ _ (⟨(-1), 0, 0, y211⟩ : S55) (Kd.R_reads' (Kd.R_mono (ok' := (fun k_ => some k_ ≠ (v202 : Value).ownBlock ∧ some k_ ≠ (.slice Ao70 y207.length co70 : Value).ownBlock ∧ k_ ≠ gb210)) (Kd.R_types (Kd.R_apart' (Kd.R_apart' (HO213.out) (Kd.N_typed HO203.out) (by decide)) (Kd.N_typed HO209.out) (by decide)) BK210.out (by decide)) (fun k_ hk => ⟨hk.1.1.2, ⟨hk.1.2, hk.2⟩⟩))).2.1 (Kd.R_F (Kd.R_mono (ok' := (fun k_ => some k_ ≠ (v202 : Value).ownBlock ∧ some k_ ≠ (.slice Ao70 y207.length co70 : Value).ownBlock ∧ k_ ≠ gb210)) (Kd.R_types (Kd.R_apart' (Kd.R_apart' (HO213.out) (Kd.N_typed HO203.out) (by decide)) (Kd.N_typed HO209.out) (by decide)) BK210.out (by decide)) (fun k_ hk => ⟨hk.1.1.2, ⟨hk.1.2, hk.2⟩⟩))))) (Reps.none _ _))); intro v215 w76 ho77 hb hg_ hnew_; clear hg_ hnew_; (first | rw [← Ny214.out] at ho77 | (simp only [Int.reduceToNat] at ho77; rw [← Ny214.out] at ho77)); have n0_ := Aside0.mk (Kd.N_elder' (by (with_reducible repeat (first | apply Kd.N_alloc | apply Kd.N_drewN | apply Kd.N_drew)); exact HO203.out) (Kd.N_base ho77) hb); have n1_ := Aside0.mk (Kd.N_elder' (by (with_reducible repeat (first | apply Kd.N_alloc | apply Kd.N_drewN | apply Kd.N_drew)); exact HO209.out) (Kd.N_base ho77) hb); have n2_ := Aside0.mk (Kd.N_lower ho77 (below_size (by repeat (first | (with_reducible first | exact HB.out | apply below_alloc | apply pw_below_drewN | apply below_drew1 | refine below_set ?_ GE210.out) | exact HB.out)))); have n3_ := Aside0.mk (blk_below (g := gb210) (o := .cells #[.int .i64 8, .slice Ao70 y207.length co70] 44 (0, 0)) (by (with_reducible repeat (first | refine blk_drewN ?_ _ | refine blk_drew ?_ | refine blk_alloc ?_ _)); exact BK210.out) hb); have n4_ := Aside0.mk (below_step (by repeat (first | (with_reducible first | exact HB.out | apply below_alloc | apply pw_below_drewN | apply below_drew1 | refine below_set ?_ GE210.out) | exact HB.out)) hb); clear HO203; clear HO209; clear BK210; clear HB; clear HO213; have HO203 := n0_; have HO209 := n1_; have HO216 := n2_; have BK210 := n3_; have HB := n4_; clear n0_ n1_ n2_ n3_ n4_; clear hb ho77; obtain ⟨Ao78, co78, eo78⟩ := Kd.N_slice HO216.out; subst eo78) | ((with_reducible refine gate_dst (N := 3) rfl ?_); (try (refine gate_guard (by rfl) ?_; dsimp only)); refine box_event ?hg (N := 3) ?hd (cs := #[.int .i64 0, .slice none 0 0]) (t := 44) ?hr ?_; (case hd => rfl); (case hg => rfl); (case hr => first | (go_simp; done) | (go_simp; rfl)); intro gb217 hg w79 hbox hb; have n0_ := Aside0.mk (Kd.N_below (Kd.N_elderB (by (with_reducible repeat (first | apply Kd.N_alloc | apply Kd.N_drewN | apply Kd.N_drew)); exact HO203.out) gb217 (Nat.le_of_eq hg.symm)) hb); have n1_ := Aside0.mk (Kd.N_below (Kd.N_elderB (by (with_reducible repeat (first | apply Kd.N_alloc | apply Kd.N_drewN | apply Kd.N_drew)); exact HO209.out) gb217 (Nat.le_of_eq hg.symm)) hb); have n2_ := Aside0.mk (Kd.N_below (Kd.N_elderB (by (with_reducible repeat (first | apply Kd.N_alloc | apply Kd.N_drewN | apply Kd.N_drew)); exact HO216.out) gb217 (Nat.le_of_eq hg.symm)) hb); have n3_ := Aside0.mk (blk_below (g := gb210) (o := .cells #[.int .i64 8, .slice Ao70 y207.length co70] 44 (0, 0)) (by (with_reducible repeat (first | refine blk_drewN ?_ _ | refine blk_drew ?_ | refine blk_alloc ?_ _)); exact BK210.out) hb); have n4_ := Aside0.mk (below_step (by repeat (first | (with_reducible first | exact HB.out | apply below_alloc | apply pw_below_drewN | apply below_drew1 | refine below_set ?_ GE210.out) | exact HB.out)) hb); have n5_ := Aside0.mk (hbox); have n6_ := Aside0.mk ((by rw [hg]; exact (below_size (by repeat (first | (with_reducible first | exact HB.out | apply below_alloc | apply pw_below_drewN | apply below_drew1 | refine below_set ?_ GE210.out) | exact HB.out))) : w.heap.size ≤ gb217)); have n7_ := Aside0.mk ((by rw [hg]; exact (below_size (by repeat (first | (with_reducible first | exact HB.out | apply below_alloc | apply pw_below_drewN | apply below_drew1 | refine below_set ?_ GE210.out) | exact HB.out))) : w.heap.size ≤ gb217)); have n8_ := Aside0.mk ((by rw [hg]; exact Nat.ne_of_lt (blk_lt (g := gb210) (o := .cells #[.int .i64 8, .slice Ao70 y207.length co70] 44 (0, 0)) (by (with_reducible repeat (first | refine blk_drewN ?_ _ | refine blk_drew ?_ | refine blk_alloc ?_ _)); exact BK210.out)) : gb210 ≠ gb217)); have n9_ := Aside0.mk ((by rw [hg]; exact Nat.ne_of_gt (blk_lt (g := gb210) (o := .cells #[.int .i64 8, .slice Ao70 y207.length co70] 44 (0, 0)) (by (with_reducible repeat (first | refine blk_drewN ?_ _ | refine blk_drew ?_ | refine blk_alloc ?_ _)); exact BK210.out)) : gb217 ≠ gb210)); clear HO203; clear HO209; clear HO216; clear BK210; clear HB; have HO203 := n0_; have HO209 := n1_; have HO216 := n2_; have BK210 := n3_; have HB := n4_; have BK217 := n5_; have GW217 := n6_; have GE217 := n7_; have NB210_217 := n8_; have NB217_210 := n9_; clear n0_ n1_ n2_ n3_ n4_ n5_ n6_ n7_ n8_ n9_; clear hb hbox hg; have hnb80 := NB217_210.out; have hnc80 := NB210_217.out; have hcz81_0 : w79.cell? ⟨gb217, 0, none⟩ = some (.int .i64 0) := (blk_cell BK217.out 0).trans rfl; have hcz81_1 : w79.cell? ⟨gb217, 1, none⟩ = some (.slice none 0 0) := (blk_cell BK217.out 1).trans rfl; have hfz81_0 := blk_frozen BK217.out 0; have hfz81_1 := blk_frozen BK217.out 1) | ((with_reducible refine gate_dst (N := 20) rfl ?_); (try (refine gate_guard (by rfl) ?_; dsimp only)); refine Kd.R_lit (Kd.int .i64) _ 3 ?hg (N := 20) ?hd (xs := ([1, 2] : List Int)) (inner := [.int .i64 1, .int .i64 2]) (ok := fun _ => True) (okp := fun _ => True) ?hr ?hp (fun _ hk => hk) trivial (Below.refl _ _) (Nat.le_refl _) (by simp) ?_; (case hd => rfl); (case hg => rfl); (case hr => first | (go_simp; done) | (go_simp; rfl)); (case hp => exact (Reps.one (show Kd.M (Kd.int .i64) _ _ _ 1 [.int .i64 1] from rfl) (Reps.one (show Kd.M (Kd.int .i64) _ _ _ 2 [.int .i64 2] from rfl) (Reps.none _ _)))); intro v219 w82 ho83 hb hg_ hnew_; clear hg_ hnew_; (first | rw [← Ny218.out] at ho83 | (simp only [Int.reduceToNat] at ho83; rw [← Ny218.out] at ho83)); have n0_ := Aside0.mk (Kd.N_elder' (by (with_reducible repeat (first | apply Kd.N_alloc | apply Kd.N_drewN | apply Kd.N_drew)); exact (Kd.N_mono (Kd.N_far (p := ⟨gb217, 1, none⟩) (Kd.N_far (p := ⟨gb217, 0, none⟩) (Kd.N_mono HO203.out (fun k_ hk => (⟨hk, hk.2⟩ : _ ∧ k_ ≠ gb217))) (fun _ hk => hk.2) (.int .i64 8)) (fun _ hk => hk.2) (.slice Ao78 y214.length co78)) (fun _ h_ => h_.1))) (Kd.R_base ho83) hb); have n1_ := Aside0.mk (Kd.N_elder' (by (with_reducible repeat (first | apply Kd.N_alloc | apply Kd.N_drewN | apply Kd.N_drew)); exact (Kd.N_mono (Kd.N_far (p := ⟨gb217, 1, none⟩) (Kd.N_far (p := ⟨gb217, 0, none⟩) (Kd.N_mono HO209.out (fun k_ hk => (⟨hk, hk.2⟩ : _ ∧ k_ ≠ gb217))) (fun _ hk => hk.2) (.int .i64 8)) (fun _ hk => hk.2) (.slice Ao78 y214.length co78)) (fun _ h_ => h_.1))) (Kd.R_base ho83) hb); have n2_ := Aside0.mk (Kd.N_elder' (by (with_reducible repeat (first | apply Kd.N_alloc | apply Kd.N_drewN | apply Kd.N_drew)); exact (Kd.N_mono (Kd.N_far (p := ⟨gb217, 1, none⟩) (Kd.N_far (p := ⟨gb217, 0, none⟩) (Kd.N_mono HO216.out (fun k_ hk => (⟨hk, hk.2⟩ : _ ∧ k_ ≠ gb217))) (fun _ hk => hk.2) (.int .i64 8)) (fun _ hk => hk.2) (.slice Ao78 y214.length co78)) (fun _ h_ => h_.1))) (Kd.R_base ho83) hb); have n3_ := Aside0.mk (Kd.R_lower ho83 (below_size (by repeat (first | (with_reducible first | exact HB.out | apply below_alloc | apply pw_below_drewN | apply below_drew1 | refine below_set ?_ GE210.out | refine below_set ?_ GE217.out) | exact HB.out)))); have n4_ := Aside0.mk (blk_below (g := gb210) (o := .cells #[.int .i64 8, .slice Ao70 y207.length co70] 44 (0, 0)) (by (with_reducible repeat (first | refine blk_drewN ?_ _ | refine blk_drew ?_ | refine blk_alloc ?_ _)); refine blk_far ?_ NB210_217.out _; (with_reducible repeat (first | refine blk_drewN ?_ _ | refine blk_drew ?_ | refine blk_alloc ?_ _)); refine blk_far ?_ NB210_217.out _; (with_reducible repeat (first | refine blk_drewN ?_ _ | refine blk_drew ?_ | refine blk_alloc ?_ _)); exact BK210.out) hb); have n5_ := Aside0.mk (blk_below (g := gb217) (o := .cells #[.int .i64 8, .slice Ao78 y214.length co78] 44 (0, 0)) (by (with_reducible repeat (first | refine blk_drewN ?_ _ | refine blk_drew ?_ | refine blk_alloc ?_ _)); refine blk_put (cs := #[.int .i64 8, .slice none 0 0]) ?_ 1 _ rfl; (with_reducible repeat (first | refine blk_drewN ?_ _ | refine blk_drew ?_ | refine blk_alloc ?_ _)); refine blk_put (cs := #[.int .i64 0, .slice none 0 0]) ?_ 0 _ rfl; (with_reducible repeat (first | refine blk_drewN ?_ _ | refine blk_drew ?_ | refine blk_alloc ?_ _)); exact BK217.out) hb); have n6_ := Aside0.mk (below_step (by repeat (first | (with_reducible first | exact HB.out | apply below_alloc | apply pw_below_drewN | apply below_drew1 | refine below_set ?_ GE210.out | refine below_set ?_ GE217.out) | exact HB.out)) hb); clear HO203; clear HO209; clear HO216; clear BK210; clear BK217; clear HB; have HO203 := n0_; have HO209 := n1_; have HO216 := n2_; have HO220 := n3_; have BK210 := n4_; have BK217 := n5_; have HB := n6_; clear n0_ n1_ n2_ n3_ n4_ n5_ n6_; clear hb ho83; have hcz84_0 : w82.cell? ⟨gb210, 0, none⟩ = some (.int .i64 8) := (blk_cell BK210.out 0).trans rfl; have hcz84_1 : w82.cell? ⟨gb210, 1, none⟩ = some (.slice Ao70 y207.length co70) := (blk_cell BK210.out 1).trans rfl; have hfz84_0 := blk_frozen BK210.out 0; have hfz84_1 := blk_frozen BK210.out 1; obtain ⟨Ao85, co85, eo85⟩ := Kd.N_slice HO203.out; subst eo85; obtain ⟨Ao86, co86, eo86⟩ := Kd.R_slice HO220.out; subst eo86) | ((with_reducible refine gate_callee (f := 18) rfl ?_); refine goesL_ (some 22) rfl rfl Try.func18 (by kernel_rfl) rfl #[.int .i64 2, .slice Ao85 y201.length co85, .slice Ao86 y218.length co86, .agg #[.int .i64 8, .slice Ao70 y207.length co70]] rfl (by (try simp only [List.map_toArray, List.map_cons, List.map_nil]); first | done | rfl | (simp only [List.length_drop, List.length_take]; rfl)) ?_; (with_reducible refine (proof_Check.calls 2 _ _ y201 _ _ y218 8 _ _ y207 t221 _ ?side1 ?side2 ?side3 ?side4 ?side5 ?side6 A1.out).mono ?_); (case side1 => repeat (first | exact (Kd.N_reads' HO203.out).2.2 | (with_reducible refine Kd.C_alloc ?_ _) | (with_reducible refine Kd.C_drewN ?_ _) | (with_reducible refine Kd.C_drew ?_))); (case side2 => exact (Kd.N_reads' HO203.out).2.1); (case side3 => repeat (first | exact (Kd.R_reads' HO220.out).2.2 | (with_reducible refine Kd.C_alloc ?_ _) | (with_reducible refine Kd.C_drewN ?_ _) | (with_reducible refine Kd.C_drew ?_))); (case side4 => exact (Kd.R_reads' HO220.out).2.1); (case side5 => repeat (first | exact (Kd.N_reads' HO209.out).2.2 | (with_reducible refine Kd.C_alloc ?_ _) | (with_reducible refine Kd.C_drewN ?_ _) | (with_reducible refine Kd.C_drew ?_))); (case side6 => exact (Kd.N_reads' HO209.out).2.1); rintro e w87 ⟨rfl, hb⟩; refine ⟨_, rfl, ?_⟩; have n0_ := Aside0.mk (Kd.N_below (by (with_reducible repeat (first | apply Kd.N_alloc | apply Kd.N_drewN | apply Kd.N_drew)); exact HO203.out) hb); have n1_ := Aside0.mk (Kd.N_below (by (with_reducible repeat (first | apply Kd.N_alloc | apply Kd.N_drewN | apply Kd.N_drew)); exact HO209.out) hb); have n2_ := Aside0.mk (Kd.N_below (by (with_reducible repeat (first | apply Kd.N_alloc | apply Kd.N_drewN | apply Kd.N_drew)); exact HO216.out) hb); have n3_ := Aside0.mk (Kd.R_below (by (with_reducible repeat (first | apply Kd.R_alloc | apply Kd.R_drewN | apply Kd.R_drew)); exact HO220.out) hb); have n4_ := Aside0.mk (blk_below (g := gb210) (o := .cells #[.int .i64 8, .slice Ao70 y207.length co70] 44 (0, 0)) (by (with_reducible repeat (first | refine blk_drewN ?_ _ | refine blk_drew ?_ | refine blk_alloc ?_ _)); exact BK210.out) hb); have n5_ := Aside0.mk (blk_below (g := gb217) (o := .cells #[.int .i64 8, .slice Ao78 y214.length co78] 44 (0, 0)) (by (with_reducible repeat (first | refine blk_drewN ?_ _ | refine blk_drew ?_ | refine blk_alloc ?_ _)); exact BK217.out) hb); have n6_ := Aside0.mk (below_step (by repeat (first | (with_reducible first | exact HB.out | apply below_alloc | apply pw_below_drewN | apply below_drew1 | refine below_set ?_ GE210.out | refine below_set ?_ GE217.out) | exact HB.out)) hb); clear HO203; clear HO209; clear HO216; clear HO220; clear BK210; clear BK217; clear HB; have HO203 := n0_; have HO209 := n1_; have HO216 := n2_; have HO220 := n3_; have BK210 := n4_; have BK217 := n5_; have HB := n6_; clear n0_ n1_ n2_ n3_ n4_ n5_ n6_; (try clear hb); (try clear hb2); (try clear hk); (try clear hi)) | ((with_reducible refine gate_dst (N := 26) rfl ?_); (try (refine gate_guard (by rfl) ?_; dsimp only)); refine Kd.R_lit (Kd.int .i64) _ 3 ?hg (N := 26) ?hd (xs := ([1, 2] : List Int)) (inner := [.int .i64 1, .int .i64 2]) (ok := fun _ => True) (okp := fun _ => True) ?hr ?hp (fun _ hk => hk) trivial (Below.refl _ _) (Nat.le_refl _) (by simp) ?_; (case hd => rfl); (case hg => rfl); (case hr => first | (go_simp; done) | (go_simp; rfl)); (case hp => exact (Reps.one (show Kd.M (Kd.int .i64) _ _ _ 1 [.int .i64 1] from rfl) (Reps.one (show Kd.M (Kd.int .i64) _ _ _ 2 [.int .i64 2] from rfl) (Reps.none _ _)))); intro v223 w88 ho89 hb hg_ hnew_; clear hg_ hnew_; (first | rw [← Ny222.out] at ho89 | (simp only [Int.reduceToNat] at ho89; rw [← Ny222.out] at ho89)); have n0_ := Aside0.mk (Kd.N_elder' (by (with_reducible repeat (first | apply Kd.N_alloc | apply Kd.N_drewN | apply Kd.N_drew)); exact HO203.out) (Kd.R_base ho89) hb); have n1_ := Aside0.mk (Kd.N_elder' (by (with_reducible repeat (first | apply Kd.N_alloc | apply Kd.N_drewN | apply Kd.N_drew)); exact HO209.out) (Kd.R_base ho89) hb); have n2_ := Aside0.mk (Kd.N_elder' (by (with_reducible repeat (first | apply Kd.N_alloc | apply Kd.N_drewN | apply Kd.N_drew)); exact HO216.out) (Kd.R_base ho89) hb); have n3_ := Aside0.mk (Kd.R_elder' (by (with_reducible repeat (first | apply Kd.R_alloc | apply Kd.R_drewN | apply Kd.R_drew)); exact HO220.out) (Kd.R_base ho89) hb); have n4_ := Aside0.mk (Kd.R_lower (Kd.R_new' ho89 (Kd.R_lt (by (with_reducible repeat (first | apply Kd.R_alloc | apply Kd.R_drewN | apply Kd.R_drew)); exact HO220.out))) (below_size (by repeat (first | (with_reducible first | exact HB.out | apply below_alloc | apply pw_below_drewN | apply below_drew1 | refine below_set ?_ GE210.out | refine below_set ?_ GE217.out) | exact HB.out)))); have n5_ := Aside0.mk (blk_below (g := gb210) (o := .cells #[.int .i64 8, .slice Ao70 y207.length co70] 44 (0, 0)) (by (with_reducible repeat (first | refine blk_drewN ?_ _ | refine blk_drew ?_ | refine blk_alloc ?_ _)); exact BK210.out) hb); have n6_ := Aside0.mk (blk_below (g := gb217) (o := .cells #[.int .i64 8, .slice Ao78 y214.length co78] 44 (0, 0)) (by (with_reducible repeat (first | refine blk_drewN ?_ _ | refine blk_drew ?_ | refine blk_alloc ?_ _)); exact BK217.out) hb); have n7_ := Aside0.mk (below_step (by repeat (first | (with_reducible first | exact HB.out | apply below_alloc | apply pw_below_drewN | apply below_drew1 | refine below_set ?_ GE210.out | refine below_set ?_ GE217.out) | exact HB.out)) hb); clear HO203; clear HO209; clear HO216; clear HO220; clear BK210; clear BK217; clear HB; have HO203 := n0_; have HO209 := n1_; have HO216 := n2_; have HO220 := n3_; have HO224 := n4_; have BK210 := n5_; have BK217 := n6_; have HB := n7_; clear n0_ n1_ n2_ n3_ n4_ n5_ n6_ n7_; clear hb ho89; have hcz90_0 : w88.cell? ⟨gb217, 0, none⟩ = some (.int .i64 8) := (blk_cell BK217.out 0).trans rfl; have hcz90_1 : w88.cell? ⟨gb217, 1, none⟩ = some (.slice Ao78 y214.length co78) := (blk_cell BK217.out 1).trans rfl; have hfz90_0 := blk_frozen BK217.out 0; have hfz90_1 := blk_frozen BK217.out 1; obtain ⟨Ao91, co91, eo91⟩ := Kd.R_slice HO224.out; subst eo91) | (go_at_call 18; (with_reducible refine (proof_Check.calls 2 _ _ y201 _ _ y222 8 _ _ y214 t225 _ ?side1 ?side2 ?side3 ?side4 ?side5 ?side6 A3.out).mono ?_); (case side1 => repeat (first | exact (Kd.N_reads' HO203.out).2.2 | (with_reducible refine Kd.C_alloc ?_ _) | (with_reducible refine Kd.C_drewN ?_ _) | (with_reducible refine Kd.C_drew ?_))); (case side2 => exact (Kd.N_reads' HO203.out).2.1); (case side3 => repeat (first | exact (Kd.R_reads' HO224.out).2.2 | (with_reducible refine Kd.C_alloc ?_ _) | (with_reducible refine Kd.C_drewN ?_ _) | (with_reducible refine Kd.C_drew ?_))); (case side4 => exact (Kd.R_reads' HO224.out).2.1); (case side5 => repeat (first | exact (Kd.N_reads' HO216.out).2.2 | (with_reducible refine Kd.C_alloc ?_ _) | (with_reducible refine Kd.C_drewN ?_ _) | (with_reducible refine Kd.C_drew ?_))); (case side6 => exact (Kd.N_reads' HO216.out).2.1); rintro e w92 ⟨rfl, hb⟩; have n0_ := Aside0.mk (Kd.N_below (by (with_reducible repeat (first | apply Kd.N_alloc | apply Kd.N_drewN | apply Kd.N_drew)); exact HO203.out) hb); have n1_ := Aside0.mk (Kd.N_below (by (with_reducible repeat (first | apply Kd.N_alloc | apply Kd.N_drewN | apply Kd.N_drew)); exact HO209.out) hb); have n2_ := Aside0.mk (Kd.N_below (by (with_reducible repeat (first | apply Kd.N_alloc | apply Kd.N_drewN | apply Kd.N_drew)); exact HO216.out) hb); have n3_ := Aside0.mk (Kd.R_below (by (with_reducible repeat (first | apply Kd.R_alloc | apply Kd.R_drewN | apply Kd.R_drew)); exact HO220.out) hb); have n4_ := Aside0.mk (Kd.R_below (by (with_reducible repeat (first | apply Kd.R_alloc | apply Kd.R_drewN | apply Kd.R_drew)); exact HO224.out) hb); have n5_ := Aside0.mk (blk_below (g := gb210) (o := .cells #[.int .i64 8, .slice Ao70 y207.length co70] 44 (0, 0)) (by (with_reducible repeat (first | refine blk_drewN ?_ _ | refine blk_drew ?_ | refine blk_alloc ?_ _)); exact BK210.out) hb); have n6_ := Aside0.mk (blk_below (g := gb217) (o := .cells #[.int .i64 8, .slice Ao78 y214.length co78] 44 (0, 0)) (by (with_reducible repeat (first | refine blk_drewN ?_ _ | refine blk_drew ?_ | refine blk_alloc ?_ _)); exact BK217.out) hb); have n7_ := Aside0.mk (below_step (by repeat (first | (with_reducible first | exact HB.out | apply below_alloc | apply pw_below_drewN | apply below_drew1 | refine below_set ?_ GE210.out | refine below_set ?_ GE217.out) | exact HB.out)) hb); clear HO203; clear HO209; clear HO216; clear HO220; clear HO224; clear BK210; clear BK217; clear HB; have HO203 := n0_; have HO209 := n1_; have HO216 := n2_; have HO220 := n3_; have HO224 := n4_; have BK210 := n5_; have BK217 := n6_; have HB := n7_; clear n0_ n1_ n2_ n3_ n4_ n5_ n6_ n7_; (try clear hb); (try clear hb2); (try clear hk); (try clear hi)) | ((with_reducible refine gate_dst (N := 33) rfl ?_); (try (refine gate_guard (by rfl) ?_; dsimp only)); refine Kd.R_lit (Kd.int .i64) _ 3 ?hg (N := 33) ?hd (xs := ([0, 1] : List Int)) (inner := [.int .i64 0, .int .i64 1]) (ok := fun _ => True) (okp := fun _ => True) ?hr ?hp (fun _ hk => hk) trivial (Below.refl _ _) (Nat.le_refl _) (by simp) ?_; (case hd => rfl); (case hg => rfl); (case hr => first | (go_simp; done) | (go_simp; rfl)); (case hp => exact (Reps.one (show Kd.M (Kd.int .i64) _ _ _ 0 [.int .i64 0] from rfl) (Reps.one (show Kd.M (Kd.int .i64) _ _ _ 1 [.int .i64 1] from rfl) (Reps.none _ _)))); intro v227 w93 ho94 hb hg_ hnew_; clear hg_ hnew_; (first | rw [← Ny226.out] at ho94 | (simp only [Int.reduceToNat] at ho94; rw [← Ny226.out] at ho94)); have n0_ := Aside0.mk (Kd.N_elder' (by (with_reducible repeat (first | apply Kd.N_alloc | apply Kd.N_drewN | apply Kd.N_drew)); exact HO203.out) (Kd.R_base ho94) hb); have n1_ := Aside0.mk (Kd.N_elder' (by (with_reducible repeat (first | apply Kd.N_alloc | apply Kd.N_drewN | apply Kd.N_drew)); exact HO209.out) (Kd.R_base ho94) hb); have n2_ := Aside0.mk (Kd.N_elder' (by (with_reducible repeat (first | apply Kd.N_alloc | apply Kd.N_drewN | apply Kd.N_drew)); exact HO216.out) (Kd.R_base ho94) hb); have n3_ := Aside0.mk (Kd.R_elder' (by (with_reducible repeat (first | apply Kd.R_alloc | apply Kd.R_drewN | apply Kd.R_drew)); exact HO220.out) (Kd.R_base ho94) hb); have n4_ := Aside0.mk (Kd.R_elder' (by (with_reducible repeat (first | apply Kd.R_alloc | apply Kd.R_drewN | apply Kd.R_drew)); exact HO224.out) (Kd.R_base ho94) hb); have n5_ := Aside0.mk (Kd.R_lower (Kd.R_new' (Kd.R_new' ho94 (Kd.R_lt (by (with_reducible repeat (first | apply Kd.R_alloc | apply Kd.R_drewN | apply Kd.R_drew)); exact HO220.out))) (Kd.R_lt (by (with_reducible repeat (first | apply Kd.R_alloc | apply Kd.R_drewN | apply Kd.R_drew)); exact HO224.out))) (below_size (by repeat (first | (with_reducible first | exact HB.out | apply below_alloc | apply pw_below_drewN | apply below_drew1 | refine below_set ?_ GE210.out | refine below_set ?_ GE217.out) | exact HB.out)))); have n6_ := Aside0.mk (blk_below (g := gb210) (o := .cells #[.int .i64 8, .slice Ao70 y207.length co70] 44 (0, 0)) (by (with_reducible repeat (first | refine blk_drewN ?_ _ | refine blk_drew ?_ | refine blk_alloc ?_ _)); exact BK210.out) hb); have n7_ := Aside0.mk (blk_below (g := gb217) (o := .cells #[.int .i64 8, .slice Ao78 y214.length co78] 44 (0, 0)) (by (with_reducible repeat (first | refine blk_drewN ?_ _ | refine blk_drew ?_ | refine blk_alloc ?_ _)); exact BK217.out) hb); have n8_ := Aside0.mk (below_step (by repeat (first | (with_reducible first | exact HB.out | apply below_alloc | apply pw_below_drewN | apply below_drew1 | refine below_set ?_ GE210.out | refine below_set ?_ GE217.out) | exact HB.out)) hb); clear HO203; clear HO209; clear HO216; clear HO220; clear HO224; clear BK210; clear BK217; clear HB; have HO203 := n0_; have HO209 := n1_; have HO216 := n2_; have HO220 := n3_; have HO224 := n4_; have HO228 := n5_; have BK210 := n6_; have BK217 := n7_; have HB := n8_; clear n0_ n1_ n2_ n3_ n4_ n5_ n6_ n7_ n8_; clear hb ho94; have hcz95_0 : w93.cell? ⟨gb210, 0, none⟩ = some (.int .i64 8) := (blk_cell BK210.out 0).trans rfl; have hcz95_1 : w93.cell? ⟨gb210, 1, none⟩ = some (.slice Ao70 y207.length co70) := (blk_cell BK210.out 1).trans rfl; have hfz95_0 := blk_frozen BK210.out 0; have hfz95_1 := blk_frozen BK210.out 1; obtain ⟨Ao96, co96, eo96⟩ := Kd.R_slice HO228.out; subst eo96) | (go_at_call 18; (with_reducible refine (proof_Check.calls 2 _ _ y201 _ _ y226 8 _ _ y207 t229 _ ?side1 ?side2 ?side3 ?side4 ?side5 ?side6 A5.out).mono ?_); (case side1 => repeat (first | exact (Kd.N_reads' HO203.out).2.2 | (with_reducible refine Kd.C_alloc ?_ _) | (with_reducible refine Kd.C_drewN ?_ _) | (with_reducible refine Kd.C_drew ?_))); (case side2 => exact (Kd.N_reads' HO203.out).2.1); (case side3 => repeat (first | exact (Kd.R_reads' HO228.out).2.2 | (with_reducible refine Kd.C_alloc ?_ _) | (with_reducible refine Kd.C_drewN ?_ _) | (with_reducible refine Kd.C_drew ?_))); (case side4 => exact (Kd.R_reads' HO228.out).2.1); (case side5 => repeat (first | exact (Kd.N_reads' HO209.out).2.2 | (with_reducible refine Kd.C_alloc ?_ _) | (with_reducible refine Kd.C_drewN ?_ _) | (with_reducible refine Kd.C_drew ?_))); (case side6 => exact (Kd.N_reads' HO209.out).2.1); rintro e w97 ⟨rfl, hb⟩; have n0_ := Aside0.mk (Kd.N_below (by (with_reducible repeat (first | apply Kd.N_alloc | apply Kd.N_drewN | apply Kd.N_drew)); exact HO203.out) hb); have n1_ := Aside0.mk (Kd.N_below (by (with_reducible repeat (first | apply Kd.N_alloc | apply Kd.N_drewN | apply Kd.N_drew)); exact HO209.out) hb); have n2_ := Aside0.mk (Kd.N_below (by (with_reducible repeat (first | apply Kd.N_alloc | apply Kd.N_drewN | apply Kd.N_drew)); exact HO216.out) hb); have n3_ := Aside0.mk (Kd.R_below (by (with_reducible repeat (first | apply Kd.R_alloc | apply Kd.R_drewN | apply Kd.R_drew)); exact HO220.out) hb); have n4_ := Aside0.mk (Kd.R_below (by (with_reducible repeat (first | apply Kd.R_alloc | apply Kd.R_drewN | apply Kd.R_drew)); exact HO224.out) hb); have n5_ := Aside0.mk (Kd.R_below (by (with_reducible repeat (first | apply Kd.R_alloc | apply Kd.R_drewN | apply Kd.R_drew)); exact HO228.out) hb); have n6_ := Aside0.mk (blk_below (g := gb210) (o := .cells #[.int .i64 8, .slice Ao70 y207.length co70] 44 (0, 0)) (by (with_reducible repeat (first | refine blk_drewN ?_ _ | refine blk_drew ?_ | refine blk_alloc ?_ _)); exact BK210.out) hb); have n7_ := Aside0.mk (blk_below (g := gb217) (o := .cells #[.int .i64 8, .slice Ao78 y214.length co78] 44 (0, 0)) (by (with_reducible repeat (first | refine blk_drewN ?_ _ | refine blk_drew ?_ | refine blk_alloc ?_ _)); exact BK217.out) hb); have n8_ := Aside0.mk (below_step (by repeat (first | (with_reducible first | exact HB.out | apply below_alloc | apply pw_below_drewN | apply below_drew1 | refine below_set ?_ GE210.out | refine below_set ?_ GE217.out) | exact HB.out)) hb); clear HO203; clear HO209; clear HO216; clear HO220; clear HO224; clear HO228; clear BK210; clear BK217; clear HB; have HO203 := n0_; have HO209 := n1_; have HO216 := n2_; have HO220 := n3_; have HO224 := n4_; have HO228 := n5_; have BK210 := n6_; have BK217 := n7_; have HB := n8_; clear n0_ n1_ n2_ n3_ n4_ n5_ n6_ n7_ n8_; (try clear hb); (try clear hb2); (try clear hk); (try clear hi)))
    go_ret
    exact ⟨by first | rfl | (simp [errW_none, errW_some] <;> rfl) | (simp [*, errW_none, errW_some] <;> rfl), by repeat (first | (with_reducible first | exact HB.out | apply below_alloc | apply pw_below_drewN | apply below_drew1 | refine below_set ?_ GE210.out | refine below_set ?_ GE217.out) | exact HB.out)⟩
  ·rw [if_neg c4] at H
   have c4b0 : (t225 == 20) = false := beq_eq_false_iff_ne.mpr c4
   have c4b1 : (t225 != 20) = true := bne_iff_ne.mpr c4
   obtain rfl := Option.some.inj H
   go_enter Try.func22, Try.ntmps22
   go_wp2_with (first | ((with_reducible refine gate_dst (N := 4) rfl ?_); (try (refine gate_guard (by rfl) ?_; dsimp only)); refine Kd.R_lit (Kd.int .i64) _ 3 ?hg (N := 4) ?hd (xs := ([0, 1] : List Int)) (inner := [.int .i64 0, .int .i64 1]) (ok := fun _ => True) (okp := fun _ => True) ?hr ?hp (fun _ hk => hk) trivial (Below.refl _ _) (Nat.le_refl _) (by simp) ?_; (case hd => rfl); (case hg => rfl); (case hr => first | (go_simp; done) | (go_simp; rfl)); (case hp => exact (Reps.one (show Kd.M (Kd.int .i64) _ _ _ 0 [.int .i64 0] from rfl) (Reps.one (show Kd.M (Kd.int .i64) _ _ _ 1 [.int .i64 1] from rfl) (Reps.none _ _)))); intro v193 w98 ho99 hb hg_ hnew_; clear hg_ hnew_; (first | rw [← Ny192.out] at ho99 | (simp only [Int.reduceToNat] at ho99; rw [← Ny192.out] at ho99)); have n0_ := Aside0.mk (Kd.R_lower ho99 (below_size (by repeat (first | (with_reducible first | exact HB.out | apply below_alloc | apply pw_below_drewN | apply below_drew1) | exact HB.out)))); have n1_ := Aside0.mk (below_step (by repeat (first | (with_reducible first | exact HB.out | apply below_alloc | apply pw_below_drewN | apply below_drew1) | exact HB.out)) hb); clear HB; have HO194 := n0_; have HB := n1_; clear n0_ n1_; clear hb ho99; obtain ⟨Ao100, co100, eo100⟩ := Kd.R_slice HO194.out; subst eo100) | ((with_reducible refine gate_dst (N := 6) rfl ?_); (try (refine gate_guard (by rfl) ?_; dsimp only)); refine Kd.R_lit (Kd.int .i64) _ 3 ?hg (N := 6) ?hd (xs := ([0] : List Int)) (inner := [.int .i64 0]) (ok := fun _ => True) (okp := fun _ => True) ?hr ?hp (fun _ hk => hk) trivial (Below.refl _ _) (Nat.le_refl _) (by simp) ?_; (case hd => rfl); (case hg => rfl); (case hr => first | (go_simp; done) | (go_simp; rfl)); (case hp => exact (Reps.one (show Kd.M (Kd.int .i64) _ _ _ 0 [.int .i64 0] from rfl) (Reps.none _ _))); intro v196 w101 ho102 hb hg_ hnew_; clear hg_ hnew_; (first | rw [← Ny195.out] at ho102 | (simp only [Int.reduceToNat] at ho102; rw [← Ny195.out] at ho102)); have n0_ := Aside0.mk (Kd.R_elder' (by (with_reducible repeat (first | apply Kd.R_alloc | apply Kd.R_drewN | apply Kd.R_drew)); exact HO194.out) (Kd.R_base ho102) hb); have n1_ := Aside0.mk (Kd.R_lower (Kd.R_new' ho102 (Kd.R_lt (by (with_reducible repeat (first | apply Kd.R_alloc | apply Kd.R_drewN | apply Kd.R_drew)); exact HO194.out))) (below_size (by repeat (first | (with_reducible first | exact HB.out | apply below_alloc | apply pw_below_drewN | apply below_drew1) | exact HB.out)))); have n2_ := Aside0.mk (below_step (by repeat (first | (with_reducible first | exact HB.out | apply below_alloc | apply pw_below_drewN | apply below_drew1) | exact HB.out)) hb); clear HO194; clear HB; have HO194 := n0_; have HO197 := n1_; have HB := n2_; clear n0_ n1_ n2_; clear hb ho102; obtain ⟨Ao103, co103, eo103⟩ := Kd.R_slice HO197.out; subst eo103) | ((with_reducible refine gate_dst (N := 8) rfl ?_); (try (refine gate_guard (by rfl) ?_; dsimp only)); refine Kd.R_lit (Kd.int .i64) _ 3 ?hg (N := 8) ?hd (xs := ([1] : List Int)) (inner := [.int .i64 1]) (ok := fun _ => True) (okp := fun _ => True) ?hr ?hp (fun _ hk => hk) trivial (Below.refl _ _) (Nat.le_refl _) (by simp) ?_; (case hd => rfl); (case hg => rfl); (case hr => first | (go_simp; done) | (go_simp; rfl)); (case hp => exact (Reps.one (show Kd.M (Kd.int .i64) _ _ _ 1 [.int .i64 1] from rfl) (Reps.none _ _))); intro v199 w104 ho105 hb hg_ hnew_; clear hg_ hnew_; (first | rw [← Ny198.out] at ho105 | (simp only [Int.reduceToNat] at ho105; rw [← Ny198.out] at ho105)); have n0_ := Aside0.mk (Kd.R_elder' (by (with_reducible repeat (first | apply Kd.R_alloc | apply Kd.R_drewN | apply Kd.R_drew)); exact HO194.out) (Kd.R_base ho105) hb); have n1_ := Aside0.mk (Kd.R_elder' (by (with_reducible repeat (first | apply Kd.R_alloc | apply Kd.R_drewN | apply Kd.R_drew)); exact HO197.out) (Kd.R_base ho105) hb); have n2_ := Aside0.mk (Kd.R_lower (Kd.R_new' (Kd.R_new' ho105 (Kd.R_lt (by (with_reducible repeat (first | apply Kd.R_alloc | apply Kd.R_drewN | apply Kd.R_drew)); exact HO194.out))) (Kd.R_lt (by (with_reducible repeat (first | apply Kd.R_alloc | apply Kd.R_drewN | apply Kd.R_drew)); exact HO197.out))) (below_size (by repeat (first | (with_reducible first | exact HB.out | apply below_alloc | apply pw_below_drewN | apply below_drew1) | exact HB.out)))); have n3_ := Aside0.mk (below_step (by repeat (first | (with_reducible first | exact HB.out | apply below_alloc | apply pw_below_drewN | apply below_drew1) | exact HB.out)) hb); clear HO194; clear HO197; clear HB; have HO194 := n0_; have HO197 := n1_; have HO200 := n2_; have HB := n3_; clear n0_ n1_ n2_ n3_; clear hb ho105; obtain ⟨Ao106, co106, eo106⟩ := Kd.R_slice HO200.out; subst eo106) | ((with_reducible refine gate_dst (N := 10) rfl ?_); (try (refine gate_guard (by rfl) ?_; dsimp only)); refine Kd.N_lit k82 _ 82 ?hg (N' := 10) ?hd (xs := ([(⟨1, 6, y192⟩ : S82), (⟨2, 4, y195⟩ : S82), (⟨3, 4, y198⟩ : S82)] : List (S82))) (inner := [.int .i64 1, .int .i64 6, .slice Ao100 y192.length co100, .int .i64 2, .int .i64 4, .slice Ao103 y195.length co103, .int .i64 3, .int .i64 4, .slice Ao106 y198.length co106]) (ok := (fun _ => True)) (okp := (fun _ => True)) ?hr ?hp (fun _ hk => hk) ((show ∀ k_, w104.heap.size ≤ k_ → (fun _ => True) k_ from fun k_ hk => trivial) _ (Nat.le_refl _)) (Below.refl _ _) (Nat.le_refl _) (by simp) ?_; (case hd => rfl); (case hg => rfl); (case hr => first | (go_simp; done) | (go_simp; rfl)); (case hp => exact (Reps.c3 (show Kd.FK k82 _ _ (⟨1, 6, y192⟩ : S82) [.int .i64 1, .int .i64 6, .slice Ao100 y192.length co100] from (k82_mkF _ _ (⟨1, 6, y192⟩ : S82) (Kd.R_reads' (Kd.R_mono (ok' := (fun _ => True)) (HO194.out) (fun k_ hk => trivial))).2.1 (Kd.R_F (Kd.R_mono (ok' := (fun _ => True)) (HO194.out) (fun k_ hk => trivial))))) (Reps.c3 (show Kd.FK k82 _ _ (⟨2, 4, y195⟩ : S82) [.int .i64 2, .int .i64 4, .slice Ao103 y195.length co103] from (k82_mkF _ _ (⟨2, 4, y195⟩ : S82) (Kd.R_reads' (Kd.R_mono (ok' := (fun _ => True)) (HO197.out) (fun k_ hk => trivial))).2.1 (Kd.R_F (Kd.R_mono (ok' := (fun _ => True)) (HO197.out) (fun k_ hk => trivial))))) (Reps.c3 (show Kd.FK k82 _ _ (⟨3, 4, y198⟩ : S82) [.int .i64 3, .int .i64 4, .slice Ao106 y198.length co106] from (k82_mkF _ _ (⟨3, 4, y198⟩ : S82) (Kd.R_reads' (Kd.R_mono (ok' := (fun _ => True)) (HO200.out) (fun k_ hk => trivial))).2.1 (Kd.R_F (Kd.R_mono (ok' := (fun _ => True)) (HO200.out) (fun k_ hk => trivial))))) (Reps.none _ _))))); intro v202 w107 ho108 hb hg_ hnew_; clear hg_ hnew_; (first | rw [← Ny201.out] at ho108 | (simp only [Int.reduceToNat] at ho108; rw [← Ny201.out] at ho108)); have n0_ := Aside0.mk (Kd.N_lower ho108 (below_size (by repeat (first | (with_reducible first | exact HB.out | apply below_alloc | apply pw_below_drewN | apply below_drew1) | exact HB.out)))); have n1_ := Aside0.mk (below_step (by repeat (first | (with_reducible first | exact HB.out | apply below_alloc | apply pw_below_drewN | apply below_drew1) | exact HB.out)) hb); clear HB; clear HO194; clear HO197; clear HO200; have HO203 := n0_; have HB := n1_; clear n0_ n1_; clear hb ho108) | ((with_reducible refine gate_dst (N := 11) rfl ?_); (try (refine gate_guard (by rfl) ?_; dsimp only)); refine Kd.R_lit (Kd.int .i64) _ 3 ?hg (N := 11) ?hd (xs := ([3, 3] : List Int)) (inner := [.int .i64 3, .int .i64 3]) (ok := fun _ => True) (okp := fun _ => True) ?hr ?hp (fun _ hk => hk) trivial (Below.refl _ _) (Nat.le_refl _) (by simp) ?_; (case hd => rfl); (case hg => rfl); (case hr => first | (go_simp; done) | (go_simp; rfl)); (case hp => exact (Reps.one (show Kd.M (Kd.int .i64) _ _ _ 3 [.int .i64 3] from rfl) (Reps.one (show Kd.M (Kd.int .i64) _ _ _ 3 [.int .i64 3] from rfl) (Reps.none _ _)))); intro v205 w109 ho110 hb hg_ hnew_; clear hg_ hnew_; (first | rw [← Ny204.out] at ho110 | (simp only [Int.reduceToNat] at ho110; rw [← Ny204.out] at ho110)); have n0_ := Aside0.mk (Kd.N_elder' (by (with_reducible repeat (first | apply Kd.N_alloc | apply Kd.N_drewN | apply Kd.N_drew)); exact HO203.out) (Kd.R_base ho110) hb); have n1_ := Aside0.mk (Kd.R_lower ho110 (below_size (by repeat (first | (with_reducible first | exact HB.out | apply below_alloc | apply pw_below_drewN | apply below_drew1) | exact HB.out)))); have n2_ := Aside0.mk (below_step (by repeat (first | (with_reducible first | exact HB.out | apply below_alloc | apply pw_below_drewN | apply below_drew1) | exact HB.out)) hb); clear HO203; clear HB; have HO203 := n0_; have HO206 := n1_; have HB := n2_; clear n0_ n1_ n2_; clear hb ho110; obtain ⟨Ao111, co111, eo111⟩ := Kd.R_slice HO206.out; subst eo111) | ((with_reducible refine gate_dst (N := 13) rfl ?_); (try (refine gate_guard (by rfl) ?_; dsimp only)); refine Kd.N_lit k55 _ 55 ?hg (N' := 13) ?hd (xs := ([(⟨(-1), 0, 0, y204⟩ : S55)] : List (S55))) (inner := [.int .i64 (-1), .int .i64 0, .int .i64 0, .slice Ao111 y204.length co111]) (ok := (fun k_ => some k_ ≠ (v202 : Value).ownBlock)) (okp := (fun k_ => some k_ ≠ (v202 : Value).ownBlock)) ?hr ?hp (fun _ hk => hk) ((show ∀ k_, w109.heap.size ≤ k_ → (fun k_ => some k_ ≠ (v202 : Value).ownBlock) k_ from fun k_ hk => Kd.fresh' (Kd.N_lt (by (with_reducible repeat (first | apply Kd.N_alloc | apply Kd.N_drewN | apply Kd.N_drew)); exact HO203.out)) k_ hk) _ (Nat.le_refl _)) (Below.refl _ _) (Nat.le_refl _) (by simp) ?_; (case hd => rfl); (case hg => rfl); (case hr => first | (go_simp; done) | (go_simp; rfl)); (case hp => exact (Reps.c4 (show Kd.FK k55 _ _ (⟨(-1), 0, 0, y204⟩ : S55) [.int .i64 (-1), .int .i64 0, .int .i64 0, .slice Ao111 y204.length co111] from (k55_mkF _ _ (⟨(-1), 0, 0, y204⟩ : S55) (Kd.R_reads' (Kd.R_mono (ok' := (fun k_ => some k_ ≠ (v202 : Value).ownBlock)) (Kd.R_apart' (HO206.out) (Kd.N_typed HO203.out) (by decide)) (fun k_ hk => hk.2))).2.1 (Kd.R_F (Kd.R_mono (ok' := (fun k_ => some k_ ≠ (v202 : Value).ownBlock)) (Kd.R_apart' (HO206.out) (Kd.N_typed HO203.out) (by decide)) (fun k_ hk => hk.2))))) (Reps.none _ _))); intro v208 w112 ho113 hb hg_ hnew_; clear hg_ hnew_; (first | rw [← Ny207.out] at ho113 | (simp only [Int.reduceToNat] at ho113; rw [← Ny207.out] at ho113)); have n0_ := Aside0.mk (Kd.N_elder' (by (with_reducible repeat (first | apply Kd.N_alloc | apply Kd.N_drewN | apply Kd.N_drew)); exact HO203.out) (Kd.N_base ho113) hb); have n1_ := Aside0.mk (Kd.N_lower ho113 (below_size (by repeat (first | (with_reducible first | exact HB.out | apply below_alloc | apply pw_below_drewN | apply below_drew1) | exact HB.out)))); have n2_ := Aside0.mk (below_step (by repeat (first | (with_reducible first | exact HB.out | apply below_alloc | apply pw_below_drewN | apply below_drew1) | exact HB.out)) hb); clear HO203; clear HB; clear HO206; have HO203 := n0_; have HO209 := n1_; have HB := n2_; clear n0_ n1_ n2_; clear hb ho113; obtain ⟨Ao114, co114, eo114⟩ := Kd.N_slice HO209.out; subst eo114) | ((with_reducible refine gate_dst (N := 2) rfl ?_); (try (refine gate_guard (by rfl) ?_; dsimp only)); refine box_event ?hg (N := 2) ?hd (cs := #[.int .i64 0, .slice none 0 0]) (t := 44) ?hr ?_; (case hd => rfl); (case hg => rfl); (case hr => first | (go_simp; done) | (go_simp; rfl)); intro gb210 hg w115 hbox hb; have n0_ := Aside0.mk (Kd.N_below (Kd.N_elderB (by (with_reducible repeat (first | apply Kd.N_alloc | apply Kd.N_drewN | apply Kd.N_drew)); exact HO203.out) gb210 (Nat.le_of_eq hg.symm)) hb); have n1_ := Aside0.mk (Kd.N_below (Kd.N_elderB (by (with_reducible repeat (first | apply Kd.N_alloc | apply Kd.N_drewN | apply Kd.N_drew)); exact HO209.out) gb210 (Nat.le_of_eq hg.symm)) hb); have n2_ := Aside0.mk (below_step (by repeat (first | (with_reducible first | exact HB.out | apply below_alloc | apply pw_below_drewN | apply below_drew1) | exact HB.out)) hb); have n3_ := Aside0.mk (hbox); have n4_ := Aside0.mk ((by rw [hg]; exact (below_size (by repeat (first | (with_reducible first | exact HB.out | apply below_alloc | apply pw_below_drewN | apply below_drew1) | exact HB.out))) : w.heap.size ≤ gb210)); have n5_ := Aside0.mk ((by rw [hg]; exact (below_size (by repeat (first | (with_reducible first | exact HB.out | apply below_alloc | apply pw_below_drewN | apply below_drew1) | exact HB.out))) : w.heap.size ≤ gb210)); clear HO203; clear HO209; clear HB; have HO203 := n0_; have HO209 := n1_; have HB := n2_; have BK210 := n3_; have GW210 := n4_; have GE210 := n5_; clear n0_ n1_ n2_ n3_ n4_ n5_; clear hb hbox hg; have hcz116_0 : w115.cell? ⟨gb210, 0, none⟩ = some (.int .i64 0) := (blk_cell BK210.out 0).trans rfl; have hcz116_1 : w115.cell? ⟨gb210, 1, none⟩ = some (.slice none 0 0) := (blk_cell BK210.out 1).trans rfl; have hfz116_0 := blk_frozen BK210.out 0; have hfz116_1 := blk_frozen BK210.out 1) | ((with_reducible refine gate_dst (N := 15) rfl ?_); (try (refine gate_guard (by rfl) ?_; dsimp only)); refine Kd.R_lit (Kd.int .i64) _ 3 ?hg (N := 15) ?hd (xs := ([0, 0] : List Int)) (inner := [.int .i64 0, .int .i64 0]) (ok := fun _ => True) (okp := fun _ => True) ?hr ?hp (fun _ hk => hk) trivial (Below.refl _ _) (Nat.le_refl _) (by simp) ?_; (case hd => rfl); (case hg => rfl); (case hr => first | (go_simp; done) | (go_simp; rfl)); (case hp => exact (Reps.one (show Kd.M (Kd.int .i64) _ _ _ 0 [.int .i64 0] from rfl) (Reps.one (show Kd.M (Kd.int .i64) _ _ _ 0 [.int .i64 0] from rfl) (Reps.none _ _)))); intro v212 w117 ho118 hb hg_ hnew_; clear hg_ hnew_; (first | rw [← Ny211.out] at ho118 | (simp only [Int.reduceToNat] at ho118; rw [← Ny211.out] at ho118)); have n0_ := Aside0.mk (Kd.N_elder' (by (with_reducible repeat (first | apply Kd.N_alloc | apply Kd.N_drewN | apply Kd.N_drew)); exact (Kd.N_mono (Kd.N_far (p := ⟨gb210, 1, none⟩) (Kd.N_far (p := ⟨gb210, 0, none⟩) (Kd.N_mono HO203.out (fun k_ hk => (⟨hk, hk.2⟩ : _ ∧ k_ ≠ gb210))) (fun _ hk => hk.2) (.int .i64 8)) (fun _ hk => hk.2) (.slice Ao114 y207.length co114)) (fun _ h_ => h_.1))) (Kd.R_base ho118) hb); have n1_ := Aside0.mk (Kd.N_elder' (by (with_reducible repeat (first | apply Kd.N_alloc | apply Kd.N_drewN | apply Kd.N_drew)); exact (Kd.N_mono (Kd.N_far (p := ⟨gb210, 1, none⟩) (Kd.N_far (p := ⟨gb210, 0, none⟩) (Kd.N_mono HO209.out (fun k_ hk => (⟨hk, hk.2⟩ : _ ∧ k_ ≠ gb210))) (fun _ hk => hk.2) (.int .i64 8)) (fun _ hk => hk.2) (.slice Ao114 y207.length co114)) (fun _ h_ => h_.1))) (Kd.R_base ho118) hb); have n2_ := Aside0.mk (Kd.R_lower ho118 (below_size (by repeat (first | (with_reducible first | exact HB.out | apply below_alloc | apply pw_below_drewN | apply below_drew1 | refine below_set ?_ GE210.out) | exact HB.out)))); have n3_ := Aside0.mk (blk_below (g := gb210) (o := .cells #[.int .i64 8, .slice Ao114 y207.length co114] 44 (0, 0)) (by (with_reducible repeat (first | refine blk_drewN ?_ _ | refine blk_drew ?_ | refine blk_alloc ?_ _)); refine blk_put (cs := #[.int .i64 8, .slice none 0 0]) ?_ 1 _ rfl; (with_reducible repeat (first | refine blk_drewN ?_ _ | refine blk_drew ?_ | refine blk_alloc ?_ _)); refine blk_put (cs := #[.int .i64 0, .slice none 0 0]) ?_ 0 _ rfl; (with_reducible repeat (first | refine blk_drewN ?_ _ | refine blk_drew ?_ | refine blk_alloc ?_ _)); exact BK210.out) hb); have n4_ := Aside0.mk (below_step (by repeat (first | (with_reducible first | exact HB.out | apply below_alloc | apply pw_below_drewN | apply below_drew1 | refine below_set ?_ GE210.out) | exact HB.out)) hb); clear HO203; clear HO209; clear BK210; clear HB; have HO203 := n0_; have HO209 := n1_; have HO213 := n2_; have BK210 := n3_; have HB := n4_; clear n0_ n1_ n2_ n3_ n4_; clear hb ho118; obtain ⟨Ao119, co119, eo119⟩ := Kd.R_slice HO213.out; subst eo119) | ((with_reducible refine gate_dst (N := 17) rfl ?_); (try (refine gate_guard (by rfl) ?_; dsimp only)); refine Kd.N_lit k55 _ 55 ?hg (N' := 17) ?hd (xs := ([(⟨(-1), 0, 0, y211⟩ : S55)] : List (S55))) (inner := [.int .i64 (-1), .int .i64 0, .int .i64 0, .slice Ao119 y211.length co119]) (ok := (fun k_ => some k_ ≠ (v202 : Value).ownBlock ∧ some k_ ≠ (.slice Ao114 y207.length co114 : Value).ownBlock ∧ k_ ≠ gb210)) (okp := (fun k_ => some k_ ≠ (v202 : Value).ownBlock ∧ some k_ ≠ (.slice Ao114 y207.length co114 : Value).ownBlock ∧ k_ ≠ gb210)) ?hr ?hp (fun _ hk => hk) ((show ∀ k_, w117.heap.size ≤ k_ → (fun k_ => some k_ ≠ (v202 : Value).ownBlock ∧ some k_ ≠ (.slice Ao114 y207.length co114 : Value).ownBlock ∧ k_ ≠ gb210) k_ from fun k_ hk => ⟨Kd.fresh' (Kd.N_lt (by (with_reducible repeat (first | apply Kd.N_alloc | apply Kd.N_drewN | apply Kd.N_drew)); exact HO203.out)) k_ hk, Kd.fresh' (Kd.N_lt (by (with_reducible repeat (first | apply Kd.N_alloc | apply Kd.N_drewN | apply Kd.N_drew)); exact HO209.out)) k_ hk, Kd.freshB (g := gb210) (o := .cells #[.int .i64 8, .slice Ao114 y207.length co114] 44 (0, 0)) (by (with_reducible repeat (first | refine blk_drewN ?_ _ | refine blk_drew ?_ | refine blk_alloc ?_ _)); exact BK210.out) k_ hk⟩) _ (Nat.le_refl _)) (Below.refl _ _) (Nat.le_refl _) (by simp) ?_; (case hd => rfl); (case hg => rfl); (case hr => first | (go_simp; done) | (go_simp; rfl)); (case hp => exact (Reps.c4 (show Kd.FK k55 _ _ (⟨(-1), 0, 0, y211⟩ : S55) [.int .i64 (-1), .int .i64 0, .int .i64 0, .slice Ao119 y211.length co119] from (k55_mkF _ _ (⟨(-1), 0, 0, y211⟩ : S55) (Kd.R_reads' (Kd.R_mono (ok' := (fun k_ => some k_ ≠ (v202 : Value).ownBlock ∧ some k_ ≠ (.slice Ao114 y207.length co114 : Value).ownBlock ∧ k_ ≠ gb210)) (Kd.R_types (Kd.R_apart' (Kd.R_apart' (HO213.out) (Kd.N_typed HO203.out) (by decide)) (Kd.N_typed HO209.out) (by decide)) BK210.out (by decide)) (fun k_ hk => ⟨hk.1.1.2, ⟨hk.1.2, hk.2⟩⟩))).2.1 (Kd.R_F (Kd.R_mono (ok' := (fun k_ => some k_ ≠ (v202 : Value).ownBlock ∧ some k_ ≠ (.slice Ao114 y207.length co114 : Value).ownBlock ∧ k_ ≠ gb210)) (Kd.R_types (Kd.R_apart' (Kd.R_apart' (HO213.out) (Kd.N_typed HO203.out) (by decide)) (Kd.N_typed HO209.out) (by decide)) BK210.out (by decide)) (fun k_ hk => ⟨hk.1.1.2, ⟨hk.1.2, hk.2⟩⟩))))) (Reps.none _ _))); intro v215 w120 ho121 hb hg_ hnew_; clear hg_ hnew_; (first | rw [← Ny214.out] at ho121 | (simp only [Int.reduceToNat] at ho121; rw [← Ny214.out] at ho121)); have n0_ := Aside0.mk (Kd.N_elder' (by (with_reducible repeat (first | apply Kd.N_alloc | apply Kd.N_drewN | apply Kd.N_drew)); exact HO203.out) (Kd.N_base ho121) hb); have n1_ := Aside0.mk (Kd.N_elder' (by (with_reducible repeat (first | apply Kd.N_alloc | apply Kd.N_drewN | apply Kd.N_drew)); exact HO209.out) (Kd.N_base ho121) hb); have n2_ := Aside0.mk (Kd.N_lower ho121 (below_size (by repeat (first | (with_reducible first | exact HB.out | apply below_alloc | apply pw_below_drewN | apply below_drew1 | refine below_set ?_ GE210.out) | exact HB.out)))); have n3_ := Aside0.mk (blk_below (g := gb210) (o := .cells #[.int .i64 8, .slice Ao114 y207.length co114] 44 (0, 0)) (by (with_reducible repeat (first | refine blk_drewN ?_ _ | refine blk_drew ?_ | refine blk_alloc ?_ _)); exact BK210.out) hb); have n4_ := Aside0.mk (below_step (by repeat (first | (with_reducible first | exact HB.out | apply below_alloc | apply pw_below_drewN | apply below_drew1 | refine below_set ?_ GE210.out) | exact HB.out)) hb); clear HO203; clear HO209; clear BK210; clear HB; clear HO213; have HO203 := n0_; have HO209 := n1_; have HO216 := n2_; have BK210 := n3_; have HB := n4_; clear n0_ n1_ n2_ n3_ n4_; clear hb ho121; obtain ⟨Ao122, co122, eo122⟩ := Kd.N_slice HO216.out; subst eo122) | ((with_reducible refine gate_dst (N := 3) rfl ?_); (try (refine gate_guard (by rfl) ?_; dsimp only)); refine box_event ?hg (N := 3) ?hd (cs := #[.int .i64 0, .slice none 0 0]) (t := 44) ?hr ?_; (case hd => rfl); (case hg => rfl); (case hr => first | (go_simp; done) | (go_simp; rfl)); intro gb217 hg w123 hbox hb; have n0_ := Aside0.mk (Kd.N_below (Kd.N_elderB (by (with_reducible repeat (first | apply Kd.N_alloc | apply Kd.N_drewN | apply Kd.N_drew)); exact HO203.out) gb217 (Nat.le_of_eq hg.symm)) hb); have n1_ := Aside0.mk (Kd.N_below (Kd.N_elderB (by (with_reducible repeat (first | apply Kd.N_alloc | apply Kd.N_drewN | apply Kd.N_drew)); exact HO209.out) gb217 (Nat.le_of_eq hg.symm)) hb); have n2_ := Aside0.mk (Kd.N_below (Kd.N_elderB (by (with_reducible repeat (first | apply Kd.N_alloc | apply Kd.N_drewN | apply Kd.N_drew)); exact HO216.out) gb217 (Nat.le_of_eq hg.symm)) hb); have n3_ := Aside0.mk (blk_below (g := gb210) (o := .cells #[.int .i64 8, .slice Ao114 y207.length co114] 44 (0, 0)) (by (with_reducible repeat (first | refine blk_drewN ?_ _ | refine blk_drew ?_ | refine blk_alloc ?_ _)); exact BK210.out) hb); have n4_ := Aside0.mk (below_step (by repeat (first | (with_reducible first | exact HB.out | apply below_alloc | apply pw_below_drewN | apply below_drew1 | refine below_set ?_ GE210.out) | exact HB.out)) hb); have n5_ := Aside0.mk (hbox); have n6_ := Aside0.mk ((by rw [hg]; exact (below_size (by repeat (first | (with_reducible first | exact HB.out | apply below_alloc | apply pw_below_drewN | apply below_drew1 | refine below_set ?_ GE210.out) | exact HB.out))) : w.heap.size ≤ gb217)); have n7_ := Aside0.mk ((by rw [hg]; exact (below_size (by repeat (first | (with_reducible first | exact HB.out | apply below_alloc | apply pw_below_drewN | apply below_drew1 | refine below_set ?_ GE210.out) | exact HB.out))) : w.heap.size ≤ gb217)); have n8_ := Aside0.mk ((by rw [hg]; exact Nat.ne_of_lt (blk_lt (g := gb210) (o := .cells #[.int .i64 8, .slice Ao114 y207.length co114] 44 (0, 0)) (by (with_reducible repeat (first | refine blk_drewN ?_ _ | refine blk_drew ?_ | refine blk_alloc ?_ _)); exact BK210.out)) : gb210 ≠ gb217)); have n9_ := Aside0.mk ((by rw [hg]; exact Nat.ne_of_gt (blk_lt (g := gb210) (o := .cells #[.int .i64 8, .slice Ao114 y207.length co114] 44 (0, 0)) (by (with_reducible repeat (first | refine blk_drewN ?_ _ | refine blk_drew ?_ | refine blk_alloc ?_ _)); exact BK210.out)) : gb217 ≠ gb210)); clear HO203; clear HO209; clear HO216; clear BK210; clear HB; have HO203 := n0_; have HO209 := n1_; have HO216 := n2_; have BK210 := n3_; have HB := n4_; have BK217 := n5_; have GW217 := n6_; have GE217 := n7_; have NB210_217 := n8_; have NB217_210 := n9_; clear n0_ n1_ n2_ n3_ n4_ n5_ n6_ n7_ n8_ n9_; clear hb hbox hg; have hnb124 := NB217_210.out; have hnc124 := NB210_217.out; have hcz125_0 : w123.cell? ⟨gb217, 0, none⟩ = some (.int .i64 0) := (blk_cell BK217.out 0).trans rfl; have hcz125_1 : w123.cell? ⟨gb217, 1, none⟩ = some (.slice none 0 0) := (blk_cell BK217.out 1).trans rfl; have hfz125_0 := blk_frozen BK217.out 0; have hfz125_1 := blk_frozen BK217.out 1) | ((with_reducible refine gate_dst (N := 20) rfl ?_); (try (refine gate_guard (by rfl) ?_; dsimp only)); refine Kd.R_lit (Kd.int .i64) _ 3 ?hg (N := 20) ?hd (xs := ([1, 2] : List Int)) (inner := [.int .i64 1, .int .i64 2]) (ok := fun _ => True) (okp := fun _ => True) ?hr ?hp (fun _ hk => hk) trivial (Below.refl _ _) (Nat.le_refl _) (by simp) ?_; (case hd => rfl); (case hg => rfl); (case hr => first | (go_simp; done) | (go_simp; rfl)); (case hp => exact (Reps.one (show Kd.M (Kd.int .i64) _ _ _ 1 [.int .i64 1] from rfl) (Reps.one (show Kd.M (Kd.int .i64) _ _ _ 2 [.int .i64 2] from rfl) (Reps.none _ _)))); intro v219 w126 ho127 hb hg_ hnew_; clear hg_ hnew_; (first | rw [← Ny218.out] at ho127 | (simp only [Int.reduceToNat] at ho127; rw [← Ny218.out] at ho127)); have n0_ := Aside0.mk (Kd.N_elder' (by (with_reducible repeat (first | apply Kd.N_alloc | apply Kd.N_drewN | apply Kd.N_drew)); exact (Kd.N_mono (Kd.N_far (p := ⟨gb217, 1, none⟩) (Kd.N_far (p := ⟨gb217, 0, none⟩) (Kd.N_mono HO203.out (fun k_ hk => (⟨hk, hk.2⟩ : _ ∧ k_ ≠ gb217))) (fun _ hk => hk.2) (.int .i64 8)) (fun _ hk => hk.2) (.slice Ao122 y214.length co122)) (fun _ h_ => h_.1))) (Kd.R_base ho127) hb); have n1_ := Aside0.mk (Kd.N_elder' (by (with_reducible repeat (first | apply Kd.N_alloc | apply Kd.N_drewN | apply Kd.N_drew)); exact (Kd.N_mono (Kd.N_far (p := ⟨gb217, 1, none⟩) (Kd.N_far (p := ⟨gb217, 0, none⟩) (Kd.N_mono HO209.out (fun k_ hk => (⟨hk, hk.2⟩ : _ ∧ k_ ≠ gb217))) (fun _ hk => hk.2) (.int .i64 8)) (fun _ hk => hk.2) (.slice Ao122 y214.length co122)) (fun _ h_ => h_.1))) (Kd.R_base ho127) hb); have n2_ := Aside0.mk (Kd.N_elder' (by (with_reducible repeat (first | apply Kd.N_alloc | apply Kd.N_drewN | apply Kd.N_drew)); exact (Kd.N_mono (Kd.N_far (p := ⟨gb217, 1, none⟩) (Kd.N_far (p := ⟨gb217, 0, none⟩) (Kd.N_mono HO216.out (fun k_ hk => (⟨hk, hk.2⟩ : _ ∧ k_ ≠ gb217))) (fun _ hk => hk.2) (.int .i64 8)) (fun _ hk => hk.2) (.slice Ao122 y214.length co122)) (fun _ h_ => h_.1))) (Kd.R_base ho127) hb); have n3_ := Aside0.mk (Kd.R_lower ho127 (below_size (by repeat (first | (with_reducible first | exact HB.out | apply below_alloc | apply pw_below_drewN | apply below_drew1 | refine below_set ?_ GE210.out | refine below_set ?_ GE217.out) | exact HB.out)))); have n4_ := Aside0.mk (blk_below (g := gb210) (o := .cells #[.int .i64 8, .slice Ao114 y207.length co114] 44 (0, 0)) (by (with_reducible repeat (first | refine blk_drewN ?_ _ | refine blk_drew ?_ | refine blk_alloc ?_ _)); refine blk_far ?_ NB210_217.out _; (with_reducible repeat (first | refine blk_drewN ?_ _ | refine blk_drew ?_ | refine blk_alloc ?_ _)); refine blk_far ?_ NB210_217.out _; (with_reducible repeat (first | refine blk_drewN ?_ _ | refine blk_drew ?_ | refine blk_alloc ?_ _)); exact BK210.out) hb); have n5_ := Aside0.mk (blk_below (g := gb217) (o := .cells #[.int .i64 8, .slice Ao122 y214.length co122] 44 (0, 0)) (by (with_reducible repeat (first | refine blk_drewN ?_ _ | refine blk_drew ?_ | refine blk_alloc ?_ _)); refine blk_put (cs := #[.int .i64 8, .slice none 0 0]) ?_ 1 _ rfl; (with_reducible repeat (first | refine blk_drewN ?_ _ | refine blk_drew ?_ | refine blk_alloc ?_ _)); refine blk_put (cs := #[.int .i64 0, .slice none 0 0]) ?_ 0 _ rfl; (with_reducible repeat (first | refine blk_drewN ?_ _ | refine blk_drew ?_ | refine blk_alloc ?_ _)); exact BK217.out) hb); have n6_ := Aside0.mk (below_step (by repeat (first | (with_reducible first | exact HB.out | apply below_alloc | apply pw_below_drewN | apply below_drew1 | refine below_set ?_ GE210.out | refine below_set ?_ GE217.out) | exact HB.out)) hb); clear HO203; clear HO209; clear HO216; clear BK210; clear BK217; clear HB; have HO203 := n0_; have HO209 := n1_; have HO216 := n2_; have HO220 := n3_; have BK210 := n4_; have BK217 := n5_; have HB := n6_; clear n0_ n1_ n2_ n3_ n4_ n5_ n6_; clear hb ho127; have hcz128_0 : w126.cell? ⟨gb210, 0, none⟩ = some (.int .i64 8) := (blk_cell BK210.out 0).trans rfl; have hcz128_1 : w126.cell? ⟨gb210, 1, none⟩ = some (.slice Ao114 y207.length co114) := (blk_cell BK210.out 1).trans rfl; have hfz128_0 := blk_frozen BK210.out 0; have hfz128_1 := blk_frozen BK210.out 1; obtain ⟨Ao129, co129, eo129⟩ := Kd.N_slice HO203.out; subst eo129; obtain ⟨Ao130, co130, eo130⟩ := Kd.R_slice HO220.out; subst eo130) | ((with_reducible refine gate_callee (f := 18) rfl ?_); refine goesL_ (some 22) rfl rfl Try.func18 (by kernel_rfl) rfl #[.int .i64 2, .slice Ao129 y201.length co129, .slice Ao130 y218.length co130, .agg #[.int .i64 8, .slice Ao114 y207.length co114]] rfl (by (try simp only [List.map_toArray, List.map_cons, List.map_nil]); first | done | rfl | (simp only [List.length_drop, List.length_take]; rfl)) ?_; (with_reducible refine (proof_Check.calls 2 _ _ y201 _ _ y218 8 _ _ y207 t221 _ ?side1 ?side2 ?side3 ?side4 ?side5 ?side6 A1.out).mono ?_); (case side1 => repeat (first | exact (Kd.N_reads' HO203.out).2.2 | (with_reducible refine Kd.C_alloc ?_ _) | (with_reducible refine Kd.C_drewN ?_ _) | (with_reducible refine Kd.C_drew ?_))); (case side2 => exact (Kd.N_reads' HO203.out).2.1); (case side3 => repeat (first | exact (Kd.R_reads' HO220.out).2.2 | (with_reducible refine Kd.C_alloc ?_ _) | (with_reducible refine Kd.C_drewN ?_ _) | (with_reducible refine Kd.C_drew ?_))); (case side4 => exact (Kd.R_reads' HO220.out).2.1); (case side5 => repeat (first | exact (Kd.N_reads' HO209.out).2.2 | (with_reducible refine Kd.C_alloc ?_ _) | (with_reducible refine Kd.C_drewN ?_ _) | (with_reducible refine Kd.C_drew ?_))); (case side6 => exact (Kd.N_reads' HO209.out).2.1); rintro e w131 ⟨rfl, hb⟩; refine ⟨_, rfl, ?_⟩; have n0_ := Aside0.mk (Kd.N_below (by (with_reducible repeat (first | apply Kd.N_alloc | apply Kd.N_drewN | apply Kd.N_drew)); exact HO203.out) hb); have n1_ := Aside0.mk (Kd.N_below (by (with_reducible repeat (first | apply Kd.N_alloc | apply Kd.N_drewN | apply Kd.N_drew)); exact HO209.out) hb); have n2_ := Aside0.mk (Kd.N_below (by (with_reducible repeat (first | apply Kd.N_alloc | apply Kd.N_drewN | apply Kd.N_drew)); exact HO216.out) hb); have n3_ := Aside0.mk (Kd.R_below (by (with_reducible repeat (first | apply Kd.R_alloc | apply Kd.R_drewN | apply Kd.R_drew)); exact HO220.out) hb); have n4_ := Aside0.mk (blk_below (g := gb210) (o := .cells #[.int .i64 8, .slice Ao114 y207.length co114] 44 (0, 0)) (by (with_reducible repeat (first | refine blk_drewN ?_ _ | refine blk_drew ?_ | refine blk_alloc ?_ _)); exact BK210.out) hb); have n5_ := Aside0.mk (blk_below (g := gb217) (o := .cells #[.int .i64 8, .slice Ao122 y214.length co122] 44 (0, 0)) (by (with_reducible repeat (first | refine blk_drewN ?_ _ | refine blk_drew ?_ | refine blk_alloc ?_ _)); exact BK217.out) hb); have n6_ := Aside0.mk (below_step (by repeat (first | (with_reducible first | exact HB.out | apply below_alloc | apply pw_below_drewN | apply below_drew1 | refine below_set ?_ GE210.out | refine below_set ?_ GE217.out) | exact HB.out)) hb); clear HO203; clear HO209; clear HO216; clear HO220; clear BK210; clear BK217; clear HB; have HO203 := n0_; have HO209 := n1_; have HO216 := n2_; have HO220 := n3_; have BK210 := n4_; have BK217 := n5_; have HB := n6_; clear n0_ n1_ n2_ n3_ n4_ n5_ n6_; (try clear hb); (try clear hb2); (try clear hk); (try clear hi)) | ((with_reducible refine gate_dst (N := 26) rfl ?_); (try (refine gate_guard (by rfl) ?_; dsimp only)); refine Kd.R_lit (Kd.int .i64) _ 3 ?hg (N := 26) ?hd (xs := ([1, 2] : List Int)) (inner := [.int .i64 1, .int .i64 2]) (ok := fun _ => True) (okp := fun _ => True) ?hr ?hp (fun _ hk => hk) trivial (Below.refl _ _) (Nat.le_refl _) (by simp) ?_; (case hd => rfl); (case hg => rfl); (case hr => first | (go_simp; done) | (go_simp; rfl)); (case hp => exact (Reps.one (show Kd.M (Kd.int .i64) _ _ _ 1 [.int .i64 1] from rfl) (Reps.one (show Kd.M (Kd.int .i64) _ _ _ 2 [.int .i64 2] from rfl) (Reps.none _ _)))); intro v223 w132 ho133 hb hg_ hnew_; clear hg_ hnew_; (first | rw [← Ny222.out] at ho133 | (simp only [Int.reduceToNat] at ho133; rw [← Ny222.out] at ho133)); have n0_ := Aside0.mk (Kd.N_elder' (by (with_reducible repeat (first | apply Kd.N_alloc | apply Kd.N_drewN | apply Kd.N_drew)); exact HO203.out) (Kd.R_base ho133) hb); have n1_ := Aside0.mk (Kd.N_elder' (by (with_reducible repeat (first | apply Kd.N_alloc | apply Kd.N_drewN | apply Kd.N_drew)); exact HO209.out) (Kd.R_base ho133) hb); have n2_ := Aside0.mk (Kd.N_elder' (by (with_reducible repeat (first | apply Kd.N_alloc | apply Kd.N_drewN | apply Kd.N_drew)); exact HO216.out) (Kd.R_base ho133) hb); have n3_ := Aside0.mk (Kd.R_elder' (by (with_reducible repeat (first | apply Kd.R_alloc | apply Kd.R_drewN | apply Kd.R_drew)); exact HO220.out) (Kd.R_base ho133) hb); have n4_ := Aside0.mk (Kd.R_lower (Kd.R_new' ho133 (Kd.R_lt (by (with_reducible repeat (first | apply Kd.R_alloc | apply Kd.R_drewN | apply Kd.R_drew)); exact HO220.out))) (below_size (by repeat (first | (with_reducible first | exact HB.out | apply below_alloc | apply pw_below_drewN | apply below_drew1 | refine below_set ?_ GE210.out | refine below_set ?_ GE217.out) | exact HB.out)))); have n5_ := Aside0.mk (blk_below (g := gb210) (o := .cells #[.int .i64 8, .slice Ao114 y207.length co114] 44 (0, 0)) (by (with_reducible repeat (first | refine blk_drewN ?_ _ | refine blk_drew ?_ | refine blk_alloc ?_ _)); exact BK210.out) hb); have n6_ := Aside0.mk (blk_below (g := gb217) (o := .cells #[.int .i64 8, .slice Ao122 y214.length co122] 44 (0, 0)) (by (with_reducible repeat (first | refine blk_drewN ?_ _ | refine blk_drew ?_ | refine blk_alloc ?_ _)); exact BK217.out) hb); have n7_ := Aside0.mk (below_step (by repeat (first | (with_reducible first | exact HB.out | apply below_alloc | apply pw_below_drewN | apply below_drew1 | refine below_set ?_ GE210.out | refine below_set ?_ GE217.out) | exact HB.out)) hb); clear HO203; clear HO209; clear HO216; clear HO220; clear BK210; clear BK217; clear HB; have HO203 := n0_; have HO209 := n1_; have HO216 := n2_; have HO220 := n3_; have HO224 := n4_; have BK210 := n5_; have BK217 := n6_; have HB := n7_; clear n0_ n1_ n2_ n3_ n4_ n5_ n6_ n7_; clear hb ho133; have hcz134_0 : w132.cell? ⟨gb217, 0, none⟩ = some (.int .i64 8) := (blk_cell BK217.out 0).trans rfl; have hcz134_1 : w132.cell? ⟨gb217, 1, none⟩ = some (.slice Ao122 y214.length co122) := (blk_cell BK217.out 1).trans rfl; have hfz134_0 := blk_frozen BK217.out 0; have hfz134_1 := blk_frozen BK217.out 1; obtain ⟨Ao135, co135, eo135⟩ := Kd.R_slice HO224.out; subst eo135) | (go_at_call 18; (with_reducible refine (proof_Check.calls 2 _ _ y201 _ _ y222 8 _ _ y214 t225 _ ?side1 ?side2 ?side3 ?side4 ?side5 ?side6 A3.out).mono ?_); (case side1 => repeat (first | exact (Kd.N_reads' HO203.out).2.2 | (with_reducible refine Kd.C_alloc ?_ _) | (with_reducible refine Kd.C_drewN ?_ _) | (with_reducible refine Kd.C_drew ?_))); (case side2 => exact (Kd.N_reads' HO203.out).2.1); (case side3 => repeat (first | exact (Kd.R_reads' HO224.out).2.2 | (with_reducible refine Kd.C_alloc ?_ _) | (with_reducible refine Kd.C_drewN ?_ _) | (with_reducible refine Kd.C_drew ?_))); (case side4 => exact (Kd.R_reads' HO224.out).2.1); (case side5 => repeat (first | exact (Kd.N_reads' HO216.out).2.2 | (with_reducible refine Kd.C_alloc ?_ _) | (with_reducible refine Kd.C_drewN ?_ _) | (with_reducible refine Kd.C_drew ?_))); (case side6 => exact (Kd.N_reads' HO216.out).2.1); rintro e w136 ⟨rfl, hb⟩; have n0_ := Aside0.mk (Kd.N_below (by (with_reducible repeat (first | apply Kd.N_alloc | apply Kd.N_drewN | apply Kd.N_drew)); exact HO203.out) hb); have n1_ := Aside0.mk (Kd.N_below (by (with_reducible repeat (first | apply Kd.N_alloc | apply Kd.N_drewN | apply Kd.N_drew)); exact HO209.out) hb); have n2_ := Aside0.mk (Kd.N_below (by (with_reducible repeat (first | apply Kd.N_alloc | apply Kd.N_drewN | apply Kd.N_drew)); exact HO216.out) hb); have n3_ := Aside0.mk (Kd.R_below (by (with_reducible repeat (first | apply Kd.R_alloc | apply Kd.R_drewN | apply Kd.R_drew)); exact HO220.out) hb); have n4_ := Aside0.mk (Kd.R_below (by (with_reducible repeat (first | apply Kd.R_alloc | apply Kd.R_drewN | apply Kd.R_drew)); exact HO224.out) hb); have n5_ := Aside0.mk (blk_below (g := gb210) (o := .cells #[.int .i64 8, .slice Ao114 y207.length co114] 44 (0, 0)) (by (with_reducible repeat (first | refine blk_drewN ?_ _ | refine blk_drew ?_ | refine blk_alloc ?_ _)); exact BK210.out) hb); have n6_ := Aside0.mk (blk_below (g := gb217) (o := .cells #[.int .i64 8, .slice Ao122 y214.length co122] 44 (0, 0)) (by (with_reducible repeat (first | refine blk_drewN ?_ _ | refine blk_drew ?_ | refine blk_alloc ?_ _)); exact BK217.out) hb); have n7_ := Aside0.mk (below_step (by repeat (first | (with_reducible first | exact HB.out | apply below_alloc | apply pw_below_drewN | apply below_drew1 | refine below_set ?_ GE210.out | refine below_set ?_ GE217.out) | exact HB.out)) hb); clear HO203; clear HO209; clear HO216; clear HO220; clear HO224; clear BK210; clear BK217; clear HB; have HO203 := n0_; have HO209 := n1_; have HO216 := n2_; have HO220 := n3_; have HO224 := n4_; have BK210 := n5_; have BK217 := n6_; have HB := n7_; clear n0_ n1_ n2_ n3_ n4_ n5_ n6_ n7_; (try clear hb); (try clear hb2); (try clear hk); (try clear hi)))
   go_ret
   exact ⟨by first | rfl | (simp [errW_none, errW_some] <;> rfl) | (simp [*, errW_none, errW_some] <;> rfl), by repeat (first | (with_reducible first | exact HB.out | apply below_alloc | apply pw_below_drewN | apply below_drew1 | refine below_set ?_ GE210.out | refine below_set ?_ GE217.out) | exact HB.out)⟩
 ·rw [if_neg c2] at H
  have c2b0 : (t221 == 0) = false := beq_eq_false_iff_ne.mpr c2
  have c2b1 : (t221 != 0) = true := bne_iff_ne.mpr c2
  obtain rfl := Option.some.inj H
  go_enter Try.func22, Try.ntmps22
  go_wp2_with (first | ((with_reducible refine gate_dst (N := 4) rfl ?_); (try (refine gate_guard (by rfl) ?_; dsimp only)); refine Kd.R_lit (Kd.int .i64) _ 3 ?hg (N := 4) ?hd (xs := ([0, 1] : List Int)) (inner := [.int .i64 0, .int .i64 1]) (ok := fun _ => True) (okp := fun _ => True) ?hr ?hp (fun _ hk => hk) trivial (Below.refl _ _) (Nat.le_refl _) (by simp) ?_; (case hd => rfl); (case hg => rfl); (case hr => first | (go_simp; done) | (go_simp; rfl)); (case hp => exact (Reps.one (show Kd.M (Kd.int .i64) _ _ _ 0 [.int .i64 0] from rfl) (Reps.one (show Kd.M (Kd.int .i64) _ _ _ 1 [.int .i64 1] from rfl) (Reps.none _ _)))); intro v193 w137 ho138 hb hg_ hnew_; clear hg_ hnew_; (first | rw [← Ny192.out] at ho138 | (simp only [Int.reduceToNat] at ho138; rw [← Ny192.out] at ho138)); have n0_ := Aside0.mk (Kd.R_lower ho138 (below_size (by repeat (first | (with_reducible first | exact HB.out | apply below_alloc | apply pw_below_drewN | apply below_drew1) | exact HB.out)))); have n1_ := Aside0.mk (below_step (by repeat (first | (with_reducible first | exact HB.out | apply below_alloc | apply pw_below_drewN | apply below_drew1) | exact HB.out)) hb); clear HB; have HO194 := n0_; have HB := n1_; clear n0_ n1_; clear hb ho138; obtain ⟨Ao139, co139, eo139⟩ := Kd.R_slice HO194.out; subst eo139) | ((with_reducible refine gate_dst (N := 6) rfl ?_); (try (refine gate_guard (by rfl) ?_; dsimp only)); refine Kd.R_lit (Kd.int .i64) _ 3 ?hg (N := 6) ?hd (xs := ([0] : List Int)) (inner := [.int .i64 0]) (ok := fun _ => True) (okp := fun _ => True) ?hr ?hp (fun _ hk => hk) trivial (Below.refl _ _) (Nat.le_refl _) (by simp) ?_; (case hd => rfl); (case hg => rfl); (case hr => first | (go_simp; done) | (go_simp; rfl)); (case hp => exact (Reps.one (show Kd.M (Kd.int .i64) _ _ _ 0 [.int .i64 0] from rfl) (Reps.none _ _))); intro v196 w140 ho141 hb hg_ hnew_; clear hg_ hnew_; (first | rw [← Ny195.out] at ho141 | (simp only [Int.reduceToNat] at ho141; rw [← Ny195.out] at ho141)); have n0_ := Aside0.mk (Kd.R_elder' (by (with_reducible repeat (first | apply Kd.R_alloc | apply Kd.R_drewN | apply Kd.R_drew)); exact HO194.out) (Kd.R_base ho141) hb); have n1_ := Aside0.mk (Kd.R_lower (Kd.R_new' ho141 (Kd.R_lt (by (with_reducible repeat (first | apply Kd.R_alloc | apply Kd.R_drewN | apply Kd.R_drew)); exact HO194.out))) (below_size (by repeat (first | (with_reducible first | exact HB.out | apply below_alloc | apply pw_below_drewN | apply below_drew1) | exact HB.out)))); have n2_ := Aside0.mk (below_step (by repeat (first | (with_reducible first | exact HB.out | apply below_alloc | apply pw_below_drewN | apply below_drew1) | exact HB.out)) hb); clear HO194; clear HB; have HO194 := n0_; have HO197 := n1_; have HB := n2_; clear n0_ n1_ n2_; clear hb ho141; obtain ⟨Ao142, co142, eo142⟩ := Kd.R_slice HO197.out; subst eo142) | ((with_reducible refine gate_dst (N := 8) rfl ?_); (try (refine gate_guard (by rfl) ?_; dsimp only)); refine Kd.R_lit (Kd.int .i64) _ 3 ?hg (N := 8) ?hd (xs := ([1] : List Int)) (inner := [.int .i64 1]) (ok := fun _ => True) (okp := fun _ => True) ?hr ?hp (fun _ hk => hk) trivial (Below.refl _ _) (Nat.le_refl _) (by simp) ?_; (case hd => rfl); (case hg => rfl); (case hr => first | (go_simp; done) | (go_simp; rfl)); (case hp => exact (Reps.one (show Kd.M (Kd.int .i64) _ _ _ 1 [.int .i64 1] from rfl) (Reps.none _ _))); intro v199 w143 ho144 hb hg_ hnew_; clear hg_ hnew_; (first | rw [← Ny198.out] at ho144 | (simp only [Int.reduceToNat] at ho144; rw [← Ny198.out] at ho144)); have n0_ := Aside0.mk (Kd.R_elder' (by (with_reducible repeat (first | apply Kd.R_alloc | apply Kd.R_drewN | apply Kd.R_drew)); exact HO194.out) (Kd.R_base ho144) hb); have n1_ := Aside0.mk (Kd.R_elder' (by (with_reducible repeat (first | apply Kd.R_alloc | apply Kd.R_drewN | apply Kd.R_drew)); exact HO197.out) (Kd.R_base ho144) hb); have n2_ := Aside0.mk (Kd.R_lower (Kd.R_new' (Kd.R_new' ho144 (Kd.R_lt (by (with_reducible repeat (first | apply Kd.R_alloc | apply Kd.R_drewN | apply Kd.R_drew)); exact HO194.out))) (Kd.R_lt (by (with_reducible repeat (first | apply Kd.R_alloc | apply Kd.R_drewN | apply Kd.R_drew)); exact HO197.out))) (below_size (by repeat (first | (with_reducible first | exact HB.out | apply below_alloc | apply pw_below_drewN | apply below_drew1) | exact HB.out)))); have n3_ := Aside0.mk (below_step (by repeat (first | (with_reducible first | exact HB.out | apply below_alloc | apply pw_below_drewN | apply below_drew1) | exact HB.out)) hb); clear HO194; clear HO197; clear HB; have HO194 := n0_; have HO197 := n1_; have HO200 := n2_; have HB := n3_; clear n0_ n1_ n2_ n3_; clear hb ho144; obtain ⟨Ao145, co145, eo145⟩ := Kd.R_slice HO200.out; subst eo145) | ((with_reducible refine gate_dst (N := 10) rfl ?_); (try (refine gate_guard (by rfl) ?_; dsimp only)); refine Kd.N_lit k82 _ 82 ?hg (N' := 10) ?hd (xs := ([(⟨1, 6, y192⟩ : S82), (⟨2, 4, y195⟩ : S82), (⟨3, 4, y198⟩ : S82)] : List (S82))) (inner := [.int .i64 1, .int .i64 6, .slice Ao139 y192.length co139, .int .i64 2, .int .i64 4, .slice Ao142 y195.length co142, .int .i64 3, .int .i64 4, .slice Ao145 y198.length co145]) (ok := (fun _ => True)) (okp := (fun _ => True)) ?hr ?hp (fun _ hk => hk) ((show ∀ k_, w143.heap.size ≤ k_ → (fun _ => True) k_ from fun k_ hk => trivial) _ (Nat.le_refl _)) (Below.refl _ _) (Nat.le_refl _) (by simp) ?_; (case hd => rfl); (case hg => rfl); (case hr => first | (go_simp; done) | (go_simp; rfl)); (case hp => exact (Reps.c3 (show Kd.FK k82 _ _ (⟨1, 6, y192⟩ : S82) [.int .i64 1, .int .i64 6, .slice Ao139 y192.length co139] from (k82_mkF _ _ (⟨1, 6, y192⟩ : S82) (Kd.R_reads' (Kd.R_mono (ok' := (fun _ => True)) (HO194.out) (fun k_ hk => trivial))).2.1 (Kd.R_F (Kd.R_mono (ok' := (fun _ => True)) (HO194.out) (fun k_ hk => trivial))))) (Reps.c3 (show Kd.FK k82 _ _ (⟨2, 4, y195⟩ : S82) [.int .i64 2, .int .i64 4, .slice Ao142 y195.length co142] from (k82_mkF _ _ (⟨2, 4, y195⟩ : S82) (Kd.R_reads' (Kd.R_mono (ok' := (fun _ => True)) (HO197.out) (fun k_ hk => trivial))).2.1 (Kd.R_F (Kd.R_mono (ok' := (fun _ => True)) (HO197.out) (fun k_ hk => trivial))))) (Reps.c3 (show Kd.FK k82 _ _ (⟨3, 4, y198⟩ : S82) [.int .i64 3, .int .i64 4, .slice Ao145 y198.length co145] from (k82_mkF _ _ (⟨3, 4, y198⟩ : S82) (Kd.R_reads' (Kd.R_mono (ok' := (fun _ => True)) (HO200.out) (fun k_ hk => trivial))).2.1 (Kd.R_F (Kd.R_mono (ok' := (fun _ => True)) (HO200.out) (fun k_ hk => trivial))))) (Reps.none _ _))))); intro v202 w146 ho147 hb hg_ hnew_; clear hg_ hnew_; (first | rw [← Ny201.out] at ho147 | (simp only [Int.reduceToNat] at ho147; rw [← Ny201.out] at ho147)); have n0_ := Aside0.mk (Kd.N_lower ho147 (below_size (by repeat (first | (with_reducible first | exact HB.out | apply below_alloc | apply pw_below_drewN | apply below_drew1) | exact HB.out)))); have n1_ := Aside0.mk (below_step (by repeat (first | (with_reducible first | exact HB.out | apply below_alloc | apply pw_below_drewN | apply below_drew1) | exact HB.out)) hb); clear HB; clear HO194; clear HO197; clear HO200; have HO203 := n0_; have HB := n1_; clear n0_ n1_; clear hb ho147) | ((with_reducible refine gate_dst (N := 11) rfl ?_); (try (refine gate_guard (by rfl) ?_; dsimp only)); refine Kd.R_lit (Kd.int .i64) _ 3 ?hg (N := 11) ?hd (xs := ([3, 3] : List Int)) (inner := [.int .i64 3, .int .i64 3]) (ok := fun _ => True) (okp := fun _ => True) ?hr ?hp (fun _ hk => hk) trivial (Below.refl _ _) (Nat.le_refl _) (by simp) ?_; (case hd => rfl); (case hg => rfl); (case hr => first | (go_simp; done) | (go_simp; rfl)); (case hp => exact (Reps.one (show Kd.M (Kd.int .i64) _ _ _ 3 [.int .i64 3] from rfl) (Reps.one (show Kd.M (Kd.int .i64) _ _ _ 3 [.int .i64 3] from rfl) (Reps.none _ _)))); intro v205 w148 ho149 hb hg_ hnew_; clear hg_ hnew_; (first | rw [← Ny204.out] at ho149 | (simp only [Int.reduceToNat] at ho149; rw [← Ny204.out] at ho149)); have n0_ := Aside0.mk (Kd.N_elder' (by (with_reducible repeat (first | apply Kd.N_alloc | apply Kd.N_drewN | apply Kd.N_drew)); exact HO203.out) (Kd.R_base ho149) hb); have n1_ := Aside0.mk (Kd.R_lower ho149 (below_size (by repeat (first | (with_reducible first | exact HB.out | apply below_alloc | apply pw_below_drewN | apply below_drew1) | exact HB.out)))); have n2_ := Aside0.mk (below_step (by repeat (first | (with_reducible first | exact HB.out | apply below_alloc | apply pw_below_drewN | apply below_drew1) | exact HB.out)) hb); clear HO203; clear HB; have HO203 := n0_; have HO206 := n1_; have HB := n2_; clear n0_ n1_ n2_; clear hb ho149; obtain ⟨Ao150, co150, eo150⟩ := Kd.R_slice HO206.out; subst eo150) | ((with_reducible refine gate_dst (N := 13) rfl ?_); (try (refine gate_guard (by rfl) ?_; dsimp only)); refine Kd.N_lit k55 _ 55 ?hg (N' := 13) ?hd (xs := ([(⟨(-1), 0, 0, y204⟩ : S55)] : List (S55))) (inner := [.int .i64 (-1), .int .i64 0, .int .i64 0, .slice Ao150 y204.length co150]) (ok := (fun k_ => some k_ ≠ (v202 : Value).ownBlock)) (okp := (fun k_ => some k_ ≠ (v202 : Value).ownBlock)) ?hr ?hp (fun _ hk => hk) ((show ∀ k_, w148.heap.size ≤ k_ → (fun k_ => some k_ ≠ (v202 : Value).ownBlock) k_ from fun k_ hk => Kd.fresh' (Kd.N_lt (by (with_reducible repeat (first | apply Kd.N_alloc | apply Kd.N_drewN | apply Kd.N_drew)); exact HO203.out)) k_ hk) _ (Nat.le_refl _)) (Below.refl _ _) (Nat.le_refl _) (by simp) ?_; (case hd => rfl); (case hg => rfl); (case hr => first | (go_simp; done) | (go_simp; rfl)); (case hp => exact (Reps.c4 (show Kd.FK k55 _ _ (⟨(-1), 0, 0, y204⟩ : S55) [.int .i64 (-1), .int .i64 0, .int .i64 0, .slice Ao150 y204.length co150] from (k55_mkF _ _ (⟨(-1), 0, 0, y204⟩ : S55) (Kd.R_reads' (Kd.R_mono (ok' := (fun k_ => some k_ ≠ (v202 : Value).ownBlock)) (Kd.R_apart' (HO206.out) (Kd.N_typed HO203.out) (by decide)) (fun k_ hk => hk.2))).2.1 (Kd.R_F (Kd.R_mono (ok' := (fun k_ => some k_ ≠ (v202 : Value).ownBlock)) (Kd.R_apart' (HO206.out) (Kd.N_typed HO203.out) (by decide)) (fun k_ hk => hk.2))))) (Reps.none _ _))); intro v208 w151 ho152 hb hg_ hnew_; clear hg_ hnew_; (first | rw [← Ny207.out] at ho152 | (simp only [Int.reduceToNat] at ho152; rw [← Ny207.out] at ho152)); have n0_ := Aside0.mk (Kd.N_elder' (by (with_reducible repeat (first | apply Kd.N_alloc | apply Kd.N_drewN | apply Kd.N_drew)); exact HO203.out) (Kd.N_base ho152) hb); have n1_ := Aside0.mk (Kd.N_lower ho152 (below_size (by repeat (first | (with_reducible first | exact HB.out | apply below_alloc | apply pw_below_drewN | apply below_drew1) | exact HB.out)))); have n2_ := Aside0.mk (below_step (by repeat (first | (with_reducible first | exact HB.out | apply below_alloc | apply pw_below_drewN | apply below_drew1) | exact HB.out)) hb); clear HO203; clear HB; clear HO206; have HO203 := n0_; have HO209 := n1_; have HB := n2_; clear n0_ n1_ n2_; clear hb ho152; obtain ⟨Ao153, co153, eo153⟩ := Kd.N_slice HO209.out; subst eo153) | ((with_reducible refine gate_dst (N := 2) rfl ?_); (try (refine gate_guard (by rfl) ?_; dsimp only)); refine box_event ?hg (N := 2) ?hd (cs := #[.int .i64 0, .slice none 0 0]) (t := 44) ?hr ?_; (case hd => rfl); (case hg => rfl); (case hr => first | (go_simp; done) | (go_simp; rfl)); intro gb210 hg w154 hbox hb; have n0_ := Aside0.mk (Kd.N_below (Kd.N_elderB (by (with_reducible repeat (first | apply Kd.N_alloc | apply Kd.N_drewN | apply Kd.N_drew)); exact HO203.out) gb210 (Nat.le_of_eq hg.symm)) hb); have n1_ := Aside0.mk (Kd.N_below (Kd.N_elderB (by (with_reducible repeat (first | apply Kd.N_alloc | apply Kd.N_drewN | apply Kd.N_drew)); exact HO209.out) gb210 (Nat.le_of_eq hg.symm)) hb); have n2_ := Aside0.mk (below_step (by repeat (first | (with_reducible first | exact HB.out | apply below_alloc | apply pw_below_drewN | apply below_drew1) | exact HB.out)) hb); have n3_ := Aside0.mk (hbox); have n4_ := Aside0.mk ((by rw [hg]; exact (below_size (by repeat (first | (with_reducible first | exact HB.out | apply below_alloc | apply pw_below_drewN | apply below_drew1) | exact HB.out))) : w.heap.size ≤ gb210)); have n5_ := Aside0.mk ((by rw [hg]; exact (below_size (by repeat (first | (with_reducible first | exact HB.out | apply below_alloc | apply pw_below_drewN | apply below_drew1) | exact HB.out))) : w.heap.size ≤ gb210)); clear HO203; clear HO209; clear HB; have HO203 := n0_; have HO209 := n1_; have HB := n2_; have BK210 := n3_; have GW210 := n4_; have GE210 := n5_; clear n0_ n1_ n2_ n3_ n4_ n5_; clear hb hbox hg; have hcz155_0 : w154.cell? ⟨gb210, 0, none⟩ = some (.int .i64 0) := (blk_cell BK210.out 0).trans rfl; have hcz155_1 : w154.cell? ⟨gb210, 1, none⟩ = some (.slice none 0 0) := (blk_cell BK210.out 1).trans rfl; have hfz155_0 := blk_frozen BK210.out 0; have hfz155_1 := blk_frozen BK210.out 1) | ((with_reducible refine gate_dst (N := 15) rfl ?_); (try (refine gate_guard (by rfl) ?_; dsimp only)); refine Kd.R_lit (Kd.int .i64) _ 3 ?hg (N := 15) ?hd (xs := ([0, 0] : List Int)) (inner := [.int .i64 0, .int .i64 0]) (ok := fun _ => True) (okp := fun _ => True) ?hr ?hp (fun _ hk => hk) trivial (Below.refl _ _) (Nat.le_refl _) (by simp) ?_; (case hd => rfl); (case hg => rfl); (case hr => first | (go_simp; done) | (go_simp; rfl)); (case hp => exact (Reps.one (show Kd.M (Kd.int .i64) _ _ _ 0 [.int .i64 0] from rfl) (Reps.one (show Kd.M (Kd.int .i64) _ _ _ 0 [.int .i64 0] from rfl) (Reps.none _ _)))); intro v212 w156 ho157 hb hg_ hnew_; clear hg_ hnew_; (first | rw [← Ny211.out] at ho157 | (simp only [Int.reduceToNat] at ho157; rw [← Ny211.out] at ho157)); have n0_ := Aside0.mk (Kd.N_elder' (by (with_reducible repeat (first | apply Kd.N_alloc | apply Kd.N_drewN | apply Kd.N_drew)); exact (Kd.N_mono (Kd.N_far (p := ⟨gb210, 1, none⟩) (Kd.N_far (p := ⟨gb210, 0, none⟩) (Kd.N_mono HO203.out (fun k_ hk => (⟨hk, hk.2⟩ : _ ∧ k_ ≠ gb210))) (fun _ hk => hk.2) (.int .i64 8)) (fun _ hk => hk.2) (.slice Ao153 y207.length co153)) (fun _ h_ => h_.1))) (Kd.R_base ho157) hb); have n1_ := Aside0.mk (Kd.N_elder' (by (with_reducible repeat (first | apply Kd.N_alloc | apply Kd.N_drewN | apply Kd.N_drew)); exact (Kd.N_mono (Kd.N_far (p := ⟨gb210, 1, none⟩) (Kd.N_far (p := ⟨gb210, 0, none⟩) (Kd.N_mono HO209.out (fun k_ hk => (⟨hk, hk.2⟩ : _ ∧ k_ ≠ gb210))) (fun _ hk => hk.2) (.int .i64 8)) (fun _ hk => hk.2) (.slice Ao153 y207.length co153)) (fun _ h_ => h_.1))) (Kd.R_base ho157) hb); have n2_ := Aside0.mk (Kd.R_lower ho157 (below_size (by repeat (first | (with_reducible first | exact HB.out | apply below_alloc | apply pw_below_drewN | apply below_drew1 | refine below_set ?_ GE210.out) | exact HB.out)))); have n3_ := Aside0.mk (blk_below (g := gb210) (o := .cells #[.int .i64 8, .slice Ao153 y207.length co153] 44 (0, 0)) (by (with_reducible repeat (first | refine blk_drewN ?_ _ | refine blk_drew ?_ | refine blk_alloc ?_ _)); refine blk_put (cs := #[.int .i64 8, .slice none 0 0]) ?_ 1 _ rfl; (with_reducible repeat (first | refine blk_drewN ?_ _ | refine blk_drew ?_ | refine blk_alloc ?_ _)); refine blk_put (cs := #[.int .i64 0, .slice none 0 0]) ?_ 0 _ rfl; (with_reducible repeat (first | refine blk_drewN ?_ _ | refine blk_drew ?_ | refine blk_alloc ?_ _)); exact BK210.out) hb); have n4_ := Aside0.mk (below_step (by repeat (first | (with_reducible first | exact HB.out | apply below_alloc | apply pw_below_drewN | apply below_drew1 | refine below_set ?_ GE210.out) | exact HB.out)) hb); clear HO203; clear HO209; clear BK210; clear HB; have HO203 := n0_; have HO209 := n1_; have HO213 := n2_; have BK210 := n3_; have HB := n4_; clear n0_ n1_ n2_ n3_ n4_; clear hb ho157; obtain ⟨Ao158, co158, eo158⟩ := Kd.R_slice HO213.out; subst eo158) | ((with_reducible refine gate_dst (N := 17) rfl ?_); (try (refine gate_guard (by rfl) ?_; dsimp only)); refine Kd.N_lit k55 _ 55 ?hg (N' := 17) ?hd (xs := ([(⟨(-1), 0, 0, y211⟩ : S55)] : List (S55))) (inner := [.int .i64 (-1), .int .i64 0, .int .i64 0, .slice Ao158 y211.length co158]) (ok := (fun k_ => some k_ ≠ (v202 : Value).ownBlock ∧ some k_ ≠ (.slice Ao153 y207.length co153 : Value).ownBlock ∧ k_ ≠ gb210)) (okp := (fun k_ => some k_ ≠ (v202 : Value).ownBlock ∧ some k_ ≠ (.slice Ao153 y207.length co153 : Value).ownBlock ∧ k_ ≠ gb210)) ?hr ?hp (fun _ hk => hk) ((show ∀ k_, w156.heap.size ≤ k_ → (fun k_ => some k_ ≠ (v202 : Value).ownBlock ∧ some k_ ≠ (.slice Ao153 y207.length co153 : Value).ownBlock ∧ k_ ≠ gb210) k_ from fun k_ hk => ⟨Kd.fresh' (Kd.N_lt (by (with_reducible repeat (first | apply Kd.N_alloc | apply Kd.N_drewN | apply Kd.N_drew)); exact HO203.out)) k_ hk, Kd.fresh' (Kd.N_lt (by (with_reducible repeat (first | apply Kd.N_alloc | apply Kd.N_drewN | apply Kd.N_drew)); exact HO209.out)) k_ hk, Kd.freshB (g := gb210) (o := .cells #[.int .i64 8, .slice Ao153 y207.length co153] 44 (0, 0)) (by (with_reducible repeat (first | refine blk_drewN ?_ _ | refine blk_drew ?_ | refine blk_alloc ?_ _)); exact BK210.out) k_ hk⟩) _ (Nat.le_refl _)) (Below.refl _ _) (Nat.le_refl _) (by simp) ?_; (case hd => rfl); (case hg => rfl); (case hr => first | (go_simp; done) | (go_simp; rfl)); (case hp => exact (Reps.c4 (show Kd.FK k55 _ _ (⟨(-1), 0, 0, y211⟩ : S55) [.int .i64 (-1), .int .i64 0, .int .i64 0, .slice Ao158 y211.length co158] from (k55_mkF _ _ (⟨(-1), 0, 0, y211⟩ : S55) (Kd.R_reads' (Kd.R_mono (ok' := (fun k_ => some k_ ≠ (v202 : Value).ownBlock ∧ some k_ ≠ (.slice Ao153 y207.length co153 : Value).ownBlock ∧ k_ ≠ gb210)) (Kd.R_types (Kd.R_apart' (Kd.R_apart' (HO213.out) (Kd.N_typed HO203.out) (by decide)) (Kd.N_typed HO209.out) (by decide)) BK210.out (by decide)) (fun k_ hk => ⟨hk.1.1.2, ⟨hk.1.2, hk.2⟩⟩))).2.1 (Kd.R_F (Kd.R_mono (ok' := (fun k_ => some k_ ≠ (v202 : Value).ownBlock ∧ some k_ ≠ (.slice Ao153 y207.length co153 : Value).ownBlock ∧ k_ ≠ gb210)) (Kd.R_types (Kd.R_apart' (Kd.R_apart' (HO213.out) (Kd.N_typed HO203.out) (by decide)) (Kd.N_typed HO209.out) (by decide)) BK210.out (by decide)) (fun k_ hk => ⟨hk.1.1.2, ⟨hk.1.2, hk.2⟩⟩))))) (Reps.none _ _))); intro v215 w159 ho160 hb hg_ hnew_; clear hg_ hnew_; (first | rw [← Ny214.out] at ho160 | (simp only [Int.reduceToNat] at ho160; rw [← Ny214.out] at ho160)); have n0_ := Aside0.mk (Kd.N_elder' (by (with_reducible repeat (first | apply Kd.N_alloc | apply Kd.N_drewN | apply Kd.N_drew)); exact HO203.out) (Kd.N_base ho160) hb); have n1_ := Aside0.mk (Kd.N_elder' (by (with_reducible repeat (first | apply Kd.N_alloc | apply Kd.N_drewN | apply Kd.N_drew)); exact HO209.out) (Kd.N_base ho160) hb); have n2_ := Aside0.mk (Kd.N_lower ho160 (below_size (by repeat (first | (with_reducible first | exact HB.out | apply below_alloc | apply pw_below_drewN | apply below_drew1 | refine below_set ?_ GE210.out) | exact HB.out)))); have n3_ := Aside0.mk (blk_below (g := gb210) (o := .cells #[.int .i64 8, .slice Ao153 y207.length co153] 44 (0, 0)) (by (with_reducible repeat (first | refine blk_drewN ?_ _ | refine blk_drew ?_ | refine blk_alloc ?_ _)); exact BK210.out) hb); have n4_ := Aside0.mk (below_step (by repeat (first | (with_reducible first | exact HB.out | apply below_alloc | apply pw_below_drewN | apply below_drew1 | refine below_set ?_ GE210.out) | exact HB.out)) hb); clear HO203; clear HO209; clear BK210; clear HB; clear HO213; have HO203 := n0_; have HO209 := n1_; have HO216 := n2_; have BK210 := n3_; have HB := n4_; clear n0_ n1_ n2_ n3_ n4_; clear hb ho160; obtain ⟨Ao161, co161, eo161⟩ := Kd.N_slice HO216.out; subst eo161) | ((with_reducible refine gate_dst (N := 3) rfl ?_); (try (refine gate_guard (by rfl) ?_; dsimp only)); refine box_event ?hg (N := 3) ?hd (cs := #[.int .i64 0, .slice none 0 0]) (t := 44) ?hr ?_; (case hd => rfl); (case hg => rfl); (case hr => first | (go_simp; done) | (go_simp; rfl)); intro gb217 hg w162 hbox hb; have n0_ := Aside0.mk (Kd.N_below (Kd.N_elderB (by (with_reducible repeat (first | apply Kd.N_alloc | apply Kd.N_drewN | apply Kd.N_drew)); exact HO203.out) gb217 (Nat.le_of_eq hg.symm)) hb); have n1_ := Aside0.mk (Kd.N_below (Kd.N_elderB (by (with_reducible repeat (first | apply Kd.N_alloc | apply Kd.N_drewN | apply Kd.N_drew)); exact HO209.out) gb217 (Nat.le_of_eq hg.symm)) hb); have n2_ := Aside0.mk (Kd.N_below (Kd.N_elderB (by (with_reducible repeat (first | apply Kd.N_alloc | apply Kd.N_drewN | apply Kd.N_drew)); exact HO216.out) gb217 (Nat.le_of_eq hg.symm)) hb); have n3_ := Aside0.mk (blk_below (g := gb210) (o := .cells #[.int .i64 8, .slice Ao153 y207.length co153] 44 (0, 0)) (by (with_reducible repeat (first | refine blk_drewN ?_ _ | refine blk_drew ?_ | refine blk_alloc ?_ _)); exact BK210.out) hb); have n4_ := Aside0.mk (below_step (by repeat (first | (with_reducible first | exact HB.out | apply below_alloc | apply pw_below_drewN | apply below_drew1 | refine below_set ?_ GE210.out) | exact HB.out)) hb); have n5_ := Aside0.mk (hbox); have n6_ := Aside0.mk ((by rw [hg]; exact (below_size (by repeat (first | (with_reducible first | exact HB.out | apply below_alloc | apply pw_below_drewN | apply below_drew1 | refine below_set ?_ GE210.out) | exact HB.out))) : w.heap.size ≤ gb217)); have n7_ := Aside0.mk ((by rw [hg]; exact (below_size (by repeat (first | (with_reducible first | exact HB.out | apply below_alloc | apply pw_below_drewN | apply below_drew1 | refine below_set ?_ GE210.out) | exact HB.out))) : w.heap.size ≤ gb217)); have n8_ := Aside0.mk ((by rw [hg]; exact Nat.ne_of_lt (blk_lt (g := gb210) (o := .cells #[.int .i64 8, .slice Ao153 y207.length co153] 44 (0, 0)) (by (with_reducible repeat (first | refine blk_drewN ?_ _ | refine blk_drew ?_ | refine blk_alloc ?_ _)); exact BK210.out)) : gb210 ≠ gb217)); have n9_ := Aside0.mk ((by rw [hg]; exact Nat.ne_of_gt (blk_lt (g := gb210) (o := .cells #[.int .i64 8, .slice Ao153 y207.length co153] 44 (0, 0)) (by (with_reducible repeat (first | refine blk_drewN ?_ _ | refine blk_drew ?_ | refine blk_alloc ?_ _)); exact BK210.out)) : gb217 ≠ gb210)); clear HO203; clear HO209; clear HO216; clear BK210; clear HB; have HO203 := n0_; have HO209 := n1_; have HO216 := n2_; have BK210 := n3_; have HB := n4_; have BK217 := n5_; have GW217 := n6_; have GE217 := n7_; have NB210_217 := n8_; have NB217_210 := n9_; clear n0_ n1_ n2_ n3_ n4_ n5_ n6_ n7_ n8_ n9_; clear hb hbox hg; have hnb163 := NB217_210.out; have hnc163 := NB210_217.out; have hcz164_0 : w162.cell? ⟨gb217, 0, none⟩ = some (.int .i64 0) := (blk_cell BK217.out 0).trans rfl; have hcz164_1 : w162.cell? ⟨gb217, 1, none⟩ = some (.slice none 0 0) := (blk_cell BK217.out 1).trans rfl; have hfz164_0 := blk_frozen BK217.out 0; have hfz164_1 := blk_frozen BK217.out 1) | ((with_reducible refine gate_dst (N := 20) rfl ?_); (try (refine gate_guard (by rfl) ?_; dsimp only)); refine Kd.R_lit (Kd.int .i64) _ 3 ?hg (N := 20) ?hd (xs := ([1, 2] : List Int)) (inner := [.int .i64 1, .int .i64 2]) (ok := fun _ => True) (okp := fun _ => True) ?hr ?hp (fun _ hk => hk) trivial (Below.refl _ _) (Nat.le_refl _) (by simp) ?_; (case hd => rfl); (case hg => rfl); (case hr => first | (go_simp; done) | (go_simp; rfl)); (case hp => exact (Reps.one (show Kd.M (Kd.int .i64) _ _ _ 1 [.int .i64 1] from rfl) (Reps.one (show Kd.M (Kd.int .i64) _ _ _ 2 [.int .i64 2] from rfl) (Reps.none _ _)))); intro v219 w165 ho166 hb hg_ hnew_; clear hg_ hnew_; (first | rw [← Ny218.out] at ho166 | (simp only [Int.reduceToNat] at ho166; rw [← Ny218.out] at ho166)); have n0_ := Aside0.mk (Kd.N_elder' (by (with_reducible repeat (first | apply Kd.N_alloc | apply Kd.N_drewN | apply Kd.N_drew)); exact (Kd.N_mono (Kd.N_far (p := ⟨gb217, 1, none⟩) (Kd.N_far (p := ⟨gb217, 0, none⟩) (Kd.N_mono HO203.out (fun k_ hk => (⟨hk, hk.2⟩ : _ ∧ k_ ≠ gb217))) (fun _ hk => hk.2) (.int .i64 8)) (fun _ hk => hk.2) (.slice Ao161 y214.length co161)) (fun _ h_ => h_.1))) (Kd.R_base ho166) hb); have n1_ := Aside0.mk (Kd.N_elder' (by (with_reducible repeat (first | apply Kd.N_alloc | apply Kd.N_drewN | apply Kd.N_drew)); exact (Kd.N_mono (Kd.N_far (p := ⟨gb217, 1, none⟩) (Kd.N_far (p := ⟨gb217, 0, none⟩) (Kd.N_mono HO209.out (fun k_ hk => (⟨hk, hk.2⟩ : _ ∧ k_ ≠ gb217))) (fun _ hk => hk.2) (.int .i64 8)) (fun _ hk => hk.2) (.slice Ao161 y214.length co161)) (fun _ h_ => h_.1))) (Kd.R_base ho166) hb); have n2_ := Aside0.mk (Kd.N_elder' (by (with_reducible repeat (first | apply Kd.N_alloc | apply Kd.N_drewN | apply Kd.N_drew)); exact (Kd.N_mono (Kd.N_far (p := ⟨gb217, 1, none⟩) (Kd.N_far (p := ⟨gb217, 0, none⟩) (Kd.N_mono HO216.out (fun k_ hk => (⟨hk, hk.2⟩ : _ ∧ k_ ≠ gb217))) (fun _ hk => hk.2) (.int .i64 8)) (fun _ hk => hk.2) (.slice Ao161 y214.length co161)) (fun _ h_ => h_.1))) (Kd.R_base ho166) hb); have n3_ := Aside0.mk (Kd.R_lower ho166 (below_size (by repeat (first | (with_reducible first | exact HB.out | apply below_alloc | apply pw_below_drewN | apply below_drew1 | refine below_set ?_ GE210.out | refine below_set ?_ GE217.out) | exact HB.out)))); have n4_ := Aside0.mk (blk_below (g := gb210) (o := .cells #[.int .i64 8, .slice Ao153 y207.length co153] 44 (0, 0)) (by (with_reducible repeat (first | refine blk_drewN ?_ _ | refine blk_drew ?_ | refine blk_alloc ?_ _)); refine blk_far ?_ NB210_217.out _; (with_reducible repeat (first | refine blk_drewN ?_ _ | refine blk_drew ?_ | refine blk_alloc ?_ _)); refine blk_far ?_ NB210_217.out _; (with_reducible repeat (first | refine blk_drewN ?_ _ | refine blk_drew ?_ | refine blk_alloc ?_ _)); exact BK210.out) hb); have n5_ := Aside0.mk (blk_below (g := gb217) (o := .cells #[.int .i64 8, .slice Ao161 y214.length co161] 44 (0, 0)) (by (with_reducible repeat (first | refine blk_drewN ?_ _ | refine blk_drew ?_ | refine blk_alloc ?_ _)); refine blk_put (cs := #[.int .i64 8, .slice none 0 0]) ?_ 1 _ rfl; (with_reducible repeat (first | refine blk_drewN ?_ _ | refine blk_drew ?_ | refine blk_alloc ?_ _)); refine blk_put (cs := #[.int .i64 0, .slice none 0 0]) ?_ 0 _ rfl; (with_reducible repeat (first | refine blk_drewN ?_ _ | refine blk_drew ?_ | refine blk_alloc ?_ _)); exact BK217.out) hb); have n6_ := Aside0.mk (below_step (by repeat (first | (with_reducible first | exact HB.out | apply below_alloc | apply pw_below_drewN | apply below_drew1 | refine below_set ?_ GE210.out | refine below_set ?_ GE217.out) | exact HB.out)) hb); clear HO203; clear HO209; clear HO216; clear BK210; clear BK217; clear HB; have HO203 := n0_; have HO209 := n1_; have HO216 := n2_; have HO220 := n3_; have BK210 := n4_; have BK217 := n5_; have HB := n6_; clear n0_ n1_ n2_ n3_ n4_ n5_ n6_; clear hb ho166; have hcz167_0 : w165.cell? ⟨gb210, 0, none⟩ = some (.int .i64 8) := (blk_cell BK210.out 0).trans rfl; have hcz167_1 : w165.cell? ⟨gb210, 1, none⟩ = some (.slice Ao153 y207.length co153) := (blk_cell BK210.out 1).trans rfl; have hfz167_0 := blk_frozen BK210.out 0; have hfz167_1 := blk_frozen BK210.out 1; obtain ⟨Ao168, co168, eo168⟩ := Kd.N_slice HO203.out; subst eo168; obtain ⟨Ao169, co169, eo169⟩ := Kd.R_slice HO220.out; subst eo169) | ((with_reducible refine gate_callee (f := 18) rfl ?_); refine goesL_ (some 22) rfl rfl Try.func18 (by kernel_rfl) rfl #[.int .i64 2, .slice Ao168 y201.length co168, .slice Ao169 y218.length co169, .agg #[.int .i64 8, .slice Ao153 y207.length co153]] rfl (by (try simp only [List.map_toArray, List.map_cons, List.map_nil]); first | done | rfl | (simp only [List.length_drop, List.length_take]; rfl)) ?_; (with_reducible refine (proof_Check.calls 2 _ _ y201 _ _ y218 8 _ _ y207 t221 _ ?side1 ?side2 ?side3 ?side4 ?side5 ?side6 A1.out).mono ?_); (case side1 => repeat (first | exact (Kd.N_reads' HO203.out).2.2 | (with_reducible refine Kd.C_alloc ?_ _) | (with_reducible refine Kd.C_drewN ?_ _) | (with_reducible refine Kd.C_drew ?_))); (case side2 => exact (Kd.N_reads' HO203.out).2.1); (case side3 => repeat (first | exact (Kd.R_reads' HO220.out).2.2 | (with_reducible refine Kd.C_alloc ?_ _) | (with_reducible refine Kd.C_drewN ?_ _) | (with_reducible refine Kd.C_drew ?_))); (case side4 => exact (Kd.R_reads' HO220.out).2.1); (case side5 => repeat (first | exact (Kd.N_reads' HO209.out).2.2 | (with_reducible refine Kd.C_alloc ?_ _) | (with_reducible refine Kd.C_drewN ?_ _) | (with_reducible refine Kd.C_drew ?_))); (case side6 => exact (Kd.N_reads' HO209.out).2.1); rintro e w170 ⟨rfl, hb⟩; refine ⟨_, rfl, ?_⟩; have n0_ := Aside0.mk (Kd.N_below (by (with_reducible repeat (first | apply Kd.N_alloc | apply Kd.N_drewN | apply Kd.N_drew)); exact HO203.out) hb); have n1_ := Aside0.mk (Kd.N_below (by (with_reducible repeat (first | apply Kd.N_alloc | apply Kd.N_drewN | apply Kd.N_drew)); exact HO209.out) hb); have n2_ := Aside0.mk (Kd.N_below (by (with_reducible repeat (first | apply Kd.N_alloc | apply Kd.N_drewN | apply Kd.N_drew)); exact HO216.out) hb); have n3_ := Aside0.mk (Kd.R_below (by (with_reducible repeat (first | apply Kd.R_alloc | apply Kd.R_drewN | apply Kd.R_drew)); exact HO220.out) hb); have n4_ := Aside0.mk (blk_below (g := gb210) (o := .cells #[.int .i64 8, .slice Ao153 y207.length co153] 44 (0, 0)) (by (with_reducible repeat (first | refine blk_drewN ?_ _ | refine blk_drew ?_ | refine blk_alloc ?_ _)); exact BK210.out) hb); have n5_ := Aside0.mk (blk_below (g := gb217) (o := .cells #[.int .i64 8, .slice Ao161 y214.length co161] 44 (0, 0)) (by (with_reducible repeat (first | refine blk_drewN ?_ _ | refine blk_drew ?_ | refine blk_alloc ?_ _)); exact BK217.out) hb); have n6_ := Aside0.mk (below_step (by repeat (first | (with_reducible first | exact HB.out | apply below_alloc | apply pw_below_drewN | apply below_drew1 | refine below_set ?_ GE210.out | refine below_set ?_ GE217.out) | exact HB.out)) hb); clear HO203; clear HO209; clear HO216; clear HO220; clear BK210; clear BK217; clear HB; have HO203 := n0_; have HO209 := n1_; have HO216 := n2_; have HO220 := n3_; have BK210 := n4_; have BK217 := n5_; have HB := n6_; clear n0_ n1_ n2_ n3_ n4_ n5_ n6_; (try clear hb); (try clear hb2); (try clear hk); (try clear hi)))
  go_ret
  exact ⟨by first | rfl | (simp [errW_none, errW_some] <;> rfl) | (simp [*, errW_none, errW_some] <;> rfl), by repeat (first | (with_reducible first | exact HB.out | apply below_alloc | apply pw_below_drewN | apply below_drew1 | refine below_set ?_ GE210.out | refine below_set ?_ GE217.out) | exact HB.out)⟩

end Go.Proofs.Ytdamibblnjeooaa.H
