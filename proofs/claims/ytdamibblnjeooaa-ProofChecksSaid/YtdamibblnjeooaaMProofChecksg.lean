/- Texts of this claim, one behind the other. -/
import Derived.Test.YtdamibblnjeooaaMProofCheckse
import Derived.Test.YtdamibblnjeooaaMProofChecksb
import Derived.Test.YtdamibblnjeooaaMProofChecksf
import Derived.Test.YtdamibblnjeooaaMProofChecksc
import Derived.BigRegion
import Derived.Test.YtdamibblnjeooaaMProofChecksd

/- What a printed function computes with rounds enough: its laws; the generators of the reference. -/
namespace Go.Proofs.Ytdamibblnjeooaa.H
open Go.RowKit Go.Proofs.YtdamibblnjeooaaW.PrintWords Go.Proofs.YtdamibblnjeooaaW.PrintLast
set_option linter.unusedVariables false
set_option linter.unusedSimpArgs false
/-- With rounds enough, f tells a. -/
def Ev {α : Type} (f : Nat → Option α) (a : α) : Prop := ∃ K, ∀ k, K ≤ k → f k = some a
section
variable {α β : Type} {f : Nat → Option α} {a : α}
theorem Ev.succ (h : Ev (fun k => f (k + 1)) a) : Ev f a := by
 obtain ⟨K, h⟩ := h
 refine ⟨K + 1, fun k hk => ?_⟩
 obtain ⟨j, rfl⟩ : ∃ j, k = j + 1 := ⟨k - 1, by omega⟩
 exact h j (by omega)
theorem Ev.bind {g : Nat → α → Option β} {b : β} (hf : Ev f a) (hg : Ev (fun k => g k a) b) : Ev (fun k => (f k).bind (g k)) b := by
 obtain ⟨K, h⟩ := hf
 obtain ⟨K2, h2⟩ := hg
 exact ⟨max K K2, fun k hk => by
  show (f k).bind (g k) = some b
  rw [h k (by omega)]
  exact h2 k (by omega)⟩
theorem Ev.some_ : Ev (fun _ => some a) a := ⟨0, fun _ _ => rfl⟩
theorem Ev.ex (h : Ev f a) : ∃ k, f k = some a := by
 obtain ⟨K, h⟩ := h
 exact ⟨K, h K (Nat.le_refl _)⟩
end
theorem wf_bounds (n : Int) (h : (Lit.int .i64 n).wf = true) : -9223372036854775808 ≤ n ∧ n ≤ 9223372036854775807 := by
 simpa [Lit.wf, IntKind.min, IntKind.max, IntKind.signed, IntKind.bits] using h
theorem w64 (x : Int) (h0 : -9223372036854775808 ≤ x) (h1 : x ≤ 9223372036854775807) : wrap64 x = x := by
 unfold wrap64
 omega
theorem around_ok (n most : Int) (hn : (Lit.int .i64 n).wf = true) (hm : 0 < most) : ∃ r, worldmintref01_Around.f n most = some r ∧ 0 ≤ r ∧ r < most := by
 have hb := wf_bounds n hn
 unfold worldmintref01_Around.f
 by_cases h : n < 0
 ·rw [if_pos h, if_neg (by omega), w64 (n + 1) (by omega) (by omega), w64 (-(n + 1)) (by omega) (by omega)]
  exact ⟨_, rfl, Int.tmod_nonneg _ (by omega), Int.tmod_lt_of_pos _ hm⟩
 ·rw [if_neg h, if_neg (by omega)]
  exact ⟨_, rfl, Int.tmod_nonneg _ (by omega), Int.tmod_lt_of_pos _ hm⟩
theorem lots_ok (n : Int) (hn : (Lit.int .i64 n).wf = true) : ∃ r, worldmintref27_Lots.f n = some r ∧ 1 ≤ r ∧ r ≤ 8 := by
 obtain ⟨r, h, h0, h1⟩ := around_ok n 8 hn (by omega)
 unfold worldmintref27_Lots.f
 rw [h, Option.bind_some, w64 _ (by omega) (by omega)]
 exact ⟨_, rfl, by omega, by omega⟩
theorem pick_ok (l : List Int) (i most : Int) (hl : ∀ x ∈ l, (Lit.int .i64 x).wf = true) (hm : 0 < most) : ∃ r, worldmintref01_Pick.f l i most = some r ∧ 0 ≤ r ∧ r < most := by
 unfold worldmintref01_Pick.f
 by_cases h : i < 0
 ·rw [if_pos h]; exact ⟨0, rfl, by omega, hm⟩
 ·rw [if_neg h]
  by_cases h2 : i ≥ (l.length : Int)
  ·rw [if_pos h2]; exact ⟨0, rfl, by omega, hm⟩
  ·rw [if_neg h2, if_pos (by omega), if_pos (by omega)]
   have hm2 : rd l i ∈ l := by
    have : i.toNat < l.length := by omega
    simp [rd, List.getD, this]
   obtain ⟨r, h3, h4, h5⟩ := around_ok (rd l i) most (hl _ hm2) hm
   exact ⟨r, by rw [h3]; rfl, h4, h5⟩
/-- A bid as the reference draws it. -/
def GoodBid (n : Int) (b : S85) : Prop := 1 ≤ b.f0 ∧ b.f0 ≤ 6 ∧ 1 ≤ b.f1 ∧ b.f1 ≤ 450 ∧ b.f2.length ≠ 0 ∧ lotsOk n (-1) b.f2 = true ∧ b.f2.length ≤ 8
theorem lotsOk_snoc (n j : Int) (hj : j < n) : ∀ (ks : List Int) (last : Int), lotsOk n last ks = true → (∀ k ∈ ks, k < j) → last < j → lotsOk n last (ks ++ [j]) = true
 | [], last, _, _, h => by
  simp only [List.nil_append, lotsOk]
  simp [hj, h]
 | k :: ks, last, h, hk, _ => by
  simp only [List.cons_append, lotsOk] at h ⊢
  split at h
  ·simp at h
  ·rename_i hc
   rw [if_neg hc]
   exact lotsOk_snoc n j hj ks k h (fun x hx => hk x (by simp [hx])) (hk k (by simp))
set_option maxHeartbeats 1000000 in
theorem bids_l1 (n : Int) (l : List Int) (most : Int) (x7 : List S85) (x8 f0 f1 : Int) (hn1 : 1 ≤ n) (hn8 : n ≤ 8) (hx7 : x7.length < 3518437208883) (L : List S85)
  (hnext : ∀ ks : List Int, ks.length ≠ 0 → lotsOk n (-1) ks = true → ks.length ≤ 8 → ∃ L, Ev (fun k => worldmintref27_Bids.l0 k n l most (x7 ++ [⟨f0, f1, ks⟩]) (wrap64 (x8 + 1))) L ∧ (L.length : Int) ≤ most ∧ ∀ b ∈ L, GoodBid n b) :
  ∀ (d : Nat) (j : Int) (bs : Int) (ks : List Int), (n - j).toNat = d → 0 ≤ j → j ≤ n → lotsOk n (-1) ks = true → (∀ k ∈ ks, k < j) → (ks.length : Int) ≤ j → (j = n → ks.length ≠ 0) →
  ∃ L, Ev (fun k => worldmintref27_Bids.l1 k n l most x7 x8 bs j f0 f1 ks) L ∧ (L.length : Int) ≤ most ∧ ∀ b ∈ L, GoodBid n b
 | 0, j, bs, ks, hd, h0, hjn, hk, hkj, hkl, hne => by
  obtain ⟨L, h1, h2⟩ := hnext ks (hne (by omega)) hk (by omega)
  refine ⟨L, Ev.succ ?_, h2⟩
  simp only [worldmintref27_Bids.l1]
  simp only [if_neg (show ¬ j < n by omega), if_pos hx7]
  exact h1
 | d + 1, j, bs, ks, hd, h0, hjn, hk, hkj, hkl, hne => by
  have hw : wrap64 (j + 1) = j + 1 := w64 _ (by omega) (by omega)
  have hw2 : wrap64 (n - 1) = n - 1 := w64 _ (by omega) (by omega)
  have happ := fun bs' => bids_l1 n l most x7 x8 f0 f1 hn1 hn8 hx7 L hnext d (j + 1) bs' (ks ++ [j]) (by omega) (by omega) (by omega) (lotsOk_snoc n j (by omega) ks (-1) hk hkj (by omega)) (fun k hk' => by
   rcases List.mem_append.1 hk' with h | h
   ·have := hkj k h; omega
   ·simp at h; omega) (by simp; omega) (fun _ => by simp)
  have hnot := fun bs' (hh : j + 1 = n → ks.length ≠ 0) => bids_l1 n l most x7 x8 f0 f1 hn1 hn8 hx7 L hnext d (j + 1) bs' ks (by omega) (by omega) (by omega) hk (fun k hk' => by have := hkj k hk'; omega) (by omega) hh
  by_cases c1 : Int.tmod bs 2 = 1
  ·obtain ⟨L, h1, h2⟩ := happ (wrap64 (Int.tdiv bs 2))
   refine ⟨L, Ev.succ ?_, h2⟩
   simp only [worldmintref27_Bids.l1]
   simp only [if_pos (show j < n by omega), if_pos c1, if_pos (show ks.length < 17592186044416 by omega), hw]
   exact h1
  ·by_cases c2 : j = n - 1
   ·by_cases c3 : (ks.length : Int) = 0
    ·obtain ⟨L, h1, h2⟩ := happ (wrap64 (Int.tdiv bs 2))
     refine ⟨L, Ev.succ ?_, h2⟩
     simp only [worldmintref27_Bids.l1]
     simp only [if_pos (show j < n by omega), if_neg c1, hw2, if_pos c2, if_pos c3, if_pos (show ks.length < 17592186044416 by omega), hw]
     exact h1
    ·obtain ⟨L, h1, h2⟩ := hnot (wrap64 (Int.tdiv bs 2)) (fun _ => by omega)
     refine ⟨L, Ev.succ ?_, h2⟩
     simp only [worldmintref27_Bids.l1]
     simp only [if_pos (show j < n by omega), if_neg c1, hw2, if_pos c2, if_neg c3, hw]
     exact h1
   ·obtain ⟨L, h1, h2⟩ := hnot (wrap64 (Int.tdiv bs 2)) (fun _ => by omega)
    refine ⟨L, Ev.succ ?_, h2⟩
    simp only [worldmintref27_Bids.l1]
    simp only [if_pos (show j < n by omega), if_neg c1, hw2, if_neg c2, hw]
    exact h1
set_option maxHeartbeats 1000000 in
theorem bids_l0 (n : Int) (l : List Int) (hl : ∀ x ∈ l, (Lit.int .i64 x).wf = true) (most : Int) (hn1 : 1 ≤ n) (hn8 : n ≤ 8) (hm0 : 0 ≤ most) (hm1 : most ≤ 1000) :
  ∀ (d : Nat) (x7 : List S85), (most - x7.length).toNat = d → (x7.length : Int) ≤ most → (∀ b ∈ x7, GoodBid n b) →
  ∃ L, Ev (fun k => worldmintref27_Bids.l0 k n l most x7 x7.length) L ∧ (L.length : Int) ≤ most ∧ ∀ b ∈ L, GoodBid n b := by
 intro d
 induction d with
 | zero =>
  intro x7 hd hx hb
  obtain ⟨r, hr, hr0, hr1⟩ := pick_ok l 0 (most + 1) hl (by omega)
  refine ⟨x7, Ev.succ ?_, hx, hb⟩
  simp only [worldmintref27_Bids.l0, w64 (most + 1) (by omega) (by omega), hr, Option.bind_some]
  simp only [if_neg (show ¬ (x7.length : Int) < r by omega)]
  exact Ev.some_
 | succ d ih =>
  intro x7 hd hx hb
  obtain ⟨r, hr, hr0, hr1⟩ := pick_ok l 0 (most + 1) hl (by omega)
  by_cases hlt : (x7.length : Int) < r
  ·obtain ⟨t, ht, ht0, ht1⟩ := pick_ok l (wrap64 (1 + wrap64 (3 * (x7.length : Int)))) 1000000 hl (by omega)
   obtain ⟨u, hu, hu0, hu1⟩ := pick_ok l (wrap64 (2 + wrap64 (3 * (x7.length : Int)))) 255 hl (by omega)
   obtain ⟨v, hv, hv0, hv1⟩ := pick_ok l (wrap64 (3 + wrap64 (3 * (x7.length : Int)))) 255 hl (by omega)
   have e0 : 0 ≤ Int.tmod t 6 ∧ Int.tmod t 6 < 6 := ⟨Int.tmod_nonneg _ ht0, Int.tmod_lt_of_pos _ (by omega)⟩
   have hq : 0 ≤ Int.tdiv t 6 ∧ Int.tdiv t 6 ≤ t := ⟨Int.tdiv_nonneg ht0 (by omega), Int.tdiv_le_self _ ht0⟩
   have hq2 : 0 ≤ Int.tdiv t 216 ∧ Int.tdiv t 216 ≤ t := ⟨Int.tdiv_nonneg ht0 (by omega), Int.tdiv_le_self _ ht0⟩
   have hw1 : wrap64 (Int.tdiv t 6) = Int.tdiv t 6 := w64 _ (by omega) (by omega)
   have hw2 : wrap64 (Int.tdiv t 216) = Int.tdiv t 216 := w64 _ (by omega) (by omega)
   have e1 : 0 ≤ Int.tmod (Int.tdiv t 6) 9 ∧ Int.tmod (Int.tdiv t 6) 9 < 9 := ⟨Int.tmod_nonneg _ hq.1, Int.tmod_lt_of_pos _ (by omega)⟩
   have e2 : 0 ≤ Int.tmod (Int.tdiv t 216) 50 ∧ Int.tmod (Int.tdiv t 216) 50 < 50 := ⟨Int.tmod_nonneg _ hq2.1, Int.tmod_lt_of_pos _ (by omega)⟩
   have g0 : wrap64 (1 + Int.tmod t 6) = 1 + Int.tmod t 6 := w64 _ (by omega) (by omega)
   have g1 : wrap64 (1 + Int.tmod (Int.tdiv t 6) 9) = 1 + Int.tmod (Int.tdiv t 6) 9 := w64 _ (by omega) (by omega)
   have g2 : wrap64 (1 + Int.tmod (Int.tdiv t 216) 50) = 1 + Int.tmod (Int.tdiv t 216) 50 := w64 _ (by omega) (by omega)
   have hpr : ∀ a b : Int, 1 ≤ a → a ≤ 9 → 1 ≤ b → b ≤ 50 → 1 ≤ a * b ∧ a * b ≤ 450 := fun a b a1 a2 b1 b2 => by
    have h1 : 1 * 1 ≤ a * b := Int.mul_le_mul a1 b1 (by omega) (by omega)
    have h2 : a * b ≤ 9 * 50 := Int.mul_le_mul a2 b2 (by omega) (by omega)
    omega
   have hp := hpr (1 + Int.tmod (Int.tdiv t 6) 9) (1 + Int.tmod (Int.tdiv t 216) 50) (by omega) (by omega) (by omega) (by omega)
   have g3 : wrap64 ((1 + Int.tmod (Int.tdiv t 6) 9) * (1 + Int.tmod (Int.tdiv t 216) 50)) = (1 + Int.tmod (Int.tdiv t 6) 9) * (1 + Int.tmod (Int.tdiv t 216) 50) := w64 _ (by omega) (by omega)
   have hstep : ∀ p : Int, 1 ≤ p → p ≤ 450 → ∃ L, Ev (fun k => worldmintref27_Bids.j1 k n l most x7 (x7.length : Int) (1 + Int.tmod t 6) p) L ∧ (L.length : Int) ≤ most ∧ ∀ b ∈ L, GoodBid n b := fun p hp1 hp2 => by
    obtain ⟨L, h1, h2⟩ := bids_l1 n l most x7 (x7.length : Int) (1 + Int.tmod t 6) p hn1 hn8 (by omega) [] (fun ks hk0 hk1 hk2 => by
     obtain ⟨L, h1, h2⟩ := ih (x7 ++ [⟨1 + Int.tmod t 6, p, ks⟩]) (by simp; omega) (by simp; omega) (fun b hb' => by
      rcases List.mem_append.1 hb' with h | h
      ·exact hb b h
      ·rw [List.mem_singleton] at h; subst h; exact ⟨by show 1 ≤ 1 + _; omega, by show 1 + _ ≤ 6; omega, hp1, hp2, hk0, hk1, hk2⟩)
     refine ⟨L, ?_, h2⟩
     rw [w64 _ (by omega) (by omega)]
     simpa using h1) n.toNat 0 (Go.bits .and .i64 u (Go.bits .or .i64 v 17)) [] (by omega) (by omega) (by omega) rfl (by simp) (by simp) (by omega)
    refine ⟨L, Ev.succ ?_, h2⟩
    simp only [worldmintref27_Bids.j1, hu, hv, Option.bind_some]
    exact h1
   by_cases c : Int.tmod (wrap64 (Int.tdiv t 54)) 4 = 0
   ·obtain ⟨L, h1, h2⟩ := hstep _ hp.1 hp.2
    refine ⟨L, Ev.succ ?_, h2⟩
    simp only [worldmintref27_Bids.l0, w64 (most + 1) (by omega) (by omega), hr, ht, Option.bind_some, if_pos hlt, if_pos c, hw1, hw2, g0, g1, g2, g3]
    exact h1
   ·obtain ⟨L, h1, h2⟩ := hstep (1 + Int.tmod (Int.tdiv t 6) 9) (by omega) (by omega)
    refine ⟨L, Ev.succ ?_, h2⟩
    simp only [worldmintref27_Bids.l0, w64 (most + 1) (by omega) (by omega), hr, ht, Option.bind_some, if_pos hlt, if_neg c, hw1, g0, g1]
    exact h1
  ·refine ⟨x7, Ev.succ ?_, hx, hb⟩
   simp only [worldmintref27_Bids.l0, w64 (most + 1) (by omega) (by omega), hr, Option.bind_some]
   simp only [if_neg hlt]
   exact Ev.some_
theorem bids_ok (n : Int) (l : List Int) (hl : ∀ x ∈ l, (Lit.int .i64 x).wf = true) (most : Int) (hn1 : 1 ≤ n) (hn8 : n ≤ 8) (hm0 : 0 ≤ most) (hm1 : most ≤ 1000) :
  ∃ L, Ev (fun k => worldmintref27_Bids.f k n l most) L ∧ (L.length : Int) ≤ most ∧ ∀ b ∈ L, GoodBid n b := by
 have := bids_l0 n l hl most hn1 hn8 hm0 hm1 _ [] rfl (by simpa using hm0) (by simp)
 simpa [worldmintref27_Bids.f] using this
end Go.Proofs.Ytdamibblnjeooaa.H

/- The search's answer: the best choice, and of equals the least. Plain. -/
namespace Go.Proofs.Ytdamibblnjeooaa.H
open Go.RowKit
set_option linter.unusedVariables false
set_option linter.unusedSimpArgs false
/-- Do places a and b conflict? -/
def cf (l : List S82) (a b : Int) : Bool := conf (l.getD a.toNat z82) (l.getD b.toNat z82)
/-- The places from i on, n of them, whose bit is set. -/
def choiceP : Nat → Nat → Nat → List Int
 | 0, _, _ => []
 | n + 1, bits, i => if bits % 2 = 1 then (i : Int) :: choiceP n (bits / 2) (i + 1) else choiceP n (bits / 2) (i + 1)
/-- Places that go with those taken, and among each other. -/
def okS (U : S82 → Bool) (l : List S82) : List Int → List Int → Bool
 | _, [] => true
 | win, k :: s => U (l.getD k.toNat z82) && !(win.any fun w => cf l w k) && okS U l (win ++ [k]) s
def valP (l : List S82) (s : List Int) : Int := (s.map fun k => (l.getD k.toNat z82).f1).sum
def lessP : List Int → List Int → Bool
 | [], [] => false
 | [], _ :: _ => true
 | _ :: _, [] => false
 | a :: s, b :: t => if a = b then lessP s t else decide (a < b)
/-- The best extension. -/
def ext (U : S82 → Bool) (l : List S82) : List S82 → Nat → List Int → List Int × Int
 | [], _, _ => ([], 0)
 | b :: left, i, win =>
  if U b && !(win.any fun w => conf (l.getD w.toNat z82) b) then
   if (ext U l left (i + 1) (win ++ [(i : Int)])).2 + b.f1 < (ext U l left (i + 1) win).2 then ext U l left (i + 1) win
   else ((i : Int) :: (ext U l left (i + 1) (win ++ [(i : Int)])).1, (ext U l left (i + 1) (win ++ [(i : Int)])).2 + b.f1)
  else ext U l left (i + 1) win
section
variable {U : S82 → Bool} {l : List S82}
theorem ext_bounds : ∀ (left : List S82) (i : Nat) (win : List Int), (∀ b ∈ left, 1 ≤ b.f1) → 0 ≤ (ext U l left i win).2 ∧ (ext U l left i win).2 ≤ restOf U left
 | [], _, _, _ => by simp [ext, restOf]
 | b :: left, i, win, h => by
  have hb := h b (by simp)
  have h1 := ext_bounds left (i + 1) win (fun x hx => h x (by simp [hx]))
  have h2 := ext_bounds left (i + 1) (win ++ [(i : Int)]) (fun x hx => h x (by simp [hx]))
  unfold ext restOf
  cases hU : U b
  ·simp only [Bool.false_and, Bool.false_eq_true, if_false]; omega
  ·simp only [Bool.true_and, if_true]
   split
   ·split
    ·constructor <;> omega
    ·constructor <;> (simp only; omega)
   ·constructor <;> omega
theorem try_ext : ∀ (left : List S82) (i : Nat) (value : Int) (win : List Int) (best : Int) (out : List Int) (val : Int), (∀ b ∈ left, 1 ≤ b.f1) →
  tryP U l left i value win (best, out, val) = if best < value + (ext U l left i win).2 then (value + (ext U l left i win).2, win ++ (ext U l left i win).1, value + (ext U l left i win).2) else (best, out, val)
 | [], i, value, win, best, out, val, _ => by
  simp only [tryP, ext, Int.add_zero, List.append_nil]
  by_cases h : value ≤ best
  ·rw [if_pos h, if_neg (by omega)]
  ·rw [if_neg h, if_pos (by omega)]
 | b :: left, i, value, win, best, out, val, h => by
  have hl : ∀ x ∈ left, 1 ≤ x.f1 := fun x hx => h x (by simp [hx])
  have hb := h b (by simp)
  have hbd := ext_bounds (U := U) (l := l) (b :: left) i win h
  simp only [tryP]
  by_cases hp : value + restOf U (b :: left) ≤ best
  ·rw [if_pos hp, if_neg (by omega)]
  ·rw [if_neg hp]
   have ht := try_ext left (i + 1) (value + b.f1) (win ++ [(i : Int)]) best out val hl
   have hs := fun B O V => try_ext left (i + 1) value win B O V hl
   unfold ext
   by_cases hc : (U b && !(win.any fun w => conf (l.getD w.toNat z82) b)) = true
   ·rw [if_pos hc, if_pos hc, ht]
    generalize ext U l left (i + 1) (win ++ [(i : Int)]) = T at *
    generalize ext U l left (i + 1) win = S at *
    by_cases h1 : best < value + b.f1 + T.2
    ·rw [if_pos h1, hs]
     by_cases h2 : T.2 + b.f1 < S.2
     ·rw [if_pos h2, if_pos (by omega), if_pos (by omega)]
     ·rw [if_neg h2, if_neg (by omega)]
      simp only
      rw [if_pos (by omega)]
      rw [show value + b.f1 + T.2 = value + (T.2 + b.f1) from by omega]
      simp
    ·rw [if_neg h1, hs]
     by_cases h2 : T.2 + b.f1 < S.2
     ·rw [if_pos h2]
     ·rw [if_neg h2, if_neg (by omega)]
      simp only
      rw [if_neg (by omega)]
   ·rw [if_neg hc, if_neg hc, hs]
theorem search_ext (h : ∀ b ∈ l, 1 ≤ b.f1) : searchP U l = ext U l l 0 [] := by
 have hb := ext_bounds (U := U) (l := l) l 0 [] h
 unfold searchP
 rw [try_ext l 0 0 [] (-1) [] 0 h, if_pos (by omega)]
 simp
theorem choice_ge : ∀ (n bits i : Nat), ∀ k ∈ choiceP n bits i, (i : Int) ≤ k ∧ k < (i : Int) + n
 | 0, _, _ => by simp [choiceP]
 | n + 1, bits, i => by
  intro k hk
  have ih := choice_ge n (bits / 2) (i + 1)
  unfold choiceP at hk
  split at hk
  ·rcases List.mem_cons.1 hk with rfl | hk
   ·constructor <;> omega
   ·have := ih k hk; constructor <;> omega
  ·have := ih k hk; constructor <;> omega
theorem drop_getD (i : Nat) (b : S82) (left : List S82) (h : l.drop i = b :: left) : l.getD (i : Int).toNat z82 = b ∧ l.drop (i + 1) = left := by
 have h1 : l[i]? = some b := by
  have := congrArg (fun t => t[0]?) h
  simpa using this
 refine ⟨by simp [List.getD, h1], ?_⟩
 have := congrArg List.tail h
 simpa using this
theorem ext_valid : ∀ (left : List S82) (i : Nat) (win : List Int), l.drop i = left →
  okS U l win (ext U l left i win).1 = true ∧ valP l (ext U l left i win).1 = (ext U l left i win).2 ∧ ∃ bits, bits < 2 ^ left.length ∧ choiceP left.length bits i = (ext U l left i win).1
 | [], i, win, _ => ⟨by simp [ext, okS], by simp [ext, valP], 0, by simp, by simp [ext, choiceP]⟩
 | b :: left, i, win, h => by
  obtain ⟨hg, hd⟩ := drop_getD i b left h
  obtain ⟨s1, s2, sb, s3, s4⟩ := ext_valid left (i + 1) win hd
  obtain ⟨t1, t2, tb, t3, t4⟩ := ext_valid left (i + 1) (win ++ [(i : Int)]) hd
  have hskip : okS U l win (ext U l left (i + 1) win).1 = true ∧ valP l (ext U l left (i + 1) win).1 = (ext U l left (i + 1) win).2 ∧ ∃ bits, bits < 2 ^ (b :: left).length ∧ choiceP (b :: left).length bits i = (ext U l left (i + 1) win).1 := by
   refine ⟨s1, s2, 2 * sb, by simp only [List.length_cons, Nat.pow_succ]; omega, ?_⟩
   simp only [List.length_cons, choiceP]
   rw [if_neg (by omega), show 2 * sb / 2 = sb from by omega, s4]
  unfold ext
  by_cases hc : (U b && !(win.any fun w => conf (l.getD w.toNat z82) b)) = true
  ·rw [if_pos hc]
   split
   ·exact hskip
   ·refine ⟨?_, ?_, 2 * tb + 1, by simp only [List.length_cons, Nat.pow_succ]; omega, ?_⟩
    ·simp only [okS, cf, hg, t1, Bool.and_true]
     exact hc
    ·simp only [valP, List.map_cons, List.sum_cons, hg] at t2 ⊢
     omega
    ·simp only [List.length_cons, choiceP]
     rw [if_pos (by omega), show (2 * tb + 1) / 2 = tb from by omega, t4]
  ·rw [if_neg hc]
   exact hskip
theorem ext_best : ∀ (left : List S82) (i : Nat) (win : List Int), l.drop i = left → (∀ b ∈ left, 1 ≤ b.f1) → ∀ bits, okS U l win (choiceP left.length bits i) = true →
  valP l (choiceP left.length bits i) ≤ (ext U l left i win).2 ∧ (valP l (choiceP left.length bits i) = (ext U l left i win).2 → choiceP left.length bits i = (ext U l left i win).1 ∨ lessP (ext U l left i win).1 (choiceP left.length bits i) = true)
 | [], i, win, _, _, bits, _ => ⟨by simp [choiceP, ext, valP], fun _ => .inl (by simp [choiceP, ext])⟩
 | b :: left, i, win, h, hp, bits, hok => by
  obtain ⟨hg, hd⟩ := drop_getD i b left h
  have hb := hp b (by simp)
  have hl : ∀ x ∈ left, 1 ≤ x.f1 := fun x hx => hp x (by simp [hx])
  have hs := ext_best left (i + 1) win hd hl (bits / 2)
  have ht := ext_best left (i + 1) (win ++ [(i : Int)]) hd hl (bits / 2)
  have hge := choice_ge left.length (bits / 2) (i + 1)
  have htb := ext_bounds (U := U) (l := l) left (i + 1) (win ++ [(i : Int)]) hl
  simp only [List.length_cons, choiceP] at hok ⊢
  by_cases hbit : bits % 2 = 1
  ·rw [if_pos hbit] at hok ⊢
   simp only [okS, cf, hg, Bool.and_eq_true] at hok
   obtain ⟨⟨hU, hnc⟩, hrest⟩ := hok
   obtain ⟨h1, h2⟩ := ht hrest
   unfold ext
   rw [if_pos (by simp only [Bool.and_eq_true]; exact ⟨hU, hnc⟩)]
   have hv : valP l ((i : Int) :: choiceP left.length (bits / 2) (i + 1)) = b.f1 + valP l (choiceP left.length (bits / 2) (i + 1)) := by
    simp only [valP, List.map_cons, List.sum_cons, hg]
   rw [hv]
   split
   ·exact ⟨by omega, fun e => by omega⟩
   ·refine ⟨by show _ ≤ (_, _).2; simp only; omega, fun e => ?_⟩
    simp only at e ⊢
    rcases h2 (by omega) with h3 | h3
    ·exact .inl (by rw [h3])
    ·exact .inr (by simp only [lessP, if_true]; exact h3)
  ·rw [if_neg hbit] at hok ⊢
   obtain ⟨h1, h2⟩ := hs hok
   unfold ext
   split
   ·split
    ·exact ⟨h1, h2⟩
    ·refine ⟨by show _ ≤ (_, _).2; simp only; omega, fun e => .inr ?_⟩
     simp only at e ⊢
     cases hc : choiceP left.length (bits / 2) (i + 1) with
     | nil =>
      rw [hc] at e
      simp only [valP, List.map_nil, List.sum_nil] at e
      omega
     | cons k s =>
      have := hge k (by rw [hc]; simp)
      simp only [lessP]
      rw [if_neg (by omega)]
      simp
      omega
   ·exact ⟨h1, h2⟩
/-- What the reference keeps: a choice that is the best. -/
theorem best_unique (hp : ∀ b ∈ l, 1 ≤ b.f1) (win : List Int) (value : Int) (b0 : Nat) (h0 : b0 < 2 ^ l.length) (hw : choiceP l.length b0 0 = win) (hok : okS U l [] win = true) (hv : valP l win = value)
  (hall : ∀ b, b < 2 ^ l.length → okS U l [] (choiceP l.length b 0) = true → valP l (choiceP l.length b 0) ≤ value ∧ (valP l (choiceP l.length b 0) = value → lessP (choiceP l.length b 0) win = false)) :
  (win, value) = searchP U l := by
 rw [search_ext hp]
 obtain ⟨e1, e2, be, e3, e4⟩ := ext_valid (U := U) l 0 [] (l := l) rfl
 obtain ⟨h1, h2⟩ := hall be e3 (by rw [e4]; exact e1)
 obtain ⟨h3, h4⟩ := ext_best (U := U) (l := l) l 0 [] rfl hp b0 (by rw [hw]; exact hok)
 rw [e4] at h1 h2
 rw [hw] at h3 h4
 have hvv : value = (ext U l l 0 []).2 := by omega
 have hww : win = (ext U l l 0 []).1 := by
  rcases h4 (by omega) with h5 | h5
  ·exact h5
  ·rw [h2 (by omega)] at h5
   cases h5
 rw [hvv, hww]
theorem less_irrefl : ∀ s, lessP s s = false
 | [] => rfl
 | a :: s => by simp [lessP, less_irrefl s]
theorem less_trans : ∀ a b c, lessP a b = true → lessP b c = true → lessP a c = true
 | [], [], _, h, _ => by simp [lessP] at h
 | [], _ :: _, [], _, h => by simp [lessP] at h
 | [], _ :: _, _ :: _, _, _ => rfl
 | _ :: _, [], _, h, _ => by simp [lessP] at h
 | _ :: _, _ :: _, [], _, h => by simp [lessP] at h
 | x :: a, y :: b, z :: c, h1, h2 => by
  simp only [lessP] at h1 h2 ⊢
  by_cases e1 : x = y
  ·subst e1
   rw [if_pos rfl] at h1
   by_cases e2 : x = z
   ·subst e2
    rw [if_pos rfl] at h2 ⊢
    exact less_trans a b c h1 h2
   ·rw [if_neg e2] at h2 ⊢
    exact h2
  ·rw [if_neg e1] at h1
   simp only [decide_eq_true_eq] at h1
   by_cases e2 : y = z
   ·subst e2
    rw [if_neg e1]
    simpa using h1
   ·rw [if_neg e2] at h2
    simp only [decide_eq_true_eq] at h2
    rw [if_neg (by omega)]
    simp only [decide_eq_true_eq]
    omega
end
end Go.Proofs.Ytdamibblnjeooaa.H

/- What the reference of bids computes: by the same plain words. -/
namespace Go.Proofs.Ytdamibblnjeooaa.H
open Go.RowKit Go.Proofs.YtdamibblnjeooaaW.PrintWords Go.Proofs.YtdamibblnjeooaaW.PrintLast
set_option linter.unusedVariables false
set_option linter.unusedSimpArgs false
/-- A bid of the reference as a bid of the program. -/
def cv (b : S85) : S82 := ⟨b.f0, b.f1, b.f2⟩
theorem drop_cons {α : Type} (l : List α) (p : Nat) (x : α) (d : List α) (h : l.drop p = x :: d) : l[p]? = some x ∧ l.drop (p + 1) = d ∧ p < l.length := by
 have h1 : l[p]? = some x := by
  have := congrArg (fun t => t[0]?) h
  simpa using this
 refine ⟨h1, ?_, ?_⟩
 ·have := congrArg List.tail h
  simpa using this
 ·have := congrArg List.length h
  simp at this
  omega
theorem drop_nil {α : Type} (l : List α) (p : Nat) (hp : p ≤ l.length) (h : l.drop p = []) : p = l.length := by
 have := congrArg List.length h
 simp at this
 omega
theorem rdR_at (l : List S85) (i : Nat) (x : S85) (h : l[i]? = some x) : rd_T85 l (i : Int) = x := by
 simp [rd_T85, List.getD, h]
theorem rdR_cv (l : List S85) (i : Int) : cv (rd_T85 l i) = (l.map cv).getD i.toNat z82 := by
 simp only [rd_T85, List.getD, List.getElem?_map]
 cases l[i.toNat]? <;> rfl
/-! ### Valid -/
theorem rvalid_l1 (n : Int) (l : List S85) (i f0 f1 : Int) (ks : List Int) (hk : ks.length ≤ 9223372036854775807) (r : Int) (hr : Ev (fun k => worldmintref27_Valid.l0 k n l (wrap64 (i + 1))) r) :
  ∀ (d : List Int) (p : Nat) (last : Int), ks.drop p = d → p ≤ ks.length → -1 ≤ last → (p = 0 → last = -1) → (∀ q, p = q + 1 → rd ks q = last) →
  Ev (fun k => worldmintref27_Valid.l1 k n l i (p : Int) f0 f1 ks) (if lotsOk n last d then r else 1)
 | [], p, last, hd, hp, hl, hz, hq => by
  have := drop_nil ks p hp hd
  refine Ev.succ ?_
  simp only [worldmintref27_Valid.l1, if_neg (show ¬ (p : Int) < (ks.length : Int) by omega), lotsOk, if_true]
  exact hr
 | x :: d, p, last, hd, hp, hl, hz, hq => by
  obtain ⟨hx, hd', hlt⟩ := drop_cons ks p x d hd
  have ih := fun h0 => rvalid_l1 n l i f0 f1 ks hk r hr d (p + 1) x hd' (by omega) h0 (by omega) (fun q e => by
   have : q = p := by omega
   subst this
   exact rd_at ks q x hx)
  have hw : wrap64 ((p : Int) + 1) = ((p + 1 : Nat) : Int) := by rw [w64 _ (by omega) (by omega)]; omega
  have hF : x ≤ last ∨ n ≤ x → lotsOk n last (x :: d) = false := fun h => by
   simp only [lotsOk]
   rw [if_pos (by simpa using h)]
  have hT : ¬ x ≤ last → ¬ n ≤ x → lotsOk n last (x :: d) = lotsOk n x d := fun h1 h2 => by
   simp only [lotsOk]
   rw [if_neg (by simp; omega)]
  refine Ev.succ ?_
  simp only [worldmintref27_Valid.l1, if_pos (show (p : Int) < (ks.length : Int) by omega), if_pos (show (0 : Int) ≤ (p : Int) by omega), rd_at ks p x hx, hw]
  by_cases c1 : x < 0
  ·simp only [if_pos c1]
   rw [hF (by omega)]
   simpa using Ev.some_
  ·simp only [if_neg c1]
   by_cases c2 : x ≥ n
   ·simp only [if_pos c2]
    rw [hF (by omega)]
    simpa using Ev.some_
   ·simp only [if_neg c2]
    cases p with
    | zero =>
     have hl1 := hz rfl
     simp only [if_neg (show ¬ ((0 : Nat) : Int) > 0 by omega)]
     rw [hT (by omega) (by omega)]
     exact ih (by omega)
    | succ q =>
     have hw2 : wrap64 (((q + 1 : Nat) : Int) - 1) = (q : Int) := by rw [w64 _ (by omega) (by omega)]; omega
     simp only [if_pos (show ((q + 1 : Nat) : Int) > 0 by omega), hw2, if_pos (show (0 : Int) ≤ (q : Int) by omega), if_pos (show (q : Int) < (ks.length : Int) by omega), hq q rfl]
     by_cases c3 : x ≤ last
     ·simp only [if_pos c3]
      rw [hF (by omega)]
      simpa using Ev.some_
     ·simp only [if_neg c3]
      rw [hT (by omega) (by omega)]
      exact ih (by omega)
theorem rvalid_l0 (n : Int) (l : List S85) (hl : l.length ≤ 10) (hb : ∀ b ∈ l, b.f2.length ≤ 9223372036854775807) : ∀ (d : List S85) (p : Nat), l.drop p = d → p ≤ l.length →
  Ev (fun k => worldmintref27_Valid.l0 k n l (p : Int)) (bidsErr n (d.map cv))
 | [], p, hd, hp => by
  have := drop_nil l p hp hd
  refine Ev.succ ?_
  simp only [worldmintref27_Valid.l0, if_neg (show ¬ (p : Int) < (l.length : Int) by omega)]
  exact Ev.some_
 | x :: d, p, hd, hp => by
  obtain ⟨hx, hd', hlt⟩ := drop_cons l p x d hd
  have ih := rvalid_l0 n l hl hb d (p + 1) hd' (by omega)
  have hw : wrap64 ((p : Int) + 1) = ((p + 1 : Nat) : Int) := by rw [w64 _ (by omega) (by omega)]; omega
  have h1 := rvalid_l1 n l p x.f0 x.f1 x.f2 (hb x (List.mem_of_getElem? hx)) _ (by rw [hw]; exact ih) x.f2 0 (-1) rfl (Nat.zero_le _) (by omega) (fun _ => rfl) (fun q e => by omega)
  refine Ev.succ ?_
  simp only [worldmintref27_Valid.l0, if_pos (show (p : Int) < (l.length : Int) by omega), if_pos (show (0 : Int) ≤ (p : Int) by omega), rdR_at l p x hx, List.map_cons, bidsErr, cv]
  have hj : ∀ v : Bool, Ev (fun k => worldmintref27_Valid.j2 k n l (p : Int) v x.f0 x.f1 x.f2) (if v then 1 else if x.f1 < 1 || 1099511627776 < x.f1 then 5 else if x.f2.length == 0 then 1 else if !lotsOk n (-1) x.f2 then 1 else bidsErr n (d.map cv)) := fun v => by
   refine Ev.succ ?_
   cases v
   ·have hj3 : ∀ u : Bool, Ev (fun k => worldmintref27_Valid.j3 k n l (p : Int) u x.f0 x.f1 x.f2) (if u then 5 else if x.f2.length == 0 then 1 else if !lotsOk n (-1) x.f2 then 1 else bidsErr n (d.map cv)) := fun u => by
     refine Ev.succ ?_
     cases u
     ·simp only [worldmintref27_Valid.j3, Bool.false_eq_true, if_false]
      by_cases c : (x.f2.length : Int) = 0
      ·simp only [if_pos c]
       rw [if_pos (by simpa using c)]
       exact Ev.some_
      ·simp only [if_neg c]
       rw [if_neg (by simpa using c)]
       cases hk : lotsOk n (-1) x.f2
       ·simpa [hk] using h1
       ·simpa [hk] using h1
     ·simp only [worldmintref27_Valid.j3, if_true]
      exact Ev.some_
    simp only [worldmintref27_Valid.j2, Bool.false_eq_true, if_false]
    by_cases c : x.f1 < 1
    ·simp only [if_pos c]
     have := hj3 true
     simpa [c] using this
    ·simp only [if_neg c]
     have := hj3 (decide (x.f1 > 1099511627776))
     simpa [c] using this
   ·simp only [worldmintref27_Valid.j2, if_true]
    exact Ev.some_
  by_cases c : x.f0 < 1
  ·simp only [if_pos c]
   have := hj true
   simpa [c] using this
  ·simp only [if_neg c]
   have := hj (decide (x.f0 > 1073741824))
   simpa [c] using this
theorem rvalid_ok (n : Int) (l : List S85) (hb : ∀ b ∈ l, b.f2.length ≤ 9223372036854775807) : Ev (fun k => worldmintref27_Valid.f k n l) (validP n (l.map cv)) := by
 have hj : ∀ v : Bool, Ev (fun k => worldmintref27_Valid.j0 k n l v) (if v then 5 else if 10 < l.length then 4 else bidsErr n (l.map cv)) := fun v => by
  refine Ev.succ ?_
  cases v
  ·simp only [worldmintref27_Valid.j0, Bool.false_eq_true, if_false]
   by_cases c : (l.length : Int) > 10
   ·simp only [if_pos c]
    rw [if_pos (by omega)]
    exact Ev.some_
   ·simp only [if_neg c]
    rw [if_neg (by omega)]
    exact rvalid_l0 n l (by omega) hb l 0 rfl (Nat.zero_le _)
  ·simp only [worldmintref27_Valid.j0, if_true]
   exact Ev.some_
 unfold worldmintref27_Valid.f validP
 by_cases c : n < 1
 ·simp only [if_pos c]
  have := hj true
  simpa [c] using this
 ·simp only [if_neg c]
  have := hj (decide (n > 8))
  simpa [c] using this
/-! ### given -/
theorem given_ok (l : List S85) (hl : l.length < 3518437208883) : Ev (fun k => worldmintlaw29_given.f k l) (l.map cv) := by
 have : ∀ (d : List S85) (p : Nat), l.drop p = d → p ≤ l.length → Ev (fun k => worldmintlaw29_given.l0 k l ((l.take p).map cv) (p : Int)) (l.map cv) := by
  intro d
  induction d with
  | nil =>
   intro p hd hp
   have := drop_nil l p hp hd
   subst this
   refine Ev.succ ?_
   simp only [worldmintlaw29_given.l0, if_neg (show ¬ (l.length : Int) < (l.length : Int) by omega), List.take_length]
   exact Ev.some_
  | cons x d ih =>
   intro p hd hp
   obtain ⟨hx, hd', hlt⟩ := drop_cons l p x d hd
   have hw : wrap64 ((p : Int) + 1) = ((p + 1 : Nat) : Int) := by rw [w64 _ (by omega) (by omega)]; omega
   have h1 := ih (p + 1) hd' (by omega)
   refine Ev.succ ?_
   simp only [worldmintlaw29_given.l0, if_pos (show (p : Int) < (l.length : Int) by omega), if_pos (show (0 : Int) ≤ (p : Int) by omega), rdR_at l p x hx, hw, List.length_map, List.length_take]
   simp only [if_pos (show min p l.length < 3518437208883 by omega)]
   have e : (l.take p).map cv ++ [⟨x.f0, x.f1, x.f2⟩] = (l.take (p + 1)).map cv := by
    have hg : l[p] = x := by
     have := List.getElem?_eq_getElem hlt
     rw [hx] at this
     injection this with this
     exact this.symm
    rw [List.take_succ_eq_append_getElem hlt, List.map_append, hg]
    rfl
   rw [e]
   exact h1
 exact this l 0 rfl (Nat.zero_le _)
/-! ### Conflict, Feasible, Value, Less, Choice -/
theorem has_ok (xs : List Int) (x : Int) (hl : xs.length ≤ 9223372036854775807) : Ev (fun k => worldmintref01_Has.f k xs x) (xs.contains x) := by
 have : ∀ (d : List Int) (p : Nat), xs.drop p = d → p ≤ xs.length → Ev (fun k => worldmintref01_Has.l0 k xs x (p : Int)) (d.contains x) := by
  intro d
  induction d with
  | nil =>
   intro p hd hp
   have := drop_nil xs p hp hd
   refine Ev.succ ?_
   simp only [worldmintref01_Has.l0, if_neg (show ¬ (p : Int) < (xs.length : Int) by omega)]
   exact Ev.some_
  | cons y d ih =>
   intro p hd hp
   obtain ⟨hx, hd', hlt⟩ := drop_cons xs p y d hd
   have hw : wrap64 ((p : Int) + 1) = ((p + 1 : Nat) : Int) := by rw [w64 _ (by omega) (by omega)]; omega
   have h1 := ih (p + 1) hd' (by omega)
   refine Ev.succ ?_
   simp only [worldmintref01_Has.l0, if_pos (show (p : Int) < (xs.length : Int) by omega), if_pos (show (0 : Int) ≤ (p : Int) by omega), rd_at xs p y hx, hw]
   by_cases c : y = x
   ·subst c
    simp only [if_true]
    simpa using Ev.some_
   ·simp only [if_neg c]
    have e : (y :: d).contains x = d.contains x := by rw [List.contains_cons, beq_false_of_ne (fun e : x = y => c e.symm), Bool.false_or]
    rw [e]
    exact h1
 exact this xs 0 rfl (Nat.zero_le _)
theorem rconf_ok (a0 a1 : Int) (a2 : List Int) (b0 b1 : Int) (b2 : List Int) (ha : a2.length ≤ 9223372036854775807) (hb : b2.length ≤ 9223372036854775807) :
  Ev (fun k => worldmintref27_Conflict.f k a0 a1 a2 b0 b1 b2) (conf ⟨b0, b1, b2⟩ ⟨a0, a1, a2⟩) := by
 have : ∀ (d : List Int) (p : Nat), a2.drop p = d → p ≤ a2.length → Ev (fun k => worldmintref27_Conflict.l0 k (p : Int) a0 a1 a2 b0 b1 b2) (d.any fun k => b2.contains k) := by
  intro d
  induction d with
  | nil =>
   intro p hd hp
   have := drop_nil a2 p hp hd
   refine Ev.succ ?_
   simp only [worldmintref27_Conflict.l0, if_neg (show ¬ (p : Int) < (a2.length : Int) by omega)]
   exact Ev.some_
  | cons y d ih =>
   intro p hd hp
   obtain ⟨hx, hd', hlt⟩ := drop_cons a2 p y d hd
   have hw : wrap64 ((p : Int) + 1) = ((p + 1 : Nat) : Int) := by rw [w64 _ (by omega) (by omega)]; omega
   have h1 := ih (p + 1) hd' (by omega)
   refine Ev.succ ?_
   simp only [worldmintref27_Conflict.l0, if_pos (show (p : Int) < (a2.length : Int) by omega), if_pos (show (0 : Int) ≤ (p : Int) by omega), rd_at a2 p y hx, hw]
   refine Ev.bind (has_ok b2 y hb) ?_
   simp only [List.any_cons]
   cases b2.contains y
   ·simpa using h1
   ·simpa using Ev.some_
 unfold worldmintref27_Conflict.f conf
 by_cases c : a0 = b0
 ·subst c
  simp only [if_true]
  simpa using Ev.some_
 ·simp only [if_neg c]
  have e : (b0 == a0) = false := by simpa using fun e : b0 = a0 => c e.symm
  simp only [e, Bool.false_or]
  exact this a2 0 rfl (Nat.zero_le _)
theorem choice_ok (n : Nat) (hn : n ≤ 100) : ∀ (d : Nat) (i : Nat) (bits : Nat) (acc : List Int), n - i = d → i ≤ n → acc.length ≤ i → bits ≤ 9223372036854775807 →
  Ev (fun k => worldmintref27_Choice.l0 k (bits : Int) (n : Int) acc (i : Int)) (acc ++ choiceP d bits i)
 | 0, i, bits, acc, hd, hi, hacc, hb => by
  refine Ev.succ ?_
  simp only [worldmintref27_Choice.l0, if_neg (show ¬ (i : Int) < (n : Int) by omega), choiceP, List.append_nil]
  exact Ev.some_
 | d + 1, i, bits, acc, hd, hi, hacc, hb => by
  have hw : wrap64 ((i : Int) + 1) = ((i + 1 : Nat) : Int) := by rw [w64 _ (by omega) (by omega)]; omega
  have ht : Int.tmod (bits : Int) 2 = ((bits % 2 : Nat) : Int) := by rw [Int.tmod_eq_emod_of_nonneg (by omega)]; omega
  have hv : wrap64 (Int.tdiv (bits : Int) 2) = ((bits / 2 : Nat) : Int) := by
   rw [Int.tdiv_eq_ediv_of_nonneg (by omega), w64 _ (by omega) (by omega)]; omega
  refine Ev.succ ?_
  simp only [worldmintref27_Choice.l0, if_pos (show (i : Int) < (n : Int) by omega), ht, hv, hw, choiceP]
  by_cases c : bits % 2 = 1
  ·simp only [if_pos (show ((bits % 2 : Nat) : Int) = 1 by omega), if_pos (show acc.length < 17592186044416 by omega), if_pos c]
   have := choice_ok n hn d (i + 1) (bits / 2) (acc ++ [(i : Int)]) (by omega) (by omega) (by simp; omega) (by omega)
   simpa using this
  ·simp only [if_neg (show ¬ ((bits % 2 : Nat) : Int) = 1 by omega), if_neg c]
   exact choice_ok n hn d (i + 1) (bits / 2) acc (by omega) (by omega) (by omega) (by omega)
theorem rvalue_ok (l : List S85) (c : List Int) (hc : ∀ k ∈ c, 0 ≤ k ∧ k < l.length) (hl : c.length ≤ 1000) (hp : ∀ b ∈ l, 0 ≤ b.f1 ∧ b.f1 ≤ 1099511627776) : Ev (fun k => worldmintref27_Value.f k l c) (valP (l.map cv) c) := by
 have : ∀ (d : List Int) (p : Nat) (s : Int), c.drop p = d → p ≤ c.length → 0 ≤ s → s ≤ p * 1099511627776 → Ev (fun k => worldmintref27_Value.l0 k l c s (p : Int)) (s + valP (l.map cv) d) := by
  intro d
  induction d with
  | nil =>
   intro p s hd hpl hs0 hs1
   have := drop_nil c p hpl hd
   refine Ev.succ ?_
   simp only [worldmintref27_Value.l0, if_neg (show ¬ (p : Int) < (c.length : Int) by omega), valP, List.map_nil, List.sum_nil, Int.add_zero]
   exact Ev.some_
  | cons y d ih =>
   intro p s hd hpl hs0 hs1
   obtain ⟨hx, hd', hlt⟩ := drop_cons c p y d hd
   obtain ⟨hy0, hy1⟩ := hc y (List.mem_of_getElem? hx)
   have hw : wrap64 ((p : Int) + 1) = ((p + 1 : Nat) : Int) := by rw [w64 _ (by omega) (by omega)]; omega
   have hyl : y.toNat < l.length := by omega
   have hb := hp l[y.toNat] (List.getElem_mem hyl)
   have hrd : rd_T85 l y = l[y.toNat] := by simp [rd_T85, List.getD, hyl]
   have hg : (l.map cv).getD y.toNat z82 = cv l[y.toNat] := by simp [List.getD, hyl]
   have hw2 : wrap64 (s + l[y.toNat].f1) = s + l[y.toNat].f1 := w64 _ (by omega) (by omega)
   have h1 := ih (p + 1) (s + l[y.toNat].f1) hd' (by omega) (by omega) (by omega)
   refine Ev.succ ?_
   simp only [worldmintref27_Value.l0, if_pos (show (p : Int) < (c.length : Int) by omega), if_pos (show (0 : Int) ≤ (p : Int) by omega), rd_at c p y hx, hw, if_pos (show y ≥ 0 by omega), if_pos (show y < (l.length : Int) by omega), if_pos (show (0 : Int) ≤ y by omega), hrd, hw2]
   have e : s + valP (l.map cv) (y :: d) = s + l[y.toNat].f1 + valP (l.map cv) d := by
    simp only [valP, List.map_cons, List.sum_cons, hg, cv]
    omega
   rw [e]
   exact h1
 have h := this c 0 0 rfl (Nat.zero_le _) (by omega) (by omega)
 simpa [worldmintref27_Value.f] using h
end Go.Proofs.Ytdamibblnjeooaa.H

/- Value. Plain. -/
namespace Go.Proofs.Ytdamibblnjeooaa.H
open Go.RowKit Go.Proofs.YtdamibblnjeooaaW.PrintWords Go.Proofs.YtdamibblnjeooaaW.PrintLast
set_option linter.unusedVariables false
set_option linter.unusedSimpArgs false
theorem value_ok (l : List S82) (c : List Int) (hc : ∀ k ∈ c, 0 ≤ k ∧ k < l.length) (hl : c.length ≤ 1000) (hp : ∀ b ∈ l, 0 ≤ b.f1 ∧ b.f1 ≤ 1099511627776) : Ev (fun k => bids_Value.f k l c) (valP l c) := by
 have : ∀ (d : List Int) (p : Nat) (s : Int), c.drop p = d → p ≤ c.length → 0 ≤ s → s ≤ p * 1099511627776 → Ev (fun k => bids_Value.l0 k l s c (c.length : Int) (p : Int)) (s + valP l d) := by
  intro d
  induction d with
  | nil =>
   intro p s hd hpl hs0 hs1
   have := drop_nil c p hpl hd
   refine Ev.succ ?_
   simp only [bids_Value.l0, if_neg (show ¬ (p : Int) < (c.length : Int) by omega), valP, List.map_nil, List.sum_nil, Int.add_zero]
   exact Ev.some_
  | cons y d ih =>
   intro p s hd hpl hs0 hs1
   obtain ⟨hx, hd', hlt⟩ := drop_cons c p y d hd
   obtain ⟨hy0, hy1⟩ := hc y (List.mem_of_getElem? hx)
   have hw : wrap64 ((p : Int) + 1) = ((p + 1 : Nat) : Int) := by rw [w64 _ (by omega) (by omega)]; omega
   have hyl : y.toNat < l.length := by omega
   have hm : l.getD y.toNat z82 ∈ l := by simp [List.getD, hyl]
   have hb := hp _ hm
   have hrd : rd_T82 l y = l.getD y.toNat z82 := rfl
   have hw2 : wrap64 (s + (l.getD y.toNat z82).f1) = s + (l.getD y.toNat z82).f1 := w64 _ (by omega) (by omega)
   have h1 := ih (p + 1) (s + (l.getD y.toNat z82).f1) hd' (by omega) (by omega) (by omega)
   refine Ev.succ ?_
   simp only [bids_Value.l0, if_pos (show (p : Int) < (c.length : Int) by omega), if_pos (show (0 : Int) ≤ (p : Int) by omega), rd_at c p y hx, hw, if_pos (show y ≥ 0 by omega), if_pos (show y < (l.length : Int) by omega), if_pos (show (0 : Int) ≤ y by omega), hrd, hw2]
   have e : s + valP l (y :: d) = s + (l.getD y.toNat z82).f1 + valP l d := by
    simp only [valP, List.map_cons, List.sum_cons]
    omega
   rw [e]
   exact h1
 have h := this c 0 0 rfl (Nat.zero_le _) (by omega) (by omega)
 simpa [bids_Value.f] using h
end Go.Proofs.Ytdamibblnjeooaa.H

/- proof.Check. -/
namespace Go.Proofs.Ytdamibblnjeooaa.H
open Go.RowKit Go.Proofs.YtdamibblnjeooaaW.PrintWords Go.Proofs.YtdamibblnjeooaaW.PrintLast Go.Proofs.YtdamibblnjeooaaW.PrintMore
set_option linter.unusedVariables false
set_option linter.unusedSimpArgs false
/-- The certificate as a whole. -/
def rootP (n : Int) (l : List S82) (v : Int) (nodes : List S55) : Bool × List Bool := nodeP n l v nodes nodes.length 0 (List.replicate l.length 0) (List.replicate nodes.length false)
def checkP (n : Int) (l : List S82) (win : List Int) (v : Int) (nodes : List S55) : Int :=
 if validP n l ≠ 0 then validP n l else if feasP l [] win = false then 1 else if 2047 < nodes.length then 4 else if nodes.length = 0 ∨ v ≠ valP l win then 20 else
 if (rootP n l v nodes).1 = true ∧ (rootP n l v nodes).2.all id = true then 0 else 20
def proof_Check.f (a0 : Int) (l1 : List S82) (l2 : List Int) (a3_0 : Int) (l3_1 : List S55) : Option Int := some (checkP a0 l1 l2 a3_0 l3_1)
def lastP (pre : List Int) (w : Int) : Bool := match pre.getLast? with | some p => decide (w ≤ p) | none => false
theorem feasP_facts (l : List S82) : ∀ (ws pre : List Int), feasP l pre ws = true → (∀ k ∈ ws, 0 ≤ k ∧ k < l.length) ∧ ws.Pairwise (· < ·) ∧ (∀ p, pre.getLast? = some p → ∀ k ∈ ws, p < k)
 | [], _, _ => ⟨by simp, List.Pairwise.nil, by simp⟩
 | w :: ws, pre, h => by
  have h0 : feasP l pre (w :: ws) = if (w < 0 || (l.length : Int) ≤ w || lastP pre w) = true then false else if (pre.any fun v => conf (l.getD v.toNat z82) (l.getD w.toNat z82)) = true then false else feasP l (pre ++ [w]) ws := rfl
  rw [h0] at h
  by_cases c1 : (w < 0 || (l.length : Int) ≤ w || lastP pre w) = true
  ·rw [if_pos c1] at h; cases h
  ·rw [if_neg c1] at h
   by_cases c2 : (pre.any fun v => conf (l.getD v.toNat z82) (l.getD w.toNat z82)) = true
   ·rw [if_pos c2] at h; cases h
   ·rw [if_neg c2] at h
    obtain ⟨h1, h2, h3⟩ := feasP_facts l ws (pre ++ [w]) h
    have h4 := h3 w (by simp)
    simp only [Bool.or_eq_true, decide_eq_true_eq, not_or] at c1
    refine ⟨fun k hk => ?_, List.pairwise_cons.2 ⟨h4, h2⟩, fun p hp k hk => ?_⟩
    ·rcases List.mem_cons.1 hk with rfl | hk
     ·omega
     ·exact h1 k hk
    ·have h5 : ¬ w ≤ p := by
      have h6 := c1.2
      unfold lastP at h6
      rw [hp] at h6
      simpa using h6
     rcases List.mem_cons.1 hk with rfl | hk
     ·omega
     ·have := h4 k hk; omega
theorem rise_len : ∀ (s : List Int) (a : Int) (n : Nat), s.Pairwise (· < ·) → (∀ k ∈ s, a ≤ k ∧ k < a + n) → s.length ≤ n
 | [], _, _, _, _ => Nat.zero_le _
 | x :: s, a, n, hr, h => by
  obtain ⟨h1, h2⟩ := List.pairwise_cons.1 hr
  have hx := h x (by simp)
  obtain ⟨m, rfl⟩ : ∃ m, n = m + 1 := ⟨n - 1, by omega⟩
  have := rise_len s (a + 1) m h2 (fun k hk => by
   have h3 := h1 k hk
   have h4 := h k (by simp [hk])
   omega)
  simp only [List.length_cons]; omega
theorem feas_len (l : List S82) (win : List Int) (h : feasP l [] win = true) : win.length ≤ l.length := by
 obtain ⟨h1, h2, _⟩ := feasP_facts l win [] h
 exact rise_len win 0 l.length h2 (fun k hk => by have := h1 k hk; omega)
theorem made_boolsC (n : Nat) : madeCells #[Value.bool false] n = (bools (List.replicate n false)).toArray := by
 apply Array.ext
 ·simp [bools, madeCells]
 ·intro i h1 h2
  simp [bools, madeCells, Nat.mod_one]
theorem infoBo : (Try.prog.info? 4).map (fun i => (i.zero, i.size, i.bytes)) = some (some (.bool false), 1, 1) := by kernel_rfl
set_option maxHeartbeats 8000000 in
set_option maxRecDepth 100000 in
theorem proof_Check.calls (a0 : Int) (A1 : Option Addr) (c1 : Nat) (l1 : List S82) (A2 : Option Addr) (c2 : Nat) (l2 : List Int) (a3_0 : Int) (A3_1 : Option Addr) (c3_1 : Nat) (l3_1 : List S55) (r : Int) (w : World)
  (hr1 : Kd.C k82 w A1 l1.length l1) (hc1 : l1.length ≤ c1) (hr2 : Kd.C (Kd.int .i64) w A2 l2.length l2) (hc2 : l2.length ≤ c2) (hr3_1 : Kd.C k55 w A3_1 l3_1.length l3_1) (hc3_1 : l3_1.length ≤ c3_1) (h : proof_Check.f a0 l1 l2 a3_0 l3_1 = some r) :
  Calls Try.prog 18 #[.int .i64 a0, .slice A1 l1.length c1, .slice A2 l2.length c2, .agg #[.int .i64 a3_0, .slice A3_1 l3_1.length c3_1]] w fun e w' => e = .returned (.int .i64 r) ∧ Below w.heap.size w w' := by
 obtain rfl : checkP a0 l1 l2 a3_0 l3_1 = r := Option.some.inj h
 clear h
 obtain ⟨k, hk⟩ := bids_Valid_f a0 l1 (lots_short hr1)
 obtain ⟨wA, hwA⟩ : ∃ wA, wA = w.alloc (.cells #[.int .i64 a3_0, .slice A3_1 l3_1.length c3_1] 44) := ⟨_, rfl⟩
 have hbA : Below w.heap.size w wA := by rw [hwA]; exact (Below.refl _ w).alloc (Nat.le_refl _) _
 have hPA : wA.heap[w.heap.size]? = some (.cells #[.int .i64 a3_0, .slice A3_1 l3_1.length c3_1] 44 (0, 0)) := by rw [hwA]; exact heap_alloc_new w _
 have hv := bids_Valid.calls k a0 A1 c1 l1 _ wA (Kd.C_below hr1 hbA) hc1 hk
 have Hv := Aside0.mk hv
 have Hr1 := Aside0.mk hr1
 have Hr2 := Aside0.mk hr2
 have Hr3 := Aside0.mk hr3_1
 have HbA := Aside0.mk hbA
 have HPA := Aside0.mk hPA
 clear hr1 hr2 hr3_1 hbA hPA hv hk
 by_cases hz : validP a0 l1 = 0
 ·rw [hz] at Hv
  obtain ⟨hn1, hn2, hl10, hbb⟩ := validP_bids a0 l1 hz
  have Hbb := Aside0.mk hbb
  have Hz := Aside0.mk hz
  clear hbb hz
  have hfc := fun W (hW : Below w.heap.size w W) => bids_Feasible.calls A1 c1 l1 A2 c2 l2 _ W (Kd.C_below Hr1.out hW) hc1 (Kd.C_below Hr2.out hW) hc2 rfl
  have Hfc := Aside0.mk hfc
  clear hfc
  go_enter Try.func18, Try.ntmps18
  go_upto_region 1 with (fail)
  rw [← hwA]
  clear hwA
  go_wp2_with fail
  refine Hv.out.mono ?_
  rintro e w1 ⟨rfl, hb1⟩
  have hW1 := HbA.out.trans (hb1.mono HbA.out.size)
  have hP1 := (hb1.block _ (Array.getElem?_eq_some_iff.1 HPA.out).1).trans HPA.out
  have hf1 := Hfc.out w1 hW1
  have HW1 := Aside0.mk hW1
  have HP1 := Aside0.mk hP1
  have Hf1 := Aside0.mk hf1
  clear hb1 hW1 hP1 hf1 Hfc HPA HbA Hv
  cases hfe : feasP l1 [] l2
  ·have hres : checkP a0 l1 l2 a3_0 l3_1 = 1 := by unfold checkP; rw [if_neg (by rw [Hz.out]; simp), if_pos hfe]
   rw [hfe] at Hf1
   have Hres := Aside0.mk hres
   clear hres hfe
   go_wp2_with fail
   refine Hf1.out.mono ?_
   rintro e w2 ⟨rfl, hb2⟩
   have hW2 := HW1.out.trans (hb2.mono HW1.out.size)
   clear hb2 Hf1
   go_wp2
   go_ret
   exact ⟨by rw [Hres.out]; rfl, hW2⟩
  ·rw [hfe] at Hf1
   have Hfe := Aside0.mk hfe
   clear hfe
   go_wp2_with fail
   refine Hf1.out.mono ?_
   rintro e w2 ⟨rfl, hb2⟩
   have hW2 := HW1.out.trans (hb2.mono HW1.out.size)
   have hP2 := (hb2.block _ (Array.getElem?_eq_some_iff.1 HP1.out).1).trans HP1.out
   have hcp0 : w2.cell? ⟨w.heap.size, 0, none⟩ = some (.int .i64 a3_0) := (blk_cell hP2 0).trans rfl
   have hcp1 : w2.cell? ⟨w.heap.size, 1, none⟩ = some (.slice A3_1 l3_1.length c3_1) := (blk_cell hP2 1).trans rfl
   have HW2 := Aside0.mk hW2
   have HP2 := Aside0.mk hP2
   clear hb2 hW2 hP2 Hf1 HW1 HP1
   have hnb := (show l3_1.length ≤ 9223372036854775807 from Hr3.out.2.1)
   by_cases hbig : 2047 < l3_1.length
   ·have hres : checkP a0 l1 l2 a3_0 l3_1 = 4 := by unfold checkP; rw [if_neg (by rw [Hz.out]; simp), if_neg (by rw [Hfe.out]; simp), if_pos hbig]
    have Hres := Aside0.mk hres
    have hd1 : decide ((2047 : Int) < (l3_1.length : Int)) = true := decide_eq_true (by omega)
    have hd2 : decide (2047 < l3_1.length) = true := decide_eq_true hbig
    clear hres
    go_wp2
    go_ret
    exact ⟨by rw [Hres.out]; rfl, HW2.out⟩
   ·have hd1 : decide ((2047 : Int) < (l3_1.length : Int)) = false := decide_eq_false (by omega)
    have hd2 : decide (2047 < l3_1.length) = false := decide_eq_false hbig
    have Hbig := Aside0.mk hbig
    clear hbig
    by_cases hz0 : l3_1.length = 0
    ·have hres : checkP a0 l1 l2 a3_0 l3_1 = 20 := by unfold checkP; rw [if_neg (by rw [Hz.out]; simp), if_neg (by rw [Hfe.out]; simp), if_neg Hbig.out, if_pos (.inl hz0)]
     have Hres := Aside0.mk hres
     rw [hz0] at hcp1
     clear hres hz0
     go_upto_region 8 with (fail)
     go_quiet (fail)
     have hW3 : Below w.heap.size w (w2.drewN nq) := HW2.out.trans ((pw_below_drewN (Below.refl w2.heap.size w2) nq).mono HW2.out.size)
     go_wp2
     go_ret
     exact ⟨by rw [Hres.out]; rfl, hW3⟩
    ·have hd3 : ((l3_1.length : Int) == 0) = false := by simpa using hz0
     obtain ⟨hr, hp, _⟩ := feasP_facts l1 l2 [] Hfe.out
     have hfl := feas_len l1 l2 Hfe.out
     obtain ⟨kv, hkv⟩ := (value_ok l1 l2 hr (by omega) (fun b hb => by have := (Hbb.out b hb).1; omega)).ex
     have hva := bids_Value.calls kv A1 c1 l1 A2 c2 l2 _ w2.drew (Kd.C_below Hr1.out (HW2.out.trans ((below_drew0 w2).mono HW2.out.size))) hc1 (Kd.C_below Hr2.out (HW2.out.trans ((below_drew0 w2).mono HW2.out.size))) hc2 hkv
     have Hva := Aside0.mk hva
     have Hz0 := Aside0.mk hz0
     clear hva hkv hr hp hfl hz0
     have hkeep : ∀ w', Below w2.heap.size w2 w' → w'.cell? ⟨w.heap.size, 0, none⟩ = some (.int .i64 a3_0) ∧ w'.cell? ⟨w.heap.size, 1, none⟩ = some (.slice A3_1 l3_1.length c3_1) := fun w' hb =>
      ⟨(hb.cell (World.block_lt_of_cell? w2 _ hcp0)).trans hcp0, (hb.cell (World.block_lt_of_cell? w2 _ hcp1)).trans hcp1⟩
     have Hkeep := Aside0.mk hkeep
     clear hkeep
     by_cases hvv : a3_0 = valP l1 l2
     ·have hd4 : (a3_0 != valP l1 l2) = false := by simpa using hvv
      have hres : checkP a0 l1 l2 a3_0 l3_1 = if (rootP a0 l1 a3_0 l3_1).1 = true ∧ (rootP a0 l1 a3_0 l3_1).2.all id = true then 0 else 20 := by
       unfold checkP
       rw [if_neg (by rw [Hz.out]; simp), if_neg (by rw [Hfe.out]; simp), if_neg Hbig.out, if_neg (by
        rintro (h | h)
        ·exact Hz0.out h
        ·exact h hvv)]
      have Hres := Aside0.mk hres
      clear hvv hres
      generalize valP l1 l2 = vv at *
      go_upto_region 8 with (fail)
      refine wp_region_held_drew (S := fun w' => w'.cell? ⟨w.heap.size, 0, none⟩ = some (.int .i64 a3_0) ∧ w'.cell? ⟨w.heap.size, 1, none⟩ = some (.slice A3_1 l3_1.length c3_1)) (by kernel_rfl) (Hkeep.out w2.drew (below_drew0 w2)) ?_
      intro hS0
      refine wpAnyH_take (i := 0) (v := ?_) rfl (by kernel_rfl) (by kernel_rfl) (by kernel_rfl) (fun _ _ _ h => h) (Or.inl ⟨by rfl, ?_⟩) (by assumption) ?_
      rotate_left
      ·(intro w_ hSw_; (try dsimp only at hSw_); go_simp; try with_reducible rfl)
      try simp only [Act.put, List.getElem_toArray, List.getElem_cons_zero, List.getElem_cons_succ, List.setIfInBounds_toArray, List.set_cons_zero, List.set_cons_succ]
      refine wpAnyH_take (i := 1) (v := ?_) rfl (by kernel_rfl) (by kernel_rfl) (by kernel_rfl) (fun _ _ _ h => h) (Or.inl ⟨by rfl, ?_⟩) (by assumption) ?_
      rotate_left
      ·(intro w_ hSw_; (try dsimp only at hSw_); go_simp; try with_reducible rfl)
      try simp only [Act.put, List.getElem_toArray, List.getElem_cons_zero, List.getElem_cons_succ, List.setIfInBounds_toArray, List.set_cons_zero, List.set_cons_succ]
      refine wpAnyH_take (i := 2) (v := ?_) rfl (by kernel_rfl) (by kernel_rfl) (by kernel_rfl) (fun _ _ _ h => h) (Or.inl ⟨by rfl, ?_⟩) (by assumption) ?_
      rotate_left
      ·(intro w_ hSw_; (try dsimp only at hSw_); go_simp; try with_reducible rfl)
      try simp only [Act.put, List.getElem_toArray, List.getElem_cons_zero, List.getElem_cons_succ, List.setIfInBounds_toArray, List.set_cons_zero, List.set_cons_succ]
      refine wpAnyH_take (i := 3) (v := ?_) rfl (by kernel_rfl) (by kernel_rfl) (by kernel_rfl) (fun _ _ _ h => h) (Or.inl ⟨by rfl, ?_⟩) (by assumption) ?_
      rotate_left
      ·(intro w_ hSw_; (try dsimp only at hSw_); go_simp; try with_reducible rfl)
      try simp only [Act.put, List.getElem_toArray, List.getElem_cons_zero, List.getElem_cons_succ, List.setIfInBounds_toArray, List.set_cons_zero, List.set_cons_succ]
      refine wpAnyH_take (i := 4) (v := ?_) rfl (by kernel_rfl) (by kernel_rfl) (by kernel_rfl) (fun _ _ _ h => h) (Or.inl ⟨by rfl, ?_⟩) (by assumption) ?_
      rotate_left
      ·(intro w_ hSw_; (try dsimp only at hSw_); go_simp; try with_reducible rfl)
      try simp only [Act.put, List.getElem_toArray, List.getElem_cons_zero, List.getElem_cons_succ, List.setIfInBounds_toArray, List.set_cons_zero, List.set_cons_succ]
      refine wpAnyH_take (i := 5) (v := ?_) rfl (by kernel_rfl) (by kernel_rfl) (by kernel_rfl) (fun _ _ _ h => h) (Or.inl ⟨by rfl, ?_⟩) (by assumption) ?_
      rotate_left
      ·(intro w_ hSw_; (try dsimp only at hSw_); go_simp; try with_reducible rfl)
      try simp only [Act.put, List.getElem_toArray, List.getElem_cons_zero, List.getElem_cons_succ, List.setIfInBounds_toArray, List.set_cons_zero, List.set_cons_succ]
      refine wpAnyH_take (i := 6) (v := ?_) rfl (by kernel_rfl) (by kernel_rfl) (by kernel_rfl) (fun _ _ _ h => h) (Or.inl ⟨by rfl, ?_⟩) (by assumption) ?_
      rotate_left
      ·(intro w_ hSw_; (try dsimp only at hSw_); go_simp; try with_reducible rfl)
      try simp only [Act.put, List.getElem_toArray, List.getElem_cons_zero, List.getElem_cons_succ, List.setIfInBounds_toArray, List.set_cons_zero, List.set_cons_succ]
      refine wpAnyH_take (i := 7) (v := ?_) rfl (by kernel_rfl) (by kernel_rfl) (by kernel_rfl) (fun _ _ _ h => h) (Or.inl ⟨by rfl, ?_⟩) (by assumption) ?_
      rotate_left
      ·(intro w_ hSw_; (try dsimp only at hSw_); go_simp; try with_reducible rfl)
      try simp only [Act.put, List.getElem_toArray, List.getElem_cons_zero, List.getElem_cons_succ, List.setIfInBounds_toArray, List.set_cons_zero, List.set_cons_succ]
      refine wpAnyH_take (i := 8) (v := ?_) rfl (by kernel_rfl) (by kernel_rfl) (by kernel_rfl) (fun _ _ _ h => h) (Or.inl ⟨by rfl, ?_⟩) (by assumption) ?_
      rotate_left
      ·(intro w_ hSw_; (try dsimp only at hSw_); go_simp; try with_reducible rfl)
      try simp only [Act.put, List.getElem_toArray, List.getElem_cons_zero, List.getElem_cons_succ, List.setIfInBounds_toArray, List.set_cons_zero, List.set_cons_succ]
      refine wpAnyH_ready (rs := [9]) (by kernel_rfl) (by simp) ?_
      refine AllReadyH.cons rfl (fun K hK => ?_) AllReadyH.nil
      go_simp
      refine Hva.out.mono ?_
      rintro e w3 ⟨rfl, hd_⟩
      have hb3 := hd_.below
      refine hK.out _ _ (Hkeep.out w3 ⟨hb3.os, hb3.tape, hb3.output, hb3.size, hb3.block⟩) (fun hSn_ => ?_)
      clear hK K
      try simp only [Act.put, List.getElem_toArray, List.getElem_cons_zero, List.getElem_cons_succ, List.setIfInBounds_toArray, List.set_cons_zero, List.set_cons_succ]
      refine wpAnyH_take (i := 10) (v := ?_) rfl (by kernel_rfl) (by kernel_rfl) (by kernel_rfl) (fun _ _ _ h => h) (Or.inl ⟨by rfl, ?_⟩) (by assumption) ?_
      rotate_left
      ·(intro w_ hSw_; (try dsimp only at hSw_); go_simp; try with_reducible rfl)
      try simp only [Act.put, List.getElem_toArray, List.getElem_cons_zero, List.getElem_cons_succ, List.setIfInBounds_toArray, List.set_cons_zero, List.set_cons_succ]
      refine wpAnyH_take (i := 11) (v := ?_) rfl (by kernel_rfl) (by kernel_rfl) (by kernel_rfl) (fun _ _ _ h => h) (Or.inl ⟨by rfl, ?_⟩) (by assumption) ?_
      rotate_left
      ·(intro w_ hSw_; (try dsimp only at hSw_); go_simp; try with_reducible rfl)
      try simp only [Act.put, List.getElem_toArray, List.getElem_cons_zero, List.getElem_cons_succ, List.setIfInBounds_toArray, List.set_cons_zero, List.set_cons_succ]
      refine wpAnyH_take (i := 12) (v := ?_) rfl (by kernel_rfl) (by kernel_rfl) (by kernel_rfl) (fun _ _ _ h => h) (Or.inl ⟨by rfl, ?_⟩) (by assumption) ?_
      rotate_left
      ·(intro w_ hSw_; (try dsimp only at hSw_); go_simp; try with_reducible rfl)
      try simp only [Act.put, List.getElem_toArray, List.getElem_cons_zero, List.getElem_cons_succ, List.setIfInBounds_toArray, List.set_cons_zero, List.set_cons_succ]
      refine wpAnyH_done (by kernel_rfl) ?_ _
      have hb3' : Below w2.heap.size w2 w3 := ⟨hb3.os, hb3.tape, hb3.output, hb3.size, hb3.block⟩
      have hW3 : Below w.heap.size w w3 := HW2.out.trans (hb3'.mono HW2.out.size)
      have hP3 := (hb3'.block _ (Array.getElem?_eq_some_iff.1 HP2.out).1).trans HP2.out
      clear hb3 hb3' hd_ hSn_ hS0 Hva Hkeep HW2 HP2 hcp0 hcp1
      have hcp0 : w3.cell? ⟨w.heap.size, 0, none⟩ = some (.int .i64 a3_0) := (blk_cell hP3 0).trans rfl
      have hcp1 : w3.cell? ⟨w.heap.size, 1, none⟩ = some (.slice A3_1 l3_1.length c3_1) := (blk_cell hP3 1).trans rfl
      have hal : ∀ (w : World) (o : Obj) (p : Addr) (v : Value), w.cell? p = some v → (w.alloc o).cell? p = some v := fun w o p v hp => (((Below.refl _ w).alloc (Nat.le_refl _) o).cell (p := p) (World.block_lt_of_cell? w _ hp)).trans hp
      have k0 := fun o => hal w3 o _ _ hcp0
      have k1 := fun o => hal w3 o _ _ hcp1
      have hmk := print_make_of (P := Try.prog) 91 4 (.bool false) 1 Try.underlying91 infoBo rfl (by decide) l3_1.length (by have := Hbig.out; omega)
      have HW3 := Aside0.mk hW3
      clear hal hP3 hW3
      go_upto_region 10 with (fail)
      go_region
      obtain ⟨W5, hW5⟩ : ∃ W5, W5 = ((w3.alloc (.cells (madeCells #[.bool false] l3_1.length) 4)).alloc (.cells #[.int .i64 a0, .slice A1 l1.length c1, .int .i64 a3_0, .slice A3_1 l3_1.length c3_1, .slice (some ⟨w3.heap.size, 0, none⟩) l3_1.length l3_1.length] 93)).drew := ⟨_, rfl⟩
      rw [← hW5]
      obtain ⟨s, hs⟩ : ∃ s : PCx, s = ⟨w, w3.heap.size + 1, w3.heap.size, a0, A1, c1, l1, a3_0, A3_1, c3_1, l3_1⟩ := ⟨_, rfl⟩
      have hb5 : Below w3.heap.size w3 W5 := by
       rw [hW5]
       exact below_drew (((Below.refl _ w3).alloc (Nat.le_refl _) _).alloc (by simp) _)
      have hSt : NSt s W5 (List.replicate l3_1.length false) := by
       rw [hs]
       refine ⟨HW3.out.trans (hb5.mono HW3.out.size), ?_, ?_⟩
       ·show W5.heap[w3.heap.size + 1]? = _
        have h_ := heap_alloc_new (w3.alloc (.cells (madeCells #[.bool false] l3_1.length) 4)) (.cells #[.int .i64 a0, .slice A1 l1.length c1, .int .i64 a3_0, .slice A3_1 l3_1.length c3_1, .slice (some ⟨w3.heap.size, 0, none⟩) l3_1.length l3_1.length] 93)
        rw [World.size_alloc] at h_
        rw [hW5]
        exact h_
       ·show W5.heap[w3.heap.size]? = _
        rw [← made_boolsC, hW5]
        exact (Below.heap_alloc _ _ _ (by simp)).trans (heap_alloc_new w3 _)
      have hok : POk s := by
       rw [hs]
       exact ⟨Hr1.out, Hr3.out, hl10, ⟨hn1, hn2⟩, Hbb.out, by have := Hbig.out; show l3_1.length ≤ 2047; omega, Nat.le_succ_of_le HW3.out.size, HW3.out.size, Nat.succ_ne_self _⟩
      have hmk2 := print_make (P := Try.prog) 22 3 .i64 8 Try.underlying22 infoW (by decide) l1.length (by omega)
      rw [made_zerosW] at hmk2
      obtain ⟨W6, hW6⟩ : ∃ W6, W6 = W5.alloc (.cells (List.replicate l1.length (Value.int .i64 0)).toArray 3) := ⟨_, rfl⟩
      have hmk3 := hmk2 W5
      rw [← hW6] at hmk3
      have hb6 : Below W5.heap.size W5 W6 := by rw [hW6]; exact (Below.refl _ W5).alloc (Nat.le_refl _) _
      have hD6 : W6.heap[W5.heap.size]? = some (.cells ((List.replicate l1.length (0 : Int)).map (Value.int .i64)).toArray 3 (0, 0)) := by
       rw [hW6, List.map_replicate]
       exact heap_alloc_new W5 _
      have hsb5 := (Array.getElem?_eq_some_iff.1 hSt.hS).1
      have hn := node_calls s hok l3_1.length 0 (List.replicate l1.length 0) W5.heap.size (List.replicate l3_1.length false) W6 (by have := Hz0.out; rw [hs]; show 0 < l3_1.length; omega) (by rw [hs]; show l3_1.length ≤ 0 + l3_1.length; omega) (by rw [hs, List.length_replicate]) (by rw [hs, List.length_replicate]) (hSt.step hb6) hD6 (by omega)
      rw [List.length_replicate, show ((0 : Nat) : Int) = 0 from rfl] at hn
      have hroot : nodeP s.n s.l s.v s.nodes l3_1.length 0 (List.replicate l1.length 0) (List.replicate l3_1.length false) = rootP a0 l1 a3_0 l3_1 := by rw [hs]; rfl
      rw [hroot] at hn
      have hrl : (rootP a0 l1 a3_0 l3_1).2.length = l3_1.length := by unfold rootP; rw [nodeP_len, List.length_replicate]
      have hcb : s.cb = w3.heap.size + 1 := by rw [hs]
      have hsbs : s.sb = w3.heap.size := by rw [hs]
      have hsn : s.nodes.length = l3_1.length := by rw [hs]
      have hsw : s.w0 = w := by rw [hs]
      rw [hcb] at hn
      have Hn := Aside0.mk hn
      have Hrl := Aside0.mk hrl
      have Hcb := Aside0.mk hcb
      have Hsbs := Aside0.mk hsbs
      have Hsn := Aside0.mk hsn
      have Hsw := Aside0.mk hsw
      clear hW5 hs hb5 hSt hok hmk hmk2 hW6 hb6 hD6 hsb5 hn hroot hrl hcb hsbs hsn hsw k0 k1 hcp0 hcp1 HW3 hd1 hd2 hd3 hd4
      generalize rootP a0 l1 a3_0 l3_1 = rt at *
      go_wp2_with fail
      refine Hn.out.mono ?_
      rintro e w7 ⟨rfl, hS7, hT7⟩
      have hW7 : Below w.heap.size w w7 := by have := hS7.below; rwa [Hsw.out] at this
      cases hr1 : rt.1
      ·have hfin : checkP a0 l1 l2 a3_0 l3_1 = 20 := by rw [Hres.out, hr1, if_neg (by simp)]
       have Hfin := Aside0.mk hfin
       clear hfin hS7 hT7 hr1 Hn
       go_wp2
       go_ret
       exact ⟨by rw [Hfin.out]; rfl, hW7⟩
      ·have hc4 : w7.cell? ⟨w3.heap.size + 1, 4, none⟩ = some (.slice (some ⟨w3.heap.size, 0, none⟩) l3_1.length l3_1.length) := by
        have h := hS7.hC
        rw [Hcb.out, Hsbs.out, Hsn.out] at h
        exact (blk_cell h 4).trans rfl
       have hcn := containsB_calls w3.heap.size rt.2 l3_1.length w7 (by have h := hS7.hS; rwa [Hsbs.out] at h) (by rw [Hrl.out]; have := Hbig.out; omega)
       rw [Hrl.out] at hcn
       have Hcn := Aside0.mk hcn
       have Hr1' := Aside0.mk hr1
       clear hS7 hT7 hcn hr1 Hn
       cases hall : rt.2.all id
       ·rw [hall] at Hcn
        have hfin : checkP a0 l1 l2 a3_0 l3_1 = 20 := by rw [Hres.out, hall, if_neg (by simp)]
        have Hfin := Aside0.mk hfin
        clear hfin hall
        go_wp2_with fail
        refine Hcn.out.mono ?_
        rintro e w8 ⟨rfl, hb8⟩
        have hW8 := hW7.trans (hb8.mono hW7.size)
        clear hb8 Hcn
        go_wp2
        go_ret
        exact ⟨by rw [Hfin.out]; rfl, hW8⟩
       ·rw [hall] at Hcn
        have hfin : checkP a0 l1 l2 a3_0 l3_1 = 0 := by rw [Hres.out, hall, Hr1'.out, if_pos ⟨rfl, rfl⟩]
        have Hfin := Aside0.mk hfin
        clear hfin hall
        go_wp2_with fail
        refine Hcn.out.mono ?_
        rintro e w8 ⟨rfl, hb8⟩
        have hW8 := hW7.trans (hb8.mono hW7.size)
        clear hb8 Hcn
        go_wp2
        go_ret
        exact ⟨by rw [Hfin.out]; rfl, hW8⟩
     ·have hres : checkP a0 l1 l2 a3_0 l3_1 = 20 := by unfold checkP; rw [if_neg (by rw [Hz.out]; simp), if_neg (by rw [Hfe.out]; simp), if_neg Hbig.out, if_pos (.inr hvv)]
      have Hres := Aside0.mk hres
      have hd4 : (a3_0 != valP l1 l2) = true := by simpa using hvv
      clear hres hvv
      generalize valP l1 l2 = vv at *
      go_upto_region 8 with (fail)
      refine wp_region_held_drew (S := fun w' => w'.cell? ⟨w.heap.size, 0, none⟩ = some (.int .i64 a3_0) ∧ w'.cell? ⟨w.heap.size, 1, none⟩ = some (.slice A3_1 l3_1.length c3_1)) (by kernel_rfl) (Hkeep.out w2.drew (below_drew0 w2)) ?_
      intro hS0
      refine wpAnyH_take (i := 0) (v := ?_) rfl (by kernel_rfl) (by kernel_rfl) (by kernel_rfl) (fun _ _ _ h => h) (Or.inl ⟨by rfl, ?_⟩) (by assumption) ?_
      rotate_left
      ·(intro w_ hSw_; (try dsimp only at hSw_); go_simp; try with_reducible rfl)
      try simp only [Act.put, List.getElem_toArray, List.getElem_cons_zero, List.getElem_cons_succ, List.setIfInBounds_toArray, List.set_cons_zero, List.set_cons_succ]
      refine wpAnyH_take (i := 1) (v := ?_) rfl (by kernel_rfl) (by kernel_rfl) (by kernel_rfl) (fun _ _ _ h => h) (Or.inl ⟨by rfl, ?_⟩) (by assumption) ?_
      rotate_left
      ·(intro w_ hSw_; (try dsimp only at hSw_); go_simp; try with_reducible rfl)
      try simp only [Act.put, List.getElem_toArray, List.getElem_cons_zero, List.getElem_cons_succ, List.setIfInBounds_toArray, List.set_cons_zero, List.set_cons_succ]
      refine wpAnyH_take (i := 2) (v := ?_) rfl (by kernel_rfl) (by kernel_rfl) (by kernel_rfl) (fun _ _ _ h => h) (Or.inl ⟨by rfl, ?_⟩) (by assumption) ?_
      rotate_left
      ·(intro w_ hSw_; (try dsimp only at hSw_); go_simp; try with_reducible rfl)
      try simp only [Act.put, List.getElem_toArray, List.getElem_cons_zero, List.getElem_cons_succ, List.setIfInBounds_toArray, List.set_cons_zero, List.set_cons_succ]
      refine wpAnyH_take (i := 3) (v := ?_) rfl (by kernel_rfl) (by kernel_rfl) (by kernel_rfl) (fun _ _ _ h => h) (Or.inl ⟨by rfl, ?_⟩) (by assumption) ?_
      rotate_left
      ·(intro w_ hSw_; (try dsimp only at hSw_); go_simp; try with_reducible rfl)
      try simp only [Act.put, List.getElem_toArray, List.getElem_cons_zero, List.getElem_cons_succ, List.setIfInBounds_toArray, List.set_cons_zero, List.set_cons_succ]
      refine wpAnyH_take (i := 4) (v := ?_) rfl (by kernel_rfl) (by kernel_rfl) (by kernel_rfl) (fun _ _ _ h => h) (Or.inl ⟨by rfl, ?_⟩) (by assumption) ?_
      rotate_left
      ·(intro w_ hSw_; (try dsimp only at hSw_); go_simp; try with_reducible rfl)
      try simp only [Act.put, List.getElem_toArray, List.getElem_cons_zero, List.getElem_cons_succ, List.setIfInBounds_toArray, List.set_cons_zero, List.set_cons_succ]
      refine wpAnyH_take (i := 5) (v := ?_) rfl (by kernel_rfl) (by kernel_rfl) (by kernel_rfl) (fun _ _ _ h => h) (Or.inl ⟨by rfl, ?_⟩) (by assumption) ?_
      rotate_left
      ·(intro w_ hSw_; (try dsimp only at hSw_); go_simp; try with_reducible rfl)
      try simp only [Act.put, List.getElem_toArray, List.getElem_cons_zero, List.getElem_cons_succ, List.setIfInBounds_toArray, List.set_cons_zero, List.set_cons_succ]
      refine wpAnyH_take (i := 6) (v := ?_) rfl (by kernel_rfl) (by kernel_rfl) (by kernel_rfl) (fun _ _ _ h => h) (Or.inl ⟨by rfl, ?_⟩) (by assumption) ?_
      rotate_left
      ·(intro w_ hSw_; (try dsimp only at hSw_); go_simp; try with_reducible rfl)
      try simp only [Act.put, List.getElem_toArray, List.getElem_cons_zero, List.getElem_cons_succ, List.setIfInBounds_toArray, List.set_cons_zero, List.set_cons_succ]
      refine wpAnyH_take (i := 7) (v := ?_) rfl (by kernel_rfl) (by kernel_rfl) (by kernel_rfl) (fun _ _ _ h => h) (Or.inl ⟨by rfl, ?_⟩) (by assumption) ?_
      rotate_left
      ·(intro w_ hSw_; (try dsimp only at hSw_); go_simp; try with_reducible rfl)
      try simp only [Act.put, List.getElem_toArray, List.getElem_cons_zero, List.getElem_cons_succ, List.setIfInBounds_toArray, List.set_cons_zero, List.set_cons_succ]
      refine wpAnyH_take (i := 8) (v := ?_) rfl (by kernel_rfl) (by kernel_rfl) (by kernel_rfl) (fun _ _ _ h => h) (Or.inl ⟨by rfl, ?_⟩) (by assumption) ?_
      rotate_left
      ·(intro w_ hSw_; (try dsimp only at hSw_); go_simp; try with_reducible rfl)
      try simp only [Act.put, List.getElem_toArray, List.getElem_cons_zero, List.getElem_cons_succ, List.setIfInBounds_toArray, List.set_cons_zero, List.set_cons_succ]
      refine wpAnyH_ready (rs := [9]) (by kernel_rfl) (by simp) ?_
      refine AllReadyH.cons rfl (fun K hK => ?_) AllReadyH.nil
      go_simp
      refine Hva.out.mono ?_
      rintro e w3 ⟨rfl, hd_⟩
      have hb3 := hd_.below
      refine hK.out _ _ (Hkeep.out w3 ⟨hb3.os, hb3.tape, hb3.output, hb3.size, hb3.block⟩) (fun hSn_ => ?_)
      clear hK K
      try simp only [Act.put, List.getElem_toArray, List.getElem_cons_zero, List.getElem_cons_succ, List.setIfInBounds_toArray, List.set_cons_zero, List.set_cons_succ]
      refine wpAnyH_take (i := 10) (v := ?_) rfl (by kernel_rfl) (by kernel_rfl) (by kernel_rfl) (fun _ _ _ h => h) (Or.inl ⟨by rfl, ?_⟩) (by assumption) ?_
      rotate_left
      ·(intro w_ hSw_; (try dsimp only at hSw_); go_simp; try with_reducible rfl)
      try simp only [Act.put, List.getElem_toArray, List.getElem_cons_zero, List.getElem_cons_succ, List.setIfInBounds_toArray, List.set_cons_zero, List.set_cons_succ]
      refine wpAnyH_take (i := 11) (v := ?_) rfl (by kernel_rfl) (by kernel_rfl) (by kernel_rfl) (fun _ _ _ h => h) (Or.inl ⟨by rfl, ?_⟩) (by assumption) ?_
      rotate_left
      ·(intro w_ hSw_; (try dsimp only at hSw_); go_simp; try with_reducible rfl)
      try simp only [Act.put, List.getElem_toArray, List.getElem_cons_zero, List.getElem_cons_succ, List.setIfInBounds_toArray, List.set_cons_zero, List.set_cons_succ]
      refine wpAnyH_take (i := 12) (v := ?_) rfl (by kernel_rfl) (by kernel_rfl) (by kernel_rfl) (fun _ _ _ h => h) (Or.inl ⟨by rfl, ?_⟩) (by assumption) ?_
      rotate_left
      ·(intro w_ hSw_; (try dsimp only at hSw_); go_simp; try with_reducible rfl)
      try simp only [Act.put, List.getElem_toArray, List.getElem_cons_zero, List.getElem_cons_succ, List.setIfInBounds_toArray, List.set_cons_zero, List.set_cons_succ]
      refine wpAnyH_done (by kernel_rfl) ?_ _
      have hW3 : Below w.heap.size w w3 := HW2.out.trans (Below.mono (w := w2) ⟨hb3.os, hb3.tape, hb3.output, hb3.size, hb3.block⟩ HW2.out.size)
      go_wp2
      go_ret
      exact ⟨by rw [Hres.out]; rfl, hW3⟩
 ·have hres : checkP a0 l1 l2 a3_0 l3_1 = validP a0 l1 := by unfold checkP; rw [if_pos hz]
  rw [hres]
  generalize validP a0 l1 = z at *
  have hz' : (z != 0) = true := by simpa using hz
  clear hz hres
  go_enter Try.func18, Try.ntmps18
  go_upto_region 1 with (fail)
  rw [← hwA]
  clear hwA
  go_wp2_with fail
  refine Hv.out.mono ?_
  rintro e w1 ⟨rfl, hb1⟩
  have hW1 := HbA.out.trans (hb1.mono HbA.out.size)
  clear hb1 Hv
  go_wp2
  go_ret
  exact ⟨rfl, hW1⟩
end Go.Proofs.Ytdamibblnjeooaa.H

/- The reference's feasible choices. -/
namespace Go.Proofs.Ytdamibblnjeooaa.H
open Go.RowKit Go.Proofs.YtdamibblnjeooaaW.PrintWords Go.Proofs.YtdamibblnjeooaaW.PrintLast
set_option linter.unusedVariables false
set_option linter.unusedSimpArgs false
/-- Places that rise. -/
def Rising (n : Nat) (c : List Int) : Prop := (∀ k ∈ c, 0 ≤ k ∧ k < n) ∧ c.Pairwise (· < ·)
theorem choice_rising : ∀ (n bits i : Nat), (choiceP n bits i).Pairwise (· < ·)
 | 0, _, _ => by simp [choiceP]
 | n + 1, bits, i => by
  unfold choiceP
  split
  ·refine List.pairwise_cons.2 ⟨fun k hk => ?_, choice_rising n (bits / 2) (i + 1)⟩
   have := choice_ge n (bits / 2) (i + 1) k hk
   omega
  ·exact choice_rising n (bits / 2) (i + 1)
theorem choice_rise (n bits : Nat) : Rising n (choiceP n bits 0) :=
 ⟨fun k hk => by have := choice_ge n bits 0 k hk; omega, choice_rising n bits 0⟩
theorem choice_len : ∀ (n bits i : Nat), (choiceP n bits i).length ≤ n
 | 0, _, _ => by simp [choiceP]
 | n + 1, bits, i => by
  have := choice_len n (bits / 2) (i + 1)
  unfold choiceP
  split
  ·simp; omega
  ·omega
set_option maxHeartbeats 1000000 in
theorem rfeas_l2 (l : List S85) (hb : ∀ b ∈ l, b.f2.length ≤ 9223372036854775807) (c : List Int) (hc : ∀ k ∈ c, 0 ≤ k ∧ k < l.length) (hl : c.length ≤ 1000) (q : Nat) (x : Int) (hq : c[q]? = some x) (r : Bool)
  (hr : Ev (fun k => worldmintref27_Feasible.l1 k l c ((q + 1 : Nat) : Int)) r) : ∀ (d : List Int) (p : Nat), (c.take q).drop p = d → p ≤ q →
  Ev (fun k => worldmintref27_Feasible.l2 k l c (q : Int) (p : Int)) (!(d.any fun w => cf (l.map cv) w x) && r) := by
 have hqc : q < c.length := (List.getElem?_eq_some_iff.1 hq).1
 intro d
 induction d with
 | nil =>
  intro p hd hp
  have hpq : p = q := by
   have := congrArg List.length hd
   simp at this
   omega
  have hw : wrap64 ((q : Int) + 1) = ((q + 1 : Nat) : Int) := by rw [w64 _ (by omega) (by omega)]; omega
  refine Ev.succ ?_
  simp only [worldmintref27_Feasible.l2, if_neg (show ¬ (p : Int) < (q : Int) by omega), hw]
  simpa using hr
 | cons y d ih =>
  intro p hd hp
  obtain ⟨hx, hd', hlt⟩ := drop_cons (c.take q) p y d hd
  have hpq : p < q := by simp at hlt; omega
  have hy : c[p]? = some y := by rw [List.getElem?_take_of_lt hpq] at hx; exact hx
  obtain ⟨hy0, hy1⟩ := hc y (List.mem_of_getElem? hy)
  obtain ⟨hx0, hx1⟩ := hc x (List.mem_of_getElem? hq)
  have hw : wrap64 ((p : Int) + 1) = ((p + 1 : Nat) : Int) := by rw [w64 _ (by omega) (by omega)]; omega
  have hmx : rd_T85 l x ∈ l := by
   have : x.toNat < l.length := by omega
   simp [rd_T85, List.getD, this]
  have hmy : rd_T85 l y ∈ l := by
   have : y.toNat < l.length := by omega
   simp [rd_T85, List.getD, this]
  refine Ev.succ ?_
  simp only [worldmintref27_Feasible.l2, if_pos (show (p : Int) < (q : Int) by omega), if_pos (show (0 : Int) ≤ (q : Int) by omega), if_pos (show (q : Int) < (c.length : Int) by omega), rd_at c q x hq, if_pos hx0, if_pos hx1,
   if_pos (show (0 : Int) ≤ (p : Int) by omega), if_pos (show (p : Int) < (c.length : Int) by omega), rd_at c p y hy, if_pos hy0, if_pos hy1, hw]
  refine Ev.bind (rconf_ok _ _ _ _ _ _ (hb _ hmx) (hb _ hmy)) ?_
  have e : conf ⟨(rd_T85 l y).f0, (rd_T85 l y).f1, (rd_T85 l y).f2⟩ ⟨(rd_T85 l x).f0, (rd_T85 l x).f1, (rd_T85 l x).f2⟩ = cf (l.map cv) y x := by
   unfold cf
   rw [← rdR_cv, ← rdR_cv]
   rfl
  rw [e]
  simp only [List.any_cons]
  cases cf (l.map cv) y x
  ·have := ih (p + 1) hd' (by omega)
   simpa using this
  ·simpa using Ev.some_
theorem rfeas_l1 (l : List S85) (hb : ∀ b ∈ l, b.f2.length ≤ 9223372036854775807) (c : List Int) (hc : ∀ k ∈ c, 0 ≤ k ∧ k < l.length) (hl : c.length ≤ 1000) : ∀ (d : List Int) (q : Nat), c.drop q = d → q ≤ c.length →
  Ev (fun k => worldmintref27_Feasible.l1 k l c (q : Int)) (okS (fun _ => true) (l.map cv) (c.take q) d) := by
 intro d
 induction d with
 | nil =>
  intro q hd hq
  have := drop_nil c q hq hd
  refine Ev.succ ?_
  simp only [worldmintref27_Feasible.l1, if_neg (show ¬ (q : Int) < (c.length : Int) by omega), okS]
  exact Ev.some_
 | cons x d ih =>
  intro q hd hq
  obtain ⟨hx, hd', hlt⟩ := drop_cons c q x d hd
  have h1 := ih (q + 1) hd' (by omega)
  have hg : c[q] = x := by
   have := List.getElem?_eq_getElem hlt
   rw [hx] at this
   injection this with this
   exact this.symm
  rw [List.take_succ_eq_append_getElem hlt, hg] at h1
  have h2 := rfeas_l2 l hb c hc hl q x hx _ h1 (c.take q) 0 rfl (Nat.zero_le _)
  refine Ev.succ ?_
  simp only [worldmintref27_Feasible.l1, if_pos (show (q : Int) < (c.length : Int) by omega), okS, Bool.true_and]
  exact h2
theorem rfeas_ok (l : List S85) (hb : ∀ b ∈ l, b.f2.length ≤ 9223372036854775807) (c : List Int) (hc : Rising l.length c) (hl : c.length ≤ 1000) : Ev (fun k => worldmintref27_Feasible.f k l c) (okS (fun _ => true) (l.map cv) [] c) := by
 have h1 := rfeas_l1 l hb c hc.1 hl c 0 rfl (Nat.zero_le _)
 have : ∀ (d : List Int) (p : Nat), c.drop p = d → p ≤ c.length → Ev (fun k => worldmintref27_Feasible.l0 k l c (p : Int)) (okS (fun _ => true) (l.map cv) [] c) := by
  intro d
  induction d with
  | nil =>
   intro p hd hp
   have := drop_nil c p hp hd
   refine Ev.succ ?_
   simp only [worldmintref27_Feasible.l0, if_neg (show ¬ (p : Int) < (c.length : Int) by omega)]
   exact h1
  | cons x d ih =>
   intro p hd hp
   obtain ⟨hx, hd', hlt⟩ := drop_cons c p x d hd
   obtain ⟨hx0, hx1⟩ := hc.1 x (List.mem_of_getElem? hx)
   have hw : wrap64 ((p : Int) + 1) = ((p + 1 : Nat) : Int) := by rw [w64 _ (by omega) (by omega)]; omega
   have h2 := ih (p + 1) hd' (by omega)
   refine Ev.succ ?_
   simp only [worldmintref27_Feasible.l0, if_pos (show (p : Int) < (c.length : Int) by omega), if_pos (show (0 : Int) ≤ (p : Int) by omega), rd_at c p x hx, if_neg (show ¬ x < 0 by omega), if_neg (show ¬ x ≥ (l.length : Int) by omega), hw]
   cases p with
   | zero =>
    simp only [if_neg (show ¬ ((0 : Nat) : Int) > 0 by omega)]
    exact h2
   | succ q =>
    have hw2 : wrap64 (((q + 1 : Nat) : Int) - 1) = (q : Int) := by rw [w64 _ (by omega) (by omega)]; omega
    have hqx : c[q]? = some c[q] := List.getElem?_eq_getElem (by omega)
    have hlt2 : c[q] < x := by
     have h3 := List.pairwise_iff_getElem.1 hc.2 q (q + 1) (by omega) hlt (by omega)
     have h4 := List.getElem?_eq_getElem hlt
     rw [hx] at h4
     injection h4 with h4
     rw [h4]
     exact h3
    simp only [if_pos (show ((q + 1 : Nat) : Int) > 0 by omega), hw2, if_pos (show (0 : Int) ≤ (q : Int) by omega), if_pos (show (q : Int) < (c.length : Int) by omega), rd_at c q _ hqx, if_neg (show ¬ x ≤ c[q] by omega)]
    exact h2
 exact this c 0 rfl (Nat.zero_le _)
theorem okS_split (U : S82 → Bool) (l : List S82) : ∀ (s win : List Int), okS U l win s = (okS (fun _ => true) l win s && s.all fun k => U (l.getD k.toNat z82))
 | [], _ => rfl
 | k :: s, win => by
  simp only [okS, okS_split U l s, List.all_cons, Bool.true_and]
  cases U (l.getD k.toNat z82) <;> cases (win.any fun w => cf l w k) <;> cases okS (fun _ => true) l (win ++ [k]) s <;> simp
theorem feas_ok (l : List S82) : ∀ (s pre : List Int), (∀ k ∈ s, 0 ≤ k ∧ k < l.length) → s.Pairwise (· < ·) → (∀ p, pre.getLast? = some p → ∀ k ∈ s, p < k) → feasP l pre s = okS (fun _ => true) l pre s
 | [], _, _, _, _ => rfl
 | w :: s, pre, h0, hs, hp => by
  obtain ⟨h1, h2⟩ := List.pairwise_cons.1 hs
  obtain ⟨hw0, hw1⟩ := h0 w (by simp)
  have ih := feas_ok l s (pre ++ [w]) (fun k hk => h0 k (by simp [hk])) h2 (fun p e k hk => by
   rw [List.getLast?_append] at e
   simp at e
   subst e
   exact h1 k hk)
  have key : feasP l pre (w :: s) = (if (pre.any fun v => cf l v w) = true then false else feasP l (pre ++ [w]) s) := by
   simp only [feasP]
   cases hl : pre.getLast? with
   | none => rw [if_neg (by simp; omega)]; rfl
   | some p =>
    have := hp p hl w (by simp)
    rw [if_neg (by simp; omega)]
    rfl
  rw [key, ih]
  simp only [okS, Bool.true_and]
  cases pre.any fun v => cf l v w <;> simp
end Go.Proofs.Ytdamibblnjeooaa.H

/- Choices as sets of places: the best one, told without lists. Plain. -/
namespace Go.Proofs.Ytdamibblnjeooaa.H
open Go.RowKit
set_option linter.unusedVariables false
set_option linter.unusedSimpArgs false
/-- The places from i on, n of them, at which p holds. -/
def sel (p : Nat → Bool) : Nat → Nat → List Int
 | 0, _ => []
 | n + 1, i => if p i then (i : Int) :: sel p n (i + 1) else sel p n (i + 1)
def sumF (f : Nat → Int) : Nat → Nat → Int
 | 0, _ => 0
 | n + 1, i => f i + sumF f n (i + 1)
theorem mem_sel (p : Nat → Bool) (x : Int) : ∀ n i, x ∈ sel p n i ↔ ∃ k, i ≤ k ∧ k < i + n ∧ p k = true ∧ x = (k : Int)
 | 0, i => by simp [sel]; intro k h1 h2; omega
 | n + 1, i => by
  have ih := mem_sel p x n (i + 1)
  unfold sel
  by_cases h : p i = true
  ·rw [if_pos h, List.mem_cons, ih]
   constructor
   ·rintro (rfl | ⟨k, h1, h2, h3, h4⟩)
    ·exact ⟨i, by omega, by omega, h, rfl⟩
    ·exact ⟨k, by omega, by omega, h3, h4⟩
   ·rintro ⟨k, h1, h2, h3, h4⟩
    by_cases e : k = i
    ·subst e; exact .inl h4
    ·exact .inr ⟨k, by omega, by omega, h3, h4⟩
  ·rw [if_neg h, ih]
   constructor
   ·rintro ⟨k, h1, h2, h3, h4⟩
    exact ⟨k, by omega, by omega, h3, h4⟩
   ·rintro ⟨k, h1, h2, h3, h4⟩
    by_cases e : k = i
    ·subst e; exact absurd h3 h
    ·exact ⟨k, by omega, by omega, h3, h4⟩
theorem mem_sel0 (p : Nat → Bool) (n : Nat) (x : Int) : x ∈ sel p n 0 ↔ ∃ k, k < n ∧ p k = true ∧ x = (k : Int) := by
 rw [mem_sel]
 constructor
 ·rintro ⟨k, h1, h2, h3, h4⟩; exact ⟨k, by omega, h3, h4⟩
 ·rintro ⟨k, h2, h3, h4⟩; exact ⟨k, by omega, by omega, h3, h4⟩
theorem rise_sel (p : Nat → Bool) : ∀ n i, (sel p n i).Pairwise (· < ·)
 | 0, _ => List.Pairwise.nil
 | n + 1, i => by
  unfold sel
  split
  ·refine List.pairwise_cons.2 ⟨fun x hx => ?_, rise_sel p n (i + 1)⟩
   obtain ⟨k, h1, h2, h3, rfl⟩ := (mem_sel p x n (i + 1)).1 hx
   omega
  ·exact rise_sel p n (i + 1)
theorem sel_len (p : Nat → Bool) : ∀ n i, (sel p n i).length ≤ n
 | 0, i => by simp [sel]
 | n + 1, i => by
  have := sel_len p n (i + 1)
  unfold sel
  split
  ·simp; omega
  ·omega
theorem rise_ext : ∀ (s t : List Int), s.Pairwise (· < ·) → t.Pairwise (· < ·) → (∀ x, x ∈ s ↔ x ∈ t) → s = t
 | [], [], _, _, _ => rfl
 | [], y :: t, _, _, h => by have := (h y).2 (by simp); simp at this
 | x :: s, [], _, _, h => by have := (h x).1 (by simp); simp at this
 | x :: s, y :: t, hs, ht, h => by
  obtain ⟨s1, s2⟩ := List.pairwise_cons.1 hs
  obtain ⟨t1, t2⟩ := List.pairwise_cons.1 ht
  have e : x = y := by
   rcases List.mem_cons.1 ((h x).1 (by simp)) with e | e
   ·exact e
   ·rcases List.mem_cons.1 ((h y).2 (by simp)) with e2 | e2
    ·exact e2.symm
    ·have := t1 x e; have := s1 y e2; omega
  subst e
  rw [rise_ext s t s2 t2 (fun z => by
   constructor
   ·intro hz
    rcases List.mem_cons.1 ((h z).1 (by simp [hz])) with e | e
    ·subst e; exact absurd (s1 z hz) (Int.lt_irrefl _)
    ·exact e
   ·intro hz
    rcases List.mem_cons.1 ((h z).2 (by simp [hz])) with e | e
    ·subst e; exact absurd (t1 z hz) (Int.lt_irrefl _)
    ·exact e)]
theorem sel_of (n : Nat) (s : List Int) (h0 : ∀ k ∈ s, 0 ≤ k ∧ k < n) (h1 : s.Pairwise (· < ·)) : s = sel (fun k => decide ((k : Int) ∈ s)) n 0 := by
 refine rise_ext _ _ h1 (rise_sel _ _ _) (fun x => ?_)
 rw [mem_sel0]
 constructor
 ·intro hx
  obtain ⟨a, b⟩ := h0 x hx
  obtain ⟨k, rfl⟩ := Int.eq_ofNat_of_zero_le a
  exact ⟨k, by omega, by simpa using hx, rfl⟩
 ·rintro ⟨k, h2, h3, rfl⟩; simpa using h3
theorem choice_sel (p : Nat → Bool) : ∀ n i, ∃ bits, bits < 2 ^ n ∧ choiceP n bits i = sel p n i
 | 0, i => ⟨0, by simp, rfl⟩
 | n + 1, i => by
  obtain ⟨b, h1, h2⟩ := choice_sel p n (i + 1)
  by_cases h : p i = true
  ·refine ⟨2 * b + 1, by rw [Nat.pow_succ]; omega, ?_⟩
   unfold choiceP sel
   rw [if_pos (by omega), if_pos h, show (2 * b + 1) / 2 = b from by omega, h2]
  ·refine ⟨2 * b, by rw [Nat.pow_succ]; omega, ?_⟩
   unfold choiceP sel
   rw [if_neg (by omega), if_neg h, show 2 * b / 2 = b from by omega, h2]
/-- The price of the bid at a place; the value of a set of places. -/
def prc (l : List S82) (k : Nat) : Int := (l.getD k z82).f1
def valB (l : List S82) (p : Nat → Bool) : Int := sumF (fun k => if p k then prc l k else 0) l.length 0
def cj (l : List S82) (a b : Nat) : Bool := conf (l.getD a z82) (l.getD b z82)
theorem conf_comm (a b : S82) : conf a b = conf b a := by
 unfold conf
 have h1 : (a.f0 == b.f0) = (b.f0 == a.f0) := by rw [Bool.eq_iff_iff]; simp; exact ⟨fun h => h.symm, fun h => h.symm⟩
 have h2 : (b.f2.any fun k => a.f2.contains k) = (a.f2.any fun k => b.f2.contains k) := by
  rw [Bool.eq_iff_iff, List.any_eq_true, List.any_eq_true]
  constructor <;> (rintro ⟨x, h1, h2⟩; exact ⟨x, by simpa using h2, by simpa using h1⟩)
 rw [h1, h2]
theorem cj_comm (l : List S82) (a b : Nat) : cj l a b = cj l b a := conf_comm _ _
theorem prc_pos (l : List S82) (hp : ∀ b ∈ l, 1 ≤ b.f1) (k : Nat) (hk : k < l.length) : 1 ≤ prc l k := by
 unfold prc
 exact hp _ (by simp [List.getD, hk])
theorem val_sel (l : List S82) (p : Nat → Bool) : ∀ n i, valP l (sel p n i) = sumF (fun k => if p k then prc l k else 0) n i
 | 0, _ => rfl
 | n + 1, i => by
  have ih := val_sel l p n (i + 1)
  unfold sel sumF
  by_cases h : p i = true
  ·rw [if_pos h, if_pos h, ← ih]; rfl
  ·rw [if_neg h, if_neg h, ← ih]; omega
theorem valB_sel (l : List S82) (p : Nat → Bool) : valP l (sel p l.length 0) = valB l p := val_sel l p _ _
/-- A set of places that may win together. -/
def FeasU (U : S82 → Bool) (l : List S82) (p : Nat → Bool) : Prop :=
 (∀ a, a < l.length → p a = true → U (l.getD a z82) = true) ∧ ∀ a b, a < l.length → b < l.length → a ≠ b → p a = true → p b = true → cj l a b = false
/-- q has the first place at which they differ. -/
def dlt (n : Nat) (q p : Nat → Bool) : Prop := ∃ d, d < n ∧ q d = true ∧ p d = false ∧ ∀ x, x < d → q x = p x
structure IsBest (U : S82 → Bool) (l : List S82) (p : Nat → Bool) : Prop where
 feas : FeasU U l p
 max : ∀ q, FeasU U l q → valB l q ≤ valB l p
 first : ∀ q, FeasU U l q → valB l q = valB l p → ¬ dlt l.length q p
theorem ok_of_pairs (U : S82 → Bool) (l : List S82) : ∀ (s win : List Int), okS U l win s = true ↔ ((∀ k ∈ s, U (l.getD k.toNat z82) = true) ∧ (∀ w ∈ win, ∀ k ∈ s, cf l w k = false) ∧ s.Pairwise (fun a b => cf l a b = false))
 | [], win => by simp [okS]
 | k :: s, win => by
  have ih := ok_of_pairs U l s (win ++ [k])
  simp only [okS, Bool.and_eq_true, ih, Bool.not_eq_true']
  constructor
  ·rintro ⟨⟨h1, h2⟩, h3, h4, h5⟩
   have h2' : ∀ w ∈ win, cf l w k = false := fun w hw => by simpa using List.any_eq_false.1 h2 w hw
   refine ⟨fun x hx => ?_, fun w hw x hx => ?_, List.pairwise_cons.2 ⟨fun x hx => h4 k (by simp) x hx, h5⟩⟩
   ·rcases List.mem_cons.1 hx with rfl | hx
    ·exact h1
    ·exact h3 x hx
   ·rcases List.mem_cons.1 hx with rfl | hx
    ·exact h2' w hw
    ·exact h4 w (by simp [hw]) x hx
  ·rintro ⟨h1, h2, h3⟩
   obtain ⟨h4, h5⟩ := List.pairwise_cons.1 h3
   refine ⟨⟨h1 k (by simp), List.any_eq_false.2 (fun w hw => by simpa using h2 w hw k (by simp))⟩, fun x hx => h1 x (by simp [hx]), fun w hw x hx => ?_, h5⟩
   rcases List.mem_append.1 hw with hw | hw
   ·exact h2 w hw x (by simp [hx])
   ·rw [List.mem_singleton] at hw; subst hw; exact h4 x hx
theorem ok_sel (U : S82 → Bool) (l : List S82) (p : Nat → Bool) : okS U l [] (sel p l.length 0) = true ↔ FeasU U l p := by
 rw [ok_of_pairs]
 constructor
 ·rintro ⟨h1, _, h3⟩
  refine ⟨fun a ha hp => ?_, ?_⟩
  ·have := h1 (a : Int) ((mem_sel0 p _ _).2 ⟨a, ha, hp, rfl⟩)
   simpa using this
  ·have key : ∀ a b, a < l.length → b < l.length → a < b → p a = true → p b = true → cj l a b = false := by
    intro a b ha hb hab hpa hpb
    have hm : (a : Int) ∈ sel p l.length 0 := (mem_sel0 p _ _).2 ⟨a, ha, hpa, rfl⟩
    have hn : (b : Int) ∈ sel p l.length 0 := (mem_sel0 p _ _).2 ⟨b, hb, hpb, rfl⟩
    have hr := rise_sel p l.length 0
    generalize sel p l.length 0 = s at *
    induction s with
    | nil => simp at hm
    | cons x s ih =>
     obtain ⟨r1, r2⟩ := List.pairwise_cons.1 hr
     obtain ⟨c1, c2⟩ := List.pairwise_cons.1 h3
     rcases List.mem_cons.1 hm with e1 | e1
     ·rcases List.mem_cons.1 hn with e2 | e2
      ·omega
      ·subst e1; exact c1 _ e2
     ·rcases List.mem_cons.1 hn with e2 | e2
      ·have := r1 _ e1; omega
      ·exact ih (fun k hk => h1 k (by simp [hk])) (by simp) c2 e1 e2 r2
   intro a b ha hb hab hpa hpb
   rcases Nat.lt_or_gt_of_ne hab with h | h
   ·exact key a b ha hb h hpa hpb
   ·rw [cj_comm]; exact key b a hb ha h hpb hpa
 ·rintro ⟨h1, h2⟩
  refine ⟨fun k hk => ?_, by simp, ?_⟩
  ·obtain ⟨a, ha, hp, rfl⟩ := (mem_sel0 p _ _).1 hk
   exact h1 a ha hp
  ·refine (rise_sel p l.length 0).imp_of_mem (fun {a b} ha hb hab => ?_)
   obtain ⟨x, hx, hpx, rfl⟩ := (mem_sel0 p _ _).1 ha
   obtain ⟨y, hy, hpy, rfl⟩ := (mem_sel0 p _ _).1 hb
   exact h2 x y hx hy (by omega) hpx hpy
theorem dlt_less (q p : Nat → Bool) : ∀ n i, (∃ d, i ≤ d ∧ d < i + n ∧ q d = true ∧ p d = false ∧ ∀ x, i ≤ x → x < d → q x = p x) → lessP (sel q n i) (sel p n i) = true ∨ ∃ t, t ≠ [] ∧ sel q n i = sel p n i ++ t
 | 0, i, ⟨d, h1, h2, _⟩ => by omega
 | n + 1, i, ⟨d, h1, h2, h3, h4, h5⟩ => by
  by_cases e : d = i
  ·subst e
   unfold sel
   rw [if_pos h3, if_neg (by simp [h4])]
   cases hs : sel p n (d + 1) with
   | nil => exact .inr ⟨_, by simp, rfl⟩
   | cons y t =>
    have : (d : Int) < y := by
     obtain ⟨k, a, b, c, e⟩ := (mem_sel p y n (d + 1)).1 (by rw [hs]; simp)
     omega
    refine .inl ?_
    simp only [lessP]
    rw [if_neg (by omega)]
    simpa using this
  ·have ih := dlt_less q p n (i + 1) ⟨d, by omega, by omega, h3, h4, fun x a b => h5 x (by omega) b⟩
   have hi := h5 i (by omega) (by omega)
   unfold sel
   by_cases hp : p i = true
   ·rw [if_pos (by rw [hi]; exact hp), if_pos hp]
    rcases ih with ih | ⟨t, a, b⟩
    ·exact .inl (by simp only [lessP, if_true]; exact ih)
    ·exact .inr ⟨t, a, by rw [b]; rfl⟩
   ·rw [if_neg (by rw [hi]; exact hp), if_neg hp]
    exact ih
theorem valP_append (l : List S82) (a b : List Int) : valP l (a ++ b) = valP l a + valP l b := by
 unfold valP
 rw [List.map_append, List.sum_append]
theorem valP_pos (l : List S82) (hp : ∀ b ∈ l, 1 ≤ b.f1) (t : List Int) (ht : t ≠ []) (h : ∀ k ∈ t, 0 ≤ k ∧ k < l.length) : 1 ≤ valP l t := by
 have h1 : ∀ s : List Int, (∀ k ∈ s, 0 ≤ k ∧ k < l.length) → 0 ≤ valP l s := by
  intro s
  induction s with
  | nil => intro _; exact Int.le_refl _
  | cons k s ih =>
   intro h
   have h2 := ih (fun x hx => h x (by simp [hx]))
   have h3 := h k (by simp)
   have h4 : 1 ≤ (l.getD k.toNat z82).f1 := prc_pos l hp k.toNat (by omega)
   simp only [valP, List.map_cons, List.sum_cons] at h2 ⊢
   omega
 cases t with
 | nil => exact absurd rfl ht
 | cons k s =>
  have h2 := h1 s (fun x hx => h x (by simp [hx]))
  have h3 := h k (by simp)
  have h4 : 1 ≤ (l.getD k.toNat z82).f1 := prc_pos l hp k.toNat (by omega)
  simp only [valP, List.map_cons, List.sum_cons] at h2 ⊢
  omega
/-- Of two of one value the one that has the first difference is the less. -/
theorem dlt_same (l : List S82) (hp : ∀ b ∈ l, 1 ≤ b.f1) (q p : Nat → Bool) (h : dlt l.length q p) (hv : valB l q ≤ valB l p) : lessP (sel q l.length 0) (sel p l.length 0) = true := by
 obtain ⟨d, h1, h2, h3, h4⟩ := h
 rcases dlt_less q p l.length 0 ⟨d, by omega, by omega, h2, h3, fun x _ hx => h4 x hx⟩ with h5 | ⟨t, h5, h6⟩
 ·exact h5
 ·exfalso
  have h7 := valP_pos l hp t h5 (fun k hk => by
   obtain ⟨a, ha, _, rfl⟩ := (mem_sel0 q l.length k).1 (by rw [h6]; simp [hk])
   omega)
  rw [← valB_sel, ← valB_sel, h6, valP_append] at hv
  omega
theorem search_best (U : S82 → Bool) (l : List S82) (hp : ∀ b ∈ l, 1 ≤ b.f1) : ∃ p, IsBest U l p ∧ searchP U l = (sel p l.length 0, valB l p) := by
 obtain ⟨e1, e2, be, e3, e4⟩ := ext_valid (U := U) l 0 [] (l := l) rfl
 have hb := ext_best (U := U) (l := l) l 0 [] rfl hp
 rw [← search_ext hp] at e1 e2 e4 hb
 have hr := choice_ge l.length be 0
 have hs : (searchP U l).1 = sel (fun k => decide ((k : Int) ∈ (searchP U l).1)) l.length 0 := sel_of l.length _ (fun k hk => by
  rw [← e4] at hk
  have := hr k hk
  omega) (by
  rw [← e4]
  have : ∀ (n bits i : Nat), (choiceP n bits i).Pairwise (· < ·) := by
   intro n
   induction n with
   | zero => intro _ _; exact List.Pairwise.nil
   | succ n ih =>
    intro bits i
    unfold choiceP
    split
    ·refine List.pairwise_cons.2 ⟨fun x hx => ?_, ih _ _⟩
     have := choice_ge n (bits / 2) (i + 1) x hx
     omega
    ·exact ih _ _
  exact this _ _ _)
 generalize hpp : (fun k : Nat => decide ((k : Int) ∈ (searchP U l).1)) = p at hs
 have hv : (searchP U l).2 = valB l p := by rw [← e2, hs, valB_sel]
 refine ⟨p, ⟨?_, ?_, ?_⟩, by rw [← hs, ← hv]⟩
 ·rw [← ok_sel, ← hs]; exact e1
 ·intro q hq
  obtain ⟨bits, b1, b2⟩ := choice_sel q l.length 0
  have := (hb bits (by rw [b2]; exact (ok_sel U l q).2 hq)).1
  rw [b2, valB_sel] at this
  omega
 ·intro q hq hvq hd
  obtain ⟨bits, b1, b2⟩ := choice_sel q l.length 0
  have h1 := (hb bits (by rw [b2]; exact (ok_sel U l q).2 hq)).2 (by rw [b2, valB_sel]; omega)
  have h2 := dlt_same l hp q p hd (by omega)
  rw [b2, hs] at h1
  rcases h1 with h1 | h1
  ·rw [h1, less_irrefl] at h2; cases h2
  ·have := less_trans _ _ _ h1 h2
   rw [less_irrefl] at this
   cases this
end Go.Proofs.Ytdamibblnjeooaa.H

/- The reference's possible, Bound, right, Check. Plain. -/
namespace Go.Proofs.Ytdamibblnjeooaa.H
open Go.RowKit Go.Proofs.YtdamibblnjeooaaW.PrintWords Go.Proofs.YtdamibblnjeooaaW.PrintLast
set_option linter.unusedVariables false
set_option linter.unusedSimpArgs false
/-- Decisions, as a row and as two lists. -/
structure DecR (n : Nat) (dec ins outs : List Int) : Prop where
 len : dec.length = n
 li : ins.length ≤ 1000
 lo : outs.length ≤ 1000
 ri : ∀ k ∈ ins, 0 ≤ k ∧ k < n
 i1 : ∀ k : Nat, k < n → (dec.getD k 0 = 1 ↔ (k : Int) ∈ ins)
 i0 : ∀ k : Nat, k < n → (dec.getD k 0 = 0 ↔ ¬ (k : Int) ∈ ins ∧ ¬ (k : Int) ∈ outs)
/-- Is bid i possible, given the two lists? -/
def posL (l : List S82) (ins outs : List Int) (i : Nat) : Bool := (!ins.contains (i : Int) && !outs.contains (i : Int) && !ins.any fun k => conf (l.getD k.toNat z82) (l.getD i z82))
theorem poss_lists (l : List S82) (dec ins outs : List Int) (h : DecR l.length dec ins outs) (i : Nat) (hi : i < l.length) :
  possP l dec i = posL l ins outs i := by
 unfold posL
 have h1 : (List.range dec.length).any (oddsP l dec i) = ins.any fun k => conf (l.getD k.toNat z82) (l.getD i z82) := by
  rw [Bool.eq_iff_iff, List.any_eq_true, List.any_eq_true]
  constructor
  ·rintro ⟨k, hk, ho⟩
   have hk := List.mem_range.1 hk
   unfold oddsP at ho
   simp only [Bool.and_eq_true, decide_eq_true_eq] at ho
   exact ⟨(k : Int), (h.i1 k (by have := h.len; omega)).1 ho.1, by simpa using ho.2⟩
  ·rintro ⟨k, hk, ho⟩
   obtain ⟨r0, r1⟩ := h.ri k hk
   refine ⟨k.toNat, List.mem_range.2 (by have := h.len; omega), ?_⟩
   unfold oddsP
   rw [ho, Bool.and_true]
   exact decide_eq_true ((h.i1 k.toNat (by omega)).2 (by rwa [show ((k.toNat : Nat) : Int) = k by omega]))
 unfold possP
 rw [h1]
 congr 1
 rw [Bool.eq_iff_iff]
 simp only [decide_eq_true_eq, Bool.and_eq_true, Bool.not_eq_true', ← Bool.not_eq_true, List.contains_iff_mem]
 exact h.i0 i hi
theorem rposL_ok (l : List S85) (hb : ∀ b ∈ l, b.f2.length ≤ 9223372036854775807) (ins outs : List Int) (hli : ins.length ≤ 1000) (hlo : outs.length ≤ 1000) (hri : ∀ k ∈ ins, 0 ≤ k ∧ k < (l.length : Int)) (i : Nat) (hi : i < l.length) :
  Ev (fun k => worldmintref29_possible.f k l ins outs (i : Int)) (posL (l.map cv) ins outs i) := by
 unfold posL
 have hl0 : ∀ (d : List Int) (p : Nat), ins.drop p = d → p ≤ ins.length → Ev (fun k => worldmintref29_possible.l0 k l ins (i : Int) (p : Int)) (!d.any fun k => conf ((l.map cv).getD k.toNat z82) ((l.map cv).getD i z82)) := by
  intro d
  induction d with
  | nil =>
   intro p hd hp
   have := drop_nil ins p hp hd
   refine Ev.succ ?_
   simp only [worldmintref29_possible.l0, if_neg (show ¬ (p : Int) < (ins.length : Int) by omega), List.any_nil, Bool.not_false]
   exact Ev.some_
  | cons y d ih =>
   intro p hd hp
   obtain ⟨hx, hd', hlt⟩ := drop_cons ins p y d hd
   have hw : wrap64 ((p : Int) + 1) = ((p + 1 : Nat) : Int) := by rw [w64 _ (by omega) (by omega)]; omega
   have h1 := ih (p + 1) hd' (by omega)
   have hy := hri y (List.mem_of_getElem? hx)
   have c0 : (p : Int) < (ins.length : Int) := by omega
   have c1 : (0 : Int) ≤ (p : Int) := by omega
   have c2 : (0 : Int) ≤ (i : Int) := by omega
   have c3 : (i : Int) < (l.length : Int) := by omega
   have hby := hb (rd_T85 l y) (by simp [rd_T85, List.getD, show y.toNat < l.length by omega])
   have hbi := hb (rd_T85 l (i : Int)) (by simp [rd_T85, List.getD, hi])
   have hr := rconf_ok (rd_T85 l y).f0 (rd_T85 l y).f1 (rd_T85 l y).f2 (rd_T85 l (i : Int)).f0 (rd_T85 l (i : Int)).f1 (rd_T85 l (i : Int)).f2 hby hbi
   rw [conf_comm] at hr
   have e1 : (l.map cv).getD y.toNat z82 = ⟨(rd_T85 l y).f0, (rd_T85 l y).f1, (rd_T85 l y).f2⟩ := by
    simp [rd_T85, List.getD, show y.toNat < l.length by omega, cv]
   have e2 : (l.map cv).getD i z82 = ⟨(rd_T85 l (i : Int)).f0, (rd_T85 l (i : Int)).f1, (rd_T85 l (i : Int)).f2⟩ := by
    simp [rd_T85, List.getD, hi, cv]
   refine Ev.succ ?_
   simp only [worldmintref29_possible.l0, if_pos c0, if_pos c1, if_pos hy.1, if_pos hy.2, if_pos c2, if_pos c3, rd_at ins p y hx, hw]
   refine Ev.bind hr ?_
   rw [List.any_cons, e1]
   rw [e2] at h1 ⊢
   cases hc : conf ⟨(rd_T85 l y).f0, (rd_T85 l y).f1, (rd_T85 l y).f2⟩ ⟨(rd_T85 l (i : Int)).f0, (rd_T85 l (i : Int)).f1, (rd_T85 l (i : Int)).f2⟩
   ·simp only [Bool.false_eq_true, if_false, Bool.false_or]
    exact h1
   ·simp only [if_true, Bool.true_or, Bool.not_true]
    exact Ev.some_
 unfold worldmintref29_possible.f
 refine Ev.bind (has_ok ins (i : Int) (by omega)) ?_
 cases hc : ins.contains (i : Int)
 ·simp only [Bool.false_eq_true, if_false]
  refine Ev.bind (has_ok outs (i : Int) (by omega)) ?_
  refine Ev.succ ?_
  cases hc2 : outs.contains (i : Int)
  ·simp only [worldmintref29_possible.j0, Bool.false_eq_true, if_false, Bool.not_false, Bool.true_and]
   exact hl0 ins 0 rfl (Nat.zero_le _)
  ·simp only [worldmintref29_possible.j0, if_true, Bool.not_true, Bool.and_false, Bool.false_and]
   exact Ev.some_
 ·simp only [if_true]
  refine Ev.succ ?_
  simp only [worldmintref29_possible.j0, if_true, Bool.not_true, Bool.false_and]
  exact Ev.some_
theorem rposs_ok (l : List S85) (hb : ∀ b ∈ l, b.f2.length ≤ 9223372036854775807) (dec ins outs : List Int) (h : DecR l.length dec ins outs) (i : Nat) (hi : i < l.length) :
  Ev (fun k => worldmintref29_possible.f k l ins outs (i : Int)) (possP (l.map cv) dec i) := by
 have hlm : (l.map cv).length = l.length := List.length_map ..
 rw [poss_lists (l.map cv) dec ins outs (by rw [hlm]; exact h) i (by omega)]
 exact rposL_ok l hb ins outs h.li h.lo h.ri i hi
end Go.Proofs.Ytdamibblnjeooaa.H

/- The reference's grow and Full, walked by hand. -/
namespace Go.Proofs.Ytdamibblnjeooaa.H
open Go.RowKit Go.Proofs.YtdamibblnjeooaaW.PrintWords Go.Proofs.YtdamibblnjeooaaW.PrintLast Go.Proofs.YtdamibblnjeooaaW.PrintMore
set_option linter.unusedVariables false
set_option linter.unusedSimpArgs false
/-- The first bid that can still win. -/
def firstPos (l : List S82) (ins outs : List Int) : Option Nat := (List.range l.length).find? (posL l ins outs)
/-- The certificate that decides all possible bids, from a node on. -/
def growP (l : List S82) (n : Nat) : Nat → List S34 → List Int → List Int → List S34
 | 0, ns, _, _ => ns
 | f + 1, ns, ins, outs =>
  match firstPos l ins outs with
  | none => ns ++ [⟨-1, 0, 0, List.replicate n 0⟩]
  | some i => growP l n f ((growP l n f (ns ++ [⟨(i : Int), (ns.length : Int) + 1, 0, []⟩]) (ins ++ [(i : Int)]) outs).set ns.length ⟨(i : Int), (ns.length : Int) + 1, ((growP l n f (ns ++ [⟨(i : Int), (ns.length : Int) + 1, 0, []⟩]) (ins ++ [(i : Int)]) outs).length : Int), []⟩) ins (outs ++ [(i : Int)])
theorem growP_len (l : List S82) (n : Nat) : ∀ f ns ins outs, (growP l n f ns ins outs).length + 1 ≤ ns.length + 2 ^ f
 | 0, ns, _, _ => by simp [growP]
 | f + 1, ns, ins, outs => by
  have h0 : 0 < 2 ^ f := Nat.two_pow_pos f
  unfold growP
  split
  ·rw [List.length_append, Nat.pow_succ]; simp; omega
  ·rename_i i _
   have h1 := growP_len l n f (ns ++ [⟨(i : Int), (ns.length : Int) + 1, 0, []⟩]) (ins ++ [(i : Int)]) outs
   have h2 := growP_len l n f ((growP l n f (ns ++ [⟨(i : Int), (ns.length : Int) + 1, 0, []⟩]) (ins ++ [(i : Int)]) outs).set ns.length ⟨(i : Int), (ns.length : Int) + 1, ((growP l n f (ns ++ [⟨(i : Int), (ns.length : Int) + 1, 0, []⟩]) (ins ++ [(i : Int)]) outs).length : Int), []⟩) ins (outs ++ [(i : Int)])
   rw [List.length_append, List.length_singleton] at h1
   rw [List.length_set] at h2
   rw [Nat.pow_succ]
   omega
/-- What stood there stays. -/
theorem growP_pre (l : List S82) (n : Nat) : ∀ f ns ins outs, ∃ more, growP l n f ns ins outs = ns ++ more
 | 0, ns, _, _ => ⟨[], by simp [growP]⟩
 | f + 1, ns, ins, outs => by
  unfold growP
  split
  ·exact ⟨_, rfl⟩
  ·rename_i i _
   obtain ⟨m1, h1⟩ := growP_pre l n f (ns ++ [(⟨(i : Int), (ns.length : Int) + 1, 0, []⟩ : S34)]) (ins ++ [(i : Int)]) outs
   rw [h1]
   obtain ⟨m2, h2⟩ := growP_pre l n f ((ns ++ [(⟨(i : Int), (ns.length : Int) + 1, 0, []⟩ : S34)] ++ m1).set ns.length ⟨(i : Int), (ns.length : Int) + 1, ((ns ++ [(⟨(i : Int), (ns.length : Int) + 1, 0, []⟩ : S34)] ++ m1).length : Int), []⟩) ins (outs ++ [(i : Int)])
   rw [h2]
   refine ⟨(⟨(i : Int), (ns.length : Int) + 1, ((ns ++ [(⟨(i : Int), (ns.length : Int) + 1, 0, []⟩ : S34)] ++ m1).length : Int), []⟩ : S34) :: m1 ++ m2, ?_⟩
   rw [List.append_assoc, List.set_append_right _ _ (Nat.le_refl _), Nat.sub_self]
   simp
theorem growP_at (l : List S82) (n f : Nat) (ns : List S34) (x : S34) (ins outs : List Int) : (growP l n f (ns ++ [x]) ins outs)[ns.length]? = some x := by
 obtain ⟨m, h⟩ := growP_pre l n f (ns ++ [x]) ins outs
 rw [h, List.append_assoc, List.getElem?_append_right (Nat.le_refl _)]
 simp
/-- What a call of grow is told. -/
structure GCx where
 n : Nat
 v : Int
 Ab : Option Addr
 cb : Nat
 L : List S85
 w0 : World
def GCx.base (s : GCx) : Nat := s.w0.heap.size
structure GOk (s : GCx) : Prop where
 n8 : s.n ≤ 8
 l10 : s.L.length ≤ 10
 f2 : ∀ b ∈ s.L, b.f2.length ≤ 9223372036854775807
 cbl : s.L.length ≤ s.cb
 hr : Kd.C k85 s.w0 s.Ab s.L.length s.L
/-- The two lists of decisions. -/
structure GDec (s : GCx) (ins outs : List Int) : Prop where
 ri : ∀ k ∈ ins, 0 ≤ k ∧ k < (s.L.length : Int)
 ro : ∀ k ∈ outs, 0 ≤ k ∧ k < (s.L.length : Int)
 nd : (ins ++ outs).Nodup
def GrowC (s : GCx) (f : Nat) : Prop := ∀ (ns : List S34) (ins outs : List Int) (vs : Value) (A4 : Option Addr) (c4 : Nat) (A5 : Option Addr) (c5 : Nat) (w : World) (P okn : Nat → Prop),
 s.base ≤ w.heap.size → Kd.N k34 34 w s.base okn vs ns → Below s.base s.w0 w →
 Kd.F (Kd.int .i64) w P A4 ins.length ins → ins.length ≤ c4 → Kd.F (Kd.int .i64) w P A5 outs.length outs → outs.length ≤ c5 → (∀ k, P k → some k ≠ vs.ownBlock) →
 GDec s ins outs → s.L.length < ins.length + outs.length + f → ns.length + 2 ^ f ≤ 100000 →
 Calls Try.prog 46 #[.int .i64 (s.n : Int), .slice s.Ab s.L.length s.cb, .agg #[.int .i64 s.v, vs], .slice A4 ins.length c4, .slice A5 outs.length c5] w
  (fun e w' => ∃ vs', e = .returned (.agg #[.int .i64 s.v, vs']) ∧ Kd.N k34 34 w' s.base (fun k => okn k ∨ w.heap.size ≤ k) vs' (growP (s.L.map cv) s.n f ns ins outs) ∧ w.grownBy w' vs.ownBlock ∧ (vs'.ownBlock = vs.ownBlock ∨ ∃ b, vs'.ownBlock = some b ∧ w.heap.size ≤ b))
/-- How the boxes and rows of a call stand in X: vb lies in the box, vs is the list's row. -/
structure GSt (s : GCx) (w : World) (okn P : Nat → Prop) (own : Option Nat) (A4 : Option Addr) (ins : List Int) (A5 : Option Addr) (outs : List Int) (X : World) (vb vs : Value) (ns : List S34) : Prop where
 gr : w.grownBy X own
 sz : w.heap.size + 2 ≤ X.heap.size
 b7 : X.heap[w.heap.size]? = some (.cells #[.int .i64 s.v, vb] 30 (0, 0))
 b10 : X.heap[w.heap.size + 1]? = some (.cells #[.int .i64 0, .slice none 0 0] 30 (0, 0))
 hN : Kd.N k34 34 X s.base (fun k => (okn k ∧ k < w.heap.size) ∨ w.heap.size + 2 ≤ k) vs ns
 hat : vs.ownBlock = own ∨ ∃ b, vs.ownBlock = some b ∧ w.heap.size + 2 ≤ b
 fb : Below s.base s.w0 X
 hbw : s.base ≤ w.heap.size
 f4 : Kd.F (Kd.int .i64) X (fun k => P k ∧ k < w.heap.size) A4 ins.length ins
 f5 : Kd.F (Kd.int .i64) X (fun k => P k ∧ k < w.heap.size) A5 outs.length outs
 hap : ∀ k, P k → some k ≠ own
 hown : ∀ k, own = some k → k < w.heap.size
section
variable {s : GCx} {w : World} {okn P : Nat → Prop} {own : Option Nat} {A4 A5 : Option Addr} {ins outs : List Int} {X X1 : World} {vb vs v1 : Value} {ns ns1 : List S34}
theorem GSt.step (h : GSt s w okn P own A4 ins A5 outs X vb vs ns) (hb : Below X.heap.size X X1) : GSt s w okn P own A4 ins A5 outs X1 vb vs ns := by
 have hsz := h.sz
 exact ⟨⟨hb.os.trans h.gr.os, hb.tape.trans h.gr.tape, hb.output.trans h.gr.output, Nat.le_trans h.gr.size hb.size, fun k hk hne => (hb.block k (by omega)).trans (h.gr.block k hk hne)⟩, Nat.le_trans hsz hb.size, (hb.block _ (by omega)).trans h.b7, (hb.block _ (by omega)).trans h.b10, Kd.N_below h.hN hb, h.hat, h.fb.trans (hb.mono h.fb.size), h.hbw, Kd.F_below h.f4 hb, Kd.F_below h.f5 hb, h.hap, h.hown⟩
/-- The list has been written (its own block, or new ones). -/
theorem GSt.mv (h : GSt s w okn P own A4 ins A5 outs X vb vs ns) (hg : X.grownBy X1 vs.ownBlock) (hN : Kd.N k34 34 X1 s.base (fun k => (okn k ∧ k < w.heap.size) ∨ w.heap.size + 2 ≤ k) v1 ns1) (hat : v1.ownBlock = vs.ownBlock ∨ ∃ b, v1.ownBlock = some b ∧ X.heap.size ≤ b) :
  GSt s w okn P own A4 ins A5 outs X1 vb v1 ns1 := by
 have hsz := h.sz
 have hne : ∀ k, k < w.heap.size + 2 → (k < w.heap.size → some k ≠ own) → some k ≠ vs.ownBlock := by
  intro k hk hko he
  rcases h.hat with e | ⟨b, e, hb⟩
  ·rw [e] at he
   have := h.hown k he.symm
   exact hko this he
  ·rw [e] at he
   injection he with he
   omega
 have hP : ∀ k, P k ∧ k < w.heap.size → some k ≠ vs.ownBlock := fun k hk => hne k (by omega) (fun _ => h.hap k hk.1)
 refine ⟨⟨hg.os.trans h.gr.os, hg.tape.trans h.gr.tape, hg.output.trans h.gr.output, Nat.le_trans h.gr.size hg.size, fun k hk hn => (hg.block k (by omega) (hne k (by omega) (fun _ => hn))).trans (h.gr.block k hk hn)⟩, Nat.le_trans hsz hg.size, (hg.block _ (by omega) (hne _ (by omega) (fun h => by omega))).trans h.b7, (hg.block _ (by omega) (hne _ (by omega) (fun h => by omega))).trans h.b10, hN, ?_, h.fb.trans ⟨hg.os, hg.tape, hg.output, hg.size, fun k hk => hg.block k (Nat.lt_of_lt_of_le hk h.fb.size) (fun e => by have := Kd.N_base h.hN k e.symm; omega)⟩, h.hbw, Kd.F_grown h.f4 hg hP, Kd.F_grown h.f5 hg hP, h.hap, h.hown⟩
 rcases hat with e | ⟨b, e, hb⟩
 ·rw [e]; exact h.hat
 ·exact .inr ⟨b, e, by omega⟩
theorem GSt.fin (h : GSt s w okn P own A4 ins A5 outs X vb vs ns) (hX : X1 = X ∨ ∃ a b, X1 = (X.setCell ⟨w.heap.size + 1, 0, none⟩ a).setCell ⟨w.heap.size + 1, 1, none⟩ b) :
  Kd.N k34 34 X1 s.base (fun k => okn k ∨ w.heap.size ≤ k) vs ns ∧ w.grownBy X1 own ∧ (vs.ownBlock = own ∨ ∃ b, vs.ownBlock = some b ∧ w.heap.size ≤ b) := by
 have hat : vs.ownBlock = own ∨ ∃ b, vs.ownBlock = some b ∧ w.heap.size ≤ b := h.hat.elim .inl (fun ⟨b, e, hb⟩ => .inr ⟨b, e, by omega⟩)
 have hmono : ∀ k, (okn k ∧ k < w.heap.size) ∨ w.heap.size + 2 ≤ k → okn k ∨ w.heap.size ≤ k := fun k hk => hk.elim (fun x => .inl x.1) (fun x => .inr (by omega))
 rcases hX with rfl | ⟨a, b, rfl⟩
 ·exact ⟨Kd.N_mono h.hN hmono, h.gr, hat⟩
 ·have hB : Below w.heap.size X ((X.setCell ⟨w.heap.size + 1, 0, none⟩ a).setCell ⟨w.heap.size + 1, 1, none⟩ b) := ((Below.refl _ X).setCell (p := ⟨w.heap.size + 1, 0, none⟩) (Nat.le_succ _) a).setCell (p := ⟨w.heap.size + 1, 1, none⟩) (Nat.le_succ _) b
  have hne : ∀ k, (okn k ∧ k < w.heap.size) ∨ w.heap.size + 2 ≤ k → k ≠ w.heap.size + 1 := fun k hk => by omega
  exact ⟨Kd.N_mono (Kd.N_far (p := ⟨w.heap.size + 1, 1, none⟩) (Kd.N_far (p := ⟨w.heap.size + 1, 0, none⟩) h.hN hne a) hne b) hmono, ⟨hB.os.trans h.gr.os, hB.tape.trans h.gr.tape, hB.output.trans h.gr.output, Nat.le_trans h.gr.size hB.size, fun k hk hn => (hB.block k hk).trans (h.gr.block k hk hn)⟩, hat⟩
theorem GSt.apart (h : GSt s w okn P own A4 ins A5 outs X vb vs ns) : ∀ k, (P k ∧ k < w.heap.size) ∨ X.heap.size ≤ k → some k ≠ vs.ownBlock := by
 intro k hk he
 have hlt := Kd.N_lt h.hN k he.symm
 rcases hk with hk | hk
 ·rcases h.hat with e | ⟨b, e, hb⟩
  ·rw [e] at he; exact h.hap k hk.1 he
  ·rw [e] at he
   injection he with he
   omega
 ·omega
theorem GDec.take {s : GCx} {ins outs : List Int} (h : GDec s ins outs) (m : Nat) (hm : m < s.L.length) (hp : posL (s.L.map cv) ins outs m = true) : GDec s (ins ++ [(m : Int)]) outs ∧ GDec s ins (outs ++ [(m : Int)]) := by
 unfold posL at hp
 simp only [Bool.and_eq_true, Bool.not_eq_true', List.contains_eq_mem, decide_eq_false_iff_not] at hp
 obtain ⟨⟨n1, n2⟩, _⟩ := hp
 have hnd := h.nd
 constructor
 ·refine ⟨fun k hk => ?_, h.ro, ?_⟩
  ·rcases List.mem_append.1 hk with x | x
   ·exact h.ri k x
   ·rw [List.mem_singleton] at x; omega
  ·rw [List.nodup_append] at hnd ⊢
   refine ⟨?_, hnd.2.1, ?_⟩
   ·rw [List.nodup_append]
    refine ⟨hnd.1, by simp, ?_⟩
    intro a ha c hc e
    rw [List.mem_singleton] at hc
    subst hc; subst e
    exact n1 ha
   ·intro a ha c hc e
    rcases List.mem_append.1 ha with x | x
    ·exact hnd.2.2 a x c hc e
    ·rw [List.mem_singleton] at x
     subst x; subst e
     exact n2 hc
 ·refine ⟨h.ri, fun k hk => ?_, ?_⟩
  ·rcases List.mem_append.1 hk with x | x
   ·exact h.ro k x
   ·rw [List.mem_singleton] at x; omega
  ·rw [← List.append_assoc, List.nodup_append]
   refine ⟨hnd, by simp, ?_⟩
   intro a ha c hc e
   rw [List.mem_singleton] at hc
   subst hc; subst e
   rcases List.mem_append.1 ha with x | x
   ·exact n1 x
   ·exact n2 x
/-- A store into the box. -/
theorem GSt.put (h : GSt s w okn P own A4 ins A5 outs X vb vs ns) (u : Value) : GSt s w okn P own A4 ins A5 outs (X.setCell ⟨w.heap.size, 1, none⟩ u) u vs ns := by
 have hB : Below w.heap.size X (X.setCell ⟨w.heap.size, 1, none⟩ u) := (Below.refl _ X).setCell (p := ⟨w.heap.size, 1, none⟩) (Nat.le_refl _) u
 have hne : ∀ k, (okn k ∧ k < w.heap.size) ∨ w.heap.size + 2 ≤ k → k ≠ w.heap.size := fun k hk => by omega
 have hP : ∀ k, P k ∧ k < w.heap.size → k ≠ w.heap.size := fun k hk => by omega
 exact ⟨⟨hB.os.trans h.gr.os, hB.tape.trans h.gr.tape, hB.output.trans h.gr.output, Nat.le_trans h.gr.size hB.size, fun k hk hn => (hB.block k hk).trans (h.gr.block k hk hn)⟩, Nat.le_trans h.sz hB.size, blk_put h.b7 1 u rfl, (Below.heap_setCell X ⟨w.heap.size, 1, none⟩ u _ (by show w.heap.size + 1 ≠ w.heap.size; omega)).trans h.b10, Kd.N_far (p := ⟨w.heap.size, 1, none⟩) h.hN hne u, h.hat, h.fb.setCell (p := ⟨w.heap.size, 1, none⟩) h.hbw u, h.hbw, Kd.F_far (p := ⟨w.heap.size, 1, none⟩) h.f4 hP u, Kd.F_far (p := ⟨w.heap.size, 1, none⟩) h.f5 hP u, h.hap, h.hown⟩
theorem GSt.put0 (h : GSt s w okn P own A4 ins A5 outs X vb vs ns) : GSt s w okn P own A4 ins A5 outs (X.setCell ⟨w.heap.size, 0, none⟩ (.int .i64 s.v)) vb vs ns := by
 have hB : Below w.heap.size X (X.setCell ⟨w.heap.size, 0, none⟩ (.int .i64 s.v)) := (Below.refl _ X).setCell (p := ⟨w.heap.size, 0, none⟩) (Nat.le_refl _) _
 have hne : ∀ k, (okn k ∧ k < w.heap.size) ∨ w.heap.size + 2 ≤ k → k ≠ w.heap.size := fun k hk => by omega
 have hP : ∀ k, P k ∧ k < w.heap.size → k ≠ w.heap.size := fun k hk => by omega
 exact ⟨⟨hB.os.trans h.gr.os, hB.tape.trans h.gr.tape, hB.output.trans h.gr.output, Nat.le_trans h.gr.size hB.size, fun k hk hn => (hB.block k hk).trans (h.gr.block k hk hn)⟩, Nat.le_trans h.sz hB.size, blk_put h.b7 0 _ rfl, (Below.heap_setCell X ⟨w.heap.size, 0, none⟩ _ _ (by show w.heap.size + 1 ≠ w.heap.size; omega)).trans h.b10, Kd.N_far (p := ⟨w.heap.size, 0, none⟩) h.hN hne _, h.hat, h.fb.setCell (p := ⟨w.heap.size, 0, none⟩) h.hbw _, h.hbw, Kd.F_far (p := ⟨w.heap.size, 0, none⟩) h.f4 hP _, Kd.F_far (p := ⟨w.heap.size, 0, none⟩) h.f5 hP _, h.hap, h.hown⟩
theorem GSt.cells (h : GSt s w okn P own A4 ins A5 outs X vb vs ns) : X.cell? ⟨w.heap.size, 0, none⟩ = some (.int .i64 s.v) ∧ X.cell? ⟨w.heap.size, 1, none⟩ = some vb ∧ X.frozen? ⟨w.heap.size, 0, none⟩ = false ∧ X.frozen? ⟨w.heap.size, 1, none⟩ = false :=
 ⟨(blk_cell h.b7 0).trans rfl, (blk_cell h.b7 1).trans rfl, blk_frozen h.b7 0, blk_frozen h.b7 1⟩
theorem GSt.cells10 (h : GSt s w okn P own A4 ins A5 outs X vb vs ns) : X.cell? ⟨w.heap.size + 1, 0, none⟩ = some (.int .i64 0) ∧ X.cell? ⟨w.heap.size + 1, 1, none⟩ = some (.slice none 0 0) ∧ X.frozen? ⟨w.heap.size + 1, 0, none⟩ = false ∧ X.frozen? ⟨w.heap.size + 1, 1, none⟩ = false :=
 ⟨(blk_cell h.b10 0).trans rfl, (blk_cell h.b10 1).trans rfl, blk_frozen h.b10 0, blk_frozen h.b10 1⟩
end
theorem dec_len (m : Nat) : ∀ s : List Int, (∀ k ∈ s, 0 ≤ k ∧ k < (m : Int)) → s.Nodup → s.length ≤ m := by
 induction m with
 | zero =>
  intro s h _
  cases s with
  | nil => simp
  | cons x s => have := h x (by simp); omega
 | succ m ih =>
  intro s h hn
  have h1 := ih (s.erase (m : Int)) (fun k hk => by
   have h2 := h k (List.mem_of_mem_erase hk)
   have h3 := ((List.Nodup.mem_erase_iff hn).1 hk).1
   omega) (hn.erase _)
  by_cases hm : (m : Int) ∈ s
  ·have := List.length_erase_of_mem hm
   have : 0 < s.length := List.length_pos_of_mem hm
   omega
  ·rw [List.erase_of_not_mem hm] at h1; omega
theorem firstPos_none {l : List S82} {ins outs : List Int} (h : ∀ j, j < l.length → posL l ins outs j = false) : firstPos l ins outs = none := by
 unfold firstPos
 rw [List.find?_eq_none]
 intro x hx
 rw [h x (List.mem_range.1 hx)]
 simp
theorem firstPos_some {l : List S82} {ins outs : List Int} {i : Nat} (hi : i < l.length) (h : ∀ j, j < i → posL l ins outs j = false) (ht : posL l ins outs i = true) : firstPos l ins outs = some i := by
 unfold firstPos
 rw [List.find?_range_eq_some]
 refine ⟨ht, List.mem_range.2 hi, fun j hj => ?_⟩
 rw [h j hj]
 rfl
set_option maxHeartbeats 8000000 in
set_option maxRecDepth 100000 in
theorem grow_step (s : GCx) (ok : GOk s) (f : Nat) (Ih : GrowC s f) : GrowC s (f + 1) := by
 intro ns ins outs vs A4 c4 A5 c5 w P okn hbw hN hFb hF4 hc4 hF5 hc5 hap hd hfu hlen
 have hdl := dec_len s.L.length (ins ++ outs) (fun k hk => by
  rcases List.mem_append.1 hk with h | h
  ·exact hd.ri k h
  ·exact hd.ro k h) hd.nd
 rw [List.length_append] at hdl
 have hl10 := ok.l10
 have hcb := ok.cbl
 have hpos := fun i hi => rposL_ok s.L ok.f2 ins outs (by omega) (by omega) hd.ri i hi
 obtain ⟨Av, cv_, ev⟩ := Kd.N_slice hN
 subst ev
 obtain ⟨W2, hW2⟩ : ∃ W2, W2 = (w.alloc (.cells #[.int .i64 s.v, .slice Av ns.length cv_] 30)).alloc (.cells #[.int .i64 0, .slice none 0 0] 30) := ⟨_, rfl⟩
 have hB2 : Below w.heap.size w W2 := by rw [hW2]; exact ((Below.refl _ w).alloc (Nat.le_refl _) _).alloc (by simp) _
 have hst : GSt s w okn P (.slice Av ns.length cv_ : Value).ownBlock A4 ins A5 outs W2 (.slice Av ns.length cv_) (.slice Av ns.length cv_) ns := by
  refine ⟨⟨hB2.os, hB2.tape, hB2.output, hB2.size, fun k hk _ => hB2.block k hk⟩, by rw [hW2]; simp, ?_, ?_, Kd.N_mono (Kd.N_below (Kd.N_bound hN) hB2) (fun k hk => .inl hk), .inl rfl, hFb.trans (hB2.mono hbw), hbw, Kd.F_below (Kd.F_bound hF4) hB2, Kd.F_below (Kd.F_bound hF5) hB2, hap, fun k hk => Kd.N_lt hN k hk⟩
  ·rw [hW2]
   exact (Below.heap_alloc _ _ _ (by simp)).trans (heap_alloc_new w _)
  ·have h_ := heap_alloc_new (w.alloc (.cells #[.int .i64 s.v, .slice Av ns.length cv_] 30)) (.cells #[.int .i64 0, .slice none 0 0] 30)
   rw [World.size_alloc] at h_
   rw [hW2]
   exact h_
 have Hst := Aside0.mk hst
 have Hd := Aside0.mk hd
 have Hpos := Aside0.mk hpos
 have Hlen := Aside0.mk hlen
 have Hfu := Aside0.mk hfu
 clear hN hFb hF4 hF5 hap hd hpos hlen hfu hB2 hst
 go_enter Try.func46, Try.ntmps46
 go_upto_region 1 with (fail)
 rw [← hW2]
 clear hW2
 obtain ⟨hz0, hz1, hzf0, hzf1⟩ := Hst.out.cells
 go_wp2
 clear hz0 hz1 hzf0 hzf1
 go_loopw [12] (fun i wr => ∃ m : Nat, m ≤ s.L.length ∧ i = .int .i64 m ∧ Aside0 (∀ j, j < m → posL (s.L.map cv) ins outs j = false) ∧ Aside0 (Below W2.heap.size W2 wr)) (fun i _ => s.L.length - (intOf i).toNat)
 case atStart => exact ⟨0, by omega, rfl, ⟨fun j hj => by omega⟩, ⟨Below.refl _ _⟩⟩
 case round =>
  obtain ⟨m, hm, rfl, Hno, HB⟩ := hrel
  have hstr := Hst.out.step HB.out
  by_cases hlt : m < s.L.length
  ·obtain ⟨kp, hkp⟩ := (Hpos.out m hlt).ex
   have hcall := worldmintref29_possible.calls kp s.Ab s.cb s.L A4 c4 ins A5 c5 outs (m : Int) _ wr (Kd.C_below ok.hr hstr.fb) hcb (Kd.F_now hstr.f4) hc4 (Kd.F_now hstr.f5) hc5 hkp
   have Hcall := Aside0.mk hcall
   have Hstr := Aside0.mk hstr
   clear hcall hkp hstr
   cases hp : posL (s.L.map cv) ins outs m
   ·rw [hp] at Hcall
    go_wp2_with fail
    refine Hcall.out.mono ?_
    rintro e w1 ⟨rfl, hb1⟩
    have HB1 := Aside0.mk (HB.out.trans (hb1.mono HB.out.size))
    have Hno1 := Aside0.mk (show ∀ j, j < m + 1 → posL (s.L.map cv) ins outs j = false from fun j hj => by
     by_cases e : j = m
     ·subst e; exact hp
     ·exact Hno.out j (by omega))
    clear hb1 Hcall HB Hno Hstr
    go_wp2
    go_roundw
    case rel => exact ⟨m + 1, by omega, by go_num, Hno1, HB1⟩
    case measure => simp [intOf]; omega
   ·rw [hp] at Hcall
    go_wp2_with fail
    refine Hcall.out.mono ?_
    rintro e w1 ⟨rfl, hb1⟩
    have hst1 := Hstr.out.step hb1
    have hfirst : firstPos (s.L.map cv) ins outs = some m := firstPos_some (by rw [List.length_map]; exact hlt) Hno.out hp
    obtain ⟨hz0, hz1, hzf0, hzf1⟩ := hst1.cells
    have Hst1 := Aside0.mk hst1
    have Hfirst := Aside0.mk hfirst
    clear hb1 Hcall HB Hno Hstr hst1 hfirst
    have hw1 : IntKind.i64.wrap ((ns.length : Int) + 1) = (ns.length : Int) + 1 := IntWalk.i64_in _ (by have := Hlen.out; have := Nat.two_pow_pos (f + 1); omega)
    obtain ⟨x, hx⟩ : ∃ x : S34, x = ⟨(m : Int), (ns.length : Int) + 1, 0, []⟩ := ⟨_, rfl⟩
    have hFK : ∀ W : World, Kd.FK k34 W (fun _ => False) x [.int .i64 (m : Int), .int .i64 ((ns.length : Int) + 1), .int .i64 0, .slice none 0 0] := fun W => by
     rw [hx]
     exact k34_mkF W (fun _ => False) ⟨(m : Int), (ns.length : Int) + 1, 0, []⟩ (Nat.le_refl _) (Kd.F_nil _ W _)
    go_upto_region 9 with ((with_reducible refine gate_builtin (b := .append) (xs := #[.tmp 33, .tmp 38]) rfl ?_); at_builtin; refine Kd.N_append k34 (w0 := w1) s.base rfl (.tmp 33) (.tmp 38) 28 34 _ 48 rfl Try.underlying28 info34 rfl (by decide) (by omega) (.slice Av ns.length cv_) ns x [.int .i64 (m : Int), .int .i64 ((ns.length : Int) + 1), .int .i64 0, .slice none 0 0] (fun k => (okn k ∧ k < w.heap.size) ∨ w.heap.size + 2 ≤ k) (fun _ => False) rfl rfl (hFK _) (fun _ hk => hk.elim) ?aF Hst1.out.hN ?aB ?aS ?aL ?_; (case aF => exact fun k hk => .inr (Nat.le_trans Hst1.out.sz hk)); (case aB => exact Below.refl _ _); (case aS => exact Nat.le_trans hbw (Nat.le_trans Hst1.out.gr.size (Nat.le_refl _))); (case aL => have := Hlen.out; have := Nat.two_pow_pos (f + 1); omega); intro v7 w7 ho7 hb7 hg7 hat7; have Hst7 := Aside0.mk (Hst1.out.mv hg7 ho7 hat7); obtain ⟨A7, c7, ev7⟩ := Kd.N_slice ho7; rw [List.length_append, List.length_singleton] at ev7; subst ev7; clear ho7 hb7 hg7 hat7 hz0 hz1 hzf0 hzf1; obtain ⟨hz0, hz1, hzf0, hzf1⟩ := Hst7.out.cells)
    obtain ⟨w8, hw8⟩ : ∃ w8, w8 = w7.setCell ⟨w.heap.size, 1, none⟩ (.slice A7 (ns.length + 1) c7) := ⟨_, rfl⟩
    have Hst8 := Aside0.mk (show GSt s w okn P (.slice Av ns.length cv_ : Value).ownBlock A4 ins A5 outs w8 (.slice A7 (ns.length + 1) c7) (.slice A7 (ns.length + 1) c7) (ns ++ [x]) from by rw [hw8]; exact Hst7.out.put _)
    rw [← hw8]
    clear hw8 hz0 hz1 hzf0 hzf1 Hst7 Hst1
    have hC4 := Kd.F_now Hst8.out.f4
    go_upto_region 10 with ((with_reducible refine gate_builtin (b := .append) (xs := #[.tmp 41, .tmp 42]) rfl ?_); at_builtin; refine Kd.R_append_row (Value.int .i64) (0 : Int) (h1 := fun _ => rfl) (w0 := w8) w8.heap.size rfl (.tmp 41) (.tmp 42) 22 3 (.int .i64 0) 8 rfl Try.underlying22 info3 rfl (by decide) (.slice none 0 0) [] ins A4 ins.length c4 (fun k => w8.heap.size ≤ k) rfl rfl (fun _ hk => hk) ?aO hC4 ?aB ?aS ?aL ?_; (case aO => exact Kd.R_nil _ _ _ _ _); (case aB => exact Below.refl _ _); (case aS => exact Nat.le_refl _); (case aL => simp only [List.length_nil]; omega); intro v9 w9 ho9 hb9 hg9 hat9)
    rw [List.nil_append] at ho9
    obtain ⟨A9, c9, ev9⟩ := Kd.R_slice ho9
    subst ev9
    have Ho9 := Aside0.mk ho9
    have Hb9 := Aside0.mk hb9
    clear ho9 hb9 hg9 hat9 hC4
    obtain ⟨hz0, hz1, hzf0, hzf1⟩ := (Hst8.out.step Hb9.out).cells
    have hkeep : ∀ w', Below w8.heap.size w8 w' → w'.cell? ⟨w.heap.size, 0, none⟩ = some (.int .i64 s.v) ∧ w'.cell? ⟨w.heap.size, 1, none⟩ = some (.slice A7 (ns.length + 1) c7) := fun w' hb => by
     obtain ⟨h0, h1, _⟩ := (Hst8.out.step hb).cells
     exact ⟨h0, h1⟩
    have Hkeep := Aside0.mk hkeep
    clear hkeep hzf0 hzf1
    refine wp_region_last_drew (ds := [9]) (S := fun w' => w'.cell? ⟨w.heap.size, 0, none⟩ = some (.int .i64 s.v) ∧ w'.cell? ⟨w.heap.size, 1, none⟩ = some (.slice A7 (ns.length + 1) c7)) (by kernel_rfl) (Hkeep.out w9.drew (below_drew1 Hb9.out)) ?_
    intro hS0
    refine wpAnyLast_take (i := 0) (v := ?_) rfl (by kernel_rfl) (by kernel_rfl) (by kernel_rfl) (by kernel_rfl) (by kernel_rfl) (fun _ _ _ h => h) (Or.inl ⟨by rfl, ?_⟩) (by assumption) ?_
    rotate_left
    ·(intro w_ hSw_; (try dsimp only at hSw_); go_simp; try with_reducible rfl)
    try simp only [Act.put, List.getElem_toArray, List.getElem_cons_zero, List.getElem_cons_succ, List.setIfInBounds_toArray, List.set_cons_zero, List.set_cons_succ]
    refine wpAnyLast_take (i := 1) (v := ?_) rfl (by kernel_rfl) (by kernel_rfl) (by kernel_rfl) (by kernel_rfl) (by kernel_rfl) (fun _ _ _ h => h) (Or.inl ⟨by rfl, ?_⟩) (by assumption) ?_
    rotate_left
    ·(intro w_ hSw_; (try dsimp only at hSw_); go_simp; try with_reducible rfl)
    try simp only [Act.put, List.getElem_toArray, List.getElem_cons_zero, List.getElem_cons_succ, List.setIfInBounds_toArray, List.set_cons_zero, List.set_cons_succ]
    refine wpAnyLast_take (i := 2) (v := ?_) rfl (by kernel_rfl) (by kernel_rfl) (by kernel_rfl) (by kernel_rfl) (by kernel_rfl) (fun _ _ _ h => h) (Or.inl ⟨by rfl, ?_⟩) (by assumption) ?_
    rotate_left
    ·(intro w_ hSw_; (try dsimp only at hSw_); go_simp; try with_reducible rfl)
    try simp only [Act.put, List.getElem_toArray, List.getElem_cons_zero, List.getElem_cons_succ, List.setIfInBounds_toArray, List.set_cons_zero, List.set_cons_succ]
    refine wpAnyLast_take (i := 3) (v := ?_) rfl (by kernel_rfl) (by kernel_rfl) (by kernel_rfl) (by kernel_rfl) (by kernel_rfl) (fun _ _ _ h => h) (Or.inl ⟨by rfl, ?_⟩) (by assumption) ?_
    rotate_left
    ·(intro w_ hSw_; (try dsimp only at hSw_); go_simp; try with_reducible rfl)
    try simp only [Act.put, List.getElem_toArray, List.getElem_cons_zero, List.getElem_cons_succ, List.setIfInBounds_toArray, List.set_cons_zero, List.set_cons_succ]
    refine wpAnyLast_take (i := 4) (v := ?_) rfl (by kernel_rfl) (by kernel_rfl) (by kernel_rfl) (by kernel_rfl) (by kernel_rfl) (fun _ _ _ h => h) (Or.inl ⟨by rfl, ?_⟩) (by assumption) ?_
    rotate_left
    ·(intro w_ hSw_; (try dsimp only at hSw_); go_simp; try with_reducible rfl)
    try simp only [Act.put, List.getElem_toArray, List.getElem_cons_zero, List.getElem_cons_succ, List.setIfInBounds_toArray, List.set_cons_zero, List.set_cons_succ]
    refine wpAnyLast_take (i := 7) (v := ?_) rfl (by kernel_rfl) (by kernel_rfl) (by kernel_rfl) (by kernel_rfl) (by kernel_rfl) (fun _ _ _ h => h) (Or.inl ⟨by rfl, ?_⟩) (by assumption) ?_
    rotate_left
    ·(intro w_ hSw_; (try dsimp only at hSw_); go_simp; try with_reducible rfl)
    try simp only [Act.put, List.getElem_toArray, List.getElem_cons_zero, List.getElem_cons_succ, List.setIfInBounds_toArray, List.set_cons_zero, List.set_cons_succ]
    refine wpAnyLast_ready (rs := [5]) (by kernel_rfl) (by simp) ?_
    refine AllReadyL.cons rfl (by decide) (fun K hK => ?_) AllReadyL.nil
    go_simp
    refine hK.out _ _ (Hkeep.out _ (below_drew1 (Hb9.out.alloc Hb9.out.size _))) (fun hSn_ => ?_)
    clear hK K
    try simp only [Act.put, List.getElem_toArray, List.getElem_cons_zero, List.getElem_cons_succ, List.setIfInBounds_toArray, List.set_cons_zero, List.set_cons_succ]
    refine wpAnyLast_ready (rs := [6]) (by kernel_rfl) (by simp) ?_
    refine AllReadyL.cons rfl (by decide) (fun K hK => ?_) AllReadyL.nil
    rw [show (w9.alloc (.cells #[.int .i64 (m : Int)] 3)).drew = w9.drew.alloc (.cells [Value.int .i64 (m : Int)].toArray 3) from rfl]
    refine Kd.R_append_step (Kd.int .i64) (w0 := w8) w8.heap.size (by kernel_rfl) (.tmp 47) (.tmp 49) 22 3 (.int .i64 0) 8 rfl Try.underlying22 info3 rfl (by decide) (by decide) (.slice A9 ins.length c9) ins (m : Int) [.int .i64 (m : Int)] (fun k => w8.heap.size ≤ k) (fun _ => False) rfl rfl rfl (fun _ h => h.elim) (fun k hk => Nat.le_trans Hb9.out.size hk) (Kd.R_drew Ho9.out) (below_drew1 Hb9.out) Hb9.out.size (by omega) ?_
    intro v10 w10 ho10 hb10 hg10 hat10
    obtain ⟨A10, c10, ev10⟩ := Kd.R_slice ho10
    have hlc10 := (Kd.R_reads' (A := A10) (c := c10) (n := (ins ++ [(m : Int)]).length) (by rw [ev10] at ho10; exact ho10)).2.1
    rw [List.length_append, List.length_singleton] at ev10
    subst ev10
    refine hK.out _ _ (Hkeep.out _ hb10) (fun hSn_ => ?_)
    clear hK K
    try simp only [Act.put, List.getElem_toArray, List.getElem_cons_zero, List.getElem_cons_succ, List.setIfInBounds_toArray, List.set_cons_zero, List.set_cons_succ]
    have Hst10 := Aside0.mk (Hst8.out.step hb10)
    have hsz8 := Hst8.out.sz
    obtain ⟨hdec1, hdec2⟩ := Hd.out.take m hlt hp
    have hgc := Ih (ns ++ [x]) (ins ++ [(m : Int)]) outs (.slice A7 (ns.length + 1) c7) A10 c10 A5 c5 w10 (fun k => (P k ∧ k < w.heap.size) ∨ w8.heap.size ≤ k) (fun k => (okn k ∧ k < w.heap.size) ∨ (w.heap.size + 2 ≤ k ∧ k < w8.heap.size)) (Nat.le_trans hbw Hst10.out.gr.size)
     (Kd.N_mono (Kd.N_below (Kd.N_bound Hst8.out.hN) hb10) (fun k hk => hk.1.elim .inl (fun h => .inr ⟨h, hk.2⟩)))
     Hst10.out.fb (by rw [List.length_append, List.length_singleton]; exact Kd.F_mono (Kd.R_F ho10) (fun k hk => .inr hk)) hlc10 (Kd.F_mono Hst10.out.f5 (fun _ hk => .inl hk)) hc5 Hst8.out.apart hdec1 (by rw [List.length_append, List.length_singleton]; have := Hfu.out; omega) (by rw [List.length_append, List.length_singleton]; have h1 := Hlen.out; have := Nat.two_pow_pos f; rw [Nat.pow_succ] at h1; omega)
    rw [List.length_append, List.length_singleton] at hgc
    have hszb := hb10.size
    have hgl := growP_len (s.L.map cv) s.n f (ns ++ [x]) (ins ++ [(m : Int)]) outs
    rw [List.length_append, List.length_singleton] at hgl
    have hga := growP_at (s.L.map cv) s.n f ns x (ins ++ [(m : Int)]) outs
    have hres : growP (s.L.map cv) s.n (f + 1) ns ins outs = growP (s.L.map cv) s.n f ((growP (s.L.map cv) s.n f (ns ++ [x]) (ins ++ [(m : Int)]) outs).set ns.length ⟨(m : Int), (ns.length : Int) + 1, ((growP (s.L.map cv) s.n f (ns ++ [x]) (ins ++ [(m : Int)]) outs).length : Int), []⟩) ins (outs ++ [(m : Int)]) := by
     rw [hx]
     conv => lhs; unfold growP
     rw [Hfirst.out]
    have Hgc := Aside0.mk hgc
    have Hres := Aside0.mk hres
    have Hdec2 := Aside0.mk hdec2
    clear hgc hres hdec1 hdec2 hlc10 ho10 hg10 hat10 Hfirst Hpos
    generalize growP (s.L.map cv) s.n f (ns ++ [x]) (ins ++ [(m : Int)]) outs = a at *
    refine wpAnyLast_ready (rs := [8]) (by kernel_rfl) (by simp) ?_
    refine AllReadyL.cons rfl (by decide) (fun K hK => ?_) AllReadyL.nil
    go_simp
    refine Hgc.out.mono ?_
    rintro e w11 ⟨v11, rfl, ho11, hg11, hat11⟩
    obtain ⟨A11, c11, ev11⟩ := Kd.N_slice ho11
    subst ev11
    have Hst11 := Aside0.mk (Hst10.out.mv hg11 (Kd.N_mono ho11 (fun k hk => by rcases hk with (hk | hk) | hk; exact .inl hk; exact .inr hk.1; exact .inr (Nat.le_trans hsz8 (Nat.le_trans hszb hk)))) hat11)
    refine hK.out _ _ (by exact ⟨Hst11.out.cells.1, Hst11.out.cells.2.1⟩) (fun hSn_ => ?_)
    clear hK K
    try simp only [Act.put, List.getElem_toArray, List.getElem_cons_zero, List.getElem_cons_succ, List.setIfInBounds_toArray, List.set_cons_zero, List.set_cons_succ]
    clear ho11 hg11 hat11 Hgc Hst10 Hst8 hb10
    obtain ⟨hz0, hz1, hzf0, hzf1⟩ := Hst11.out.cells
    refine wpAnyLast_ready (rs := [9]) (by kernel_rfl) (by simp) ?_
    refine AllReadyL.cons_last rfl (by decide) (fun K hK => ?_) AllReadyL.nil
    go_simp
    refine hK.out _ _ ?_
    clear hK K
    try simp only [Act.put, List.getElem_toArray, List.getElem_cons_zero, List.getElem_cons_succ, List.setIfInBounds_toArray, List.set_cons_zero, List.set_cons_succ]
    refine wpAnyLast_done (by kernel_rfl) ?_ _
    obtain ⟨w12, hw12⟩ : ∃ w12, w12 = (w11.setCell ⟨w.heap.size, 0, none⟩ (.int .i64 s.v)).setCell ⟨w.heap.size, 1, none⟩ (.slice A11 a.length c11) := ⟨_, rfl⟩
    have hst12 : GSt s w okn P (.slice Av ns.length cv_ : Value).ownBlock A4 ins A5 outs w12 (.slice A11 a.length c11) (.slice A11 a.length c11) a := by rw [hw12]; exact Hst11.out.put0.put _
    rw [← hw12]
    have hal : ns.length < a.length := (List.getElem?_eq_some_iff.1 hga).1
    obtain ⟨g11, cc, ev, _, hgl11, cells11, hcells11⟩ := Kd.N_form hst12.hN (by omega)
    injection ev with ev _ ecc
    subst ev
    subst ecc
    obtain ⟨c, hcl, hFKc, hcc, hfr⟩ := Kd.N_elem hst12.hN z34 (ns.length : Int) (by omega) (by omega)
    rw [show a.getD (ns.length : Int).toNat z34 = x by simp [List.getD, hga], hx] at hFKc
    obtain ⟨A2, c2, ec, hl2, hF2⟩ := k34_openF hFKc
    obtain ⟨hN13, hg13⟩ := Kd.N_seg hst12.hN (ns.length : Int) (by omega) (by omega) (c := c) (seg := [.int .i64 (a.length : Int)]) (j := 2) (okp := fun k => ((okn k ∧ k < w.heap.size) ∨ w.heap.size + 2 ≤ k) ∧ k ≠ g11) hcl hcc (by show 2 + 1 ≤ 4; omega) (x' := ⟨(m : Int), (ns.length : Int) + 1, (a.length : Int), []⟩) (by rw [ec]; exact k34_mkF _ _ ⟨(m : Int), (ns.length : Int) + 1, (a.length : Int), []⟩ hl2 hF2) (fun _ hk => hk)
    rw [Int.toNat_natCast] at hcc hfr hN13 hg13
    have hx2 : w12.cell? ⟨g11, ns.length * 4 + 2, none⟩ = some (.int .i64 0) := hcc 2 (.int .i64 0) (by rw [ec]; rfl)
    have hf2 : w12.frozen? ⟨g11, ns.length * 4 + 2, none⟩ = false := hfr 2
    have hst13 : GSt s w okn P (.slice Av ns.length cv_ : Value).ownBlock A4 ins A5 outs (w12.setCell ⟨g11, ns.length * 4 + 2, none⟩ (.int .i64 (a.length : Int))) (.slice (some ⟨g11, 0, none⟩) a.length c11) (.slice (some ⟨g11, 0, none⟩) a.length c11) (a.set ns.length ⟨(m : Int), (ns.length : Int) + 1, (a.length : Int), []⟩) := hst12.mv hg13 hN13 (.inl rfl)
    obtain ⟨hz0, hz1, hzf0, hzf1⟩ := hst12.cells
    have Hst13 := Aside0.mk hst13
    have halI : (ns.length : Int) < (a.length : Int) := by omega
    clear hw12 Hst11 hfr hcc hcl ec hFKc hst12 hst13 hN13 hg13 hF2 hl2 hga hcells11
    go_upto_region 13 with (fail)
    obtain ⟨w13, hw13⟩ : ∃ w13, w13 = w12.setCell ⟨g11, ns.length * 4 + 2, none⟩ (.int .i64 (a.length : Int)) := ⟨_, rfl⟩
    rw [← hw13] at Hst13
    rw [← hw13]
    clear hw13 hx2 hf2 hz0 hz1 hzf0 hzf1
    obtain ⟨b, hb⟩ : ∃ b, b = a.set ns.length (⟨(m : Int), (ns.length : Int) + 1, (a.length : Int), []⟩ : S34) := ⟨_, rfl⟩
    have hbl : b.length = a.length := by rw [hb, List.length_set]
    have Hres2 := Aside0.mk (show growP (s.L.map cv) s.n (f + 1) ns ins outs = growP (s.L.map cv) s.n f b ins (outs ++ [(m : Int)]) from by rw [hb]; exact Hres.out)
    rw [← hb] at Hst13
    clear hb Hres
    have hC5 := Kd.F_now Hst13.out.f5
    go_upto_region 14 with ((with_reducible refine gate_builtin (b := .append) (xs := #[.tmp 61, .tmp 62]) rfl ?_); at_builtin; refine Kd.R_append_row (Value.int .i64) (0 : Int) (h1 := fun _ => rfl) (w0 := w13) w13.heap.size rfl (.tmp 61) (.tmp 62) 22 3 (.int .i64 0) 8 rfl Try.underlying22 info3 rfl (by decide) (.slice none 0 0) [] outs A5 outs.length c5 (fun k => w13.heap.size ≤ k) rfl rfl (fun _ hk => hk) ?aO hC5 ?aB ?aS ?aL ?_; (case aO => exact Kd.R_nil _ _ _ _ _); (case aB => exact Below.refl _ _); (case aS => exact Nat.le_refl _); (case aL => simp only [List.length_nil]; omega); intro v15 w15 ho15 hb15 hg15 hat15)
    rw [List.nil_append] at ho15
    obtain ⟨A15, c15, ev15⟩ := Kd.R_slice ho15
    subst ev15
    have Ho15 := Aside0.mk ho15
    have Hb15 := Aside0.mk hb15
    clear ho15 hb15 hg15 hat15 hC5 Hkeep Hb9 Ho9
    obtain ⟨hz0, hz1, hzf0, hzf1⟩ := (Hst13.out.step Hb15.out).cells
    have hkeep : ∀ w', Below w13.heap.size w13 w' → w'.cell? ⟨w.heap.size, 0, none⟩ = some (.int .i64 s.v) ∧ w'.cell? ⟨w.heap.size, 1, none⟩ = some (.slice (some ⟨g11, 0, none⟩) a.length c11) := fun w' hb => by
     obtain ⟨h0, h1, _⟩ := (Hst13.out.step hb).cells
     exact ⟨h0, h1⟩
    have Hkeep := Aside0.mk hkeep
    clear hkeep hzf0 hzf1
    refine wp_region_last_drew (ds := [9]) (S := fun w' => w'.cell? ⟨w.heap.size, 0, none⟩ = some (.int .i64 s.v) ∧ w'.cell? ⟨w.heap.size, 1, none⟩ = some (.slice (some ⟨g11, 0, none⟩) a.length c11)) (by kernel_rfl) (Hkeep.out w15.drew (below_drew1 Hb15.out)) ?_
    intro hS0
    refine wpAnyLast_take (i := 0) (v := ?_) rfl (by kernel_rfl) (by kernel_rfl) (by kernel_rfl) (by kernel_rfl) (by kernel_rfl) (fun _ _ _ h => h) (Or.inl ⟨by rfl, ?_⟩) (by assumption) ?_
    rotate_left
    ·(intro w_ hSw_; (try dsimp only at hSw_); go_simp; try with_reducible rfl)
    try simp only [Act.put, List.getElem_toArray, List.getElem_cons_zero, List.getElem_cons_succ, List.setIfInBounds_toArray, List.set_cons_zero, List.set_cons_succ]
    refine wpAnyLast_take (i := 1) (v := ?_) rfl (by kernel_rfl) (by kernel_rfl) (by kernel_rfl) (by kernel_rfl) (by kernel_rfl) (fun _ _ _ h => h) (Or.inl ⟨by rfl, ?_⟩) (by assumption) ?_
    rotate_left
    ·(intro w_ hSw_; (try dsimp only at hSw_); go_simp; try with_reducible rfl)
    try simp only [Act.put, List.getElem_toArray, List.getElem_cons_zero, List.getElem_cons_succ, List.setIfInBounds_toArray, List.set_cons_zero, List.set_cons_succ]
    refine wpAnyLast_take (i := 2) (v := ?_) rfl (by kernel_rfl) (by kernel_rfl) (by kernel_rfl) (by kernel_rfl) (by kernel_rfl) (fun _ _ _ h => h) (Or.inl ⟨by rfl, ?_⟩) (by assumption) ?_
    rotate_left
    ·(intro w_ hSw_; (try dsimp only at hSw_); go_simp; try with_reducible rfl)
    try simp only [Act.put, List.getElem_toArray, List.getElem_cons_zero, List.getElem_cons_succ, List.setIfInBounds_toArray, List.set_cons_zero, List.set_cons_succ]
    refine wpAnyLast_take (i := 3) (v := ?_) rfl (by kernel_rfl) (by kernel_rfl) (by kernel_rfl) (by kernel_rfl) (by kernel_rfl) (fun _ _ _ h => h) (Or.inl ⟨by rfl, ?_⟩) (by assumption) ?_
    rotate_left
    ·(intro w_ hSw_; (try dsimp only at hSw_); go_simp; try with_reducible rfl)
    try simp only [Act.put, List.getElem_toArray, List.getElem_cons_zero, List.getElem_cons_succ, List.setIfInBounds_toArray, List.set_cons_zero, List.set_cons_succ]
    refine wpAnyLast_take (i := 4) (v := ?_) rfl (by kernel_rfl) (by kernel_rfl) (by kernel_rfl) (by kernel_rfl) (by kernel_rfl) (fun _ _ _ h => h) (Or.inl ⟨by rfl, ?_⟩) (by assumption) ?_
    rotate_left
    ·(intro w_ hSw_; (try dsimp only at hSw_); go_simp; try with_reducible rfl)
    try simp only [Act.put, List.getElem_toArray, List.getElem_cons_zero, List.getElem_cons_succ, List.setIfInBounds_toArray, List.set_cons_zero, List.set_cons_succ]
    refine wpAnyLast_take (i := 5) (v := ?_) rfl (by kernel_rfl) (by kernel_rfl) (by kernel_rfl) (by kernel_rfl) (by kernel_rfl) (fun _ _ _ h => h) (Or.inl ⟨by rfl, ?_⟩) (by assumption) ?_
    rotate_left
    ·(intro w_ hSw_; (try dsimp only at hSw_); go_simp; try with_reducible rfl)
    try simp only [Act.put, List.getElem_toArray, List.getElem_cons_zero, List.getElem_cons_succ, List.setIfInBounds_toArray, List.set_cons_zero, List.set_cons_succ]
    refine wpAnyLast_ready (rs := [6]) (by kernel_rfl) (by simp) ?_
    refine AllReadyL.cons rfl (by decide) (fun K hK => ?_) AllReadyL.nil
    go_simp
    refine hK.out _ _ (Hkeep.out _ (below_drew1 (Hb15.out.alloc Hb15.out.size _))) (fun hSn_ => ?_)
    clear hK K
    try simp only [Act.put, List.getElem_toArray, List.getElem_cons_zero, List.getElem_cons_succ, List.setIfInBounds_toArray, List.set_cons_zero, List.set_cons_succ]
    refine wpAnyLast_ready (rs := [7]) (by kernel_rfl) (by simp) ?_
    refine AllReadyL.cons rfl (by decide) (fun K hK => ?_) AllReadyL.nil
    rw [show (w15.alloc (.cells #[.int .i64 (m : Int)] 3)).drew = w15.drew.alloc (.cells [Value.int .i64 (m : Int)].toArray 3) from rfl]
    refine Kd.R_append_step (Kd.int .i64) (w0 := w13) w13.heap.size (by kernel_rfl) (.tmp 68) (.tmp 70) 22 3 (.int .i64 0) 8 rfl Try.underlying22 info3 rfl (by decide) (by decide) (.slice A15 outs.length c15) outs (m : Int) [.int .i64 (m : Int)] (fun k => w13.heap.size ≤ k) (fun _ => False) rfl rfl rfl (fun _ h => h.elim) (fun k hk => Nat.le_trans Hb15.out.size hk) (Kd.R_drew Ho15.out) (below_drew1 Hb15.out) Hb15.out.size (by omega) ?_
    intro v16 w16 ho16 hb16 hg16 hat16
    obtain ⟨A16, c16, ev16⟩ := Kd.R_slice ho16
    have hlc16 := (Kd.R_reads' (A := A16) (c := c16) (n := (outs ++ [(m : Int)]).length) (by rw [ev16] at ho16; exact ho16)).2.1
    rw [List.length_append, List.length_singleton] at ev16
    subst ev16
    refine hK.out _ _ (Hkeep.out _ hb16) (fun hSn_ => ?_)
    clear hK K
    try simp only [Act.put, List.getElem_toArray, List.getElem_cons_zero, List.getElem_cons_succ, List.setIfInBounds_toArray, List.set_cons_zero, List.set_cons_succ]
    have Hst16 := Aside0.mk (Hst13.out.step hb16)
    have hsz13 := Hst13.out.sz
    have hgc := Ih b ins (outs ++ [(m : Int)]) (.slice (some ⟨g11, 0, none⟩) a.length c11) A4 c4 A16 c16 w16 (fun k => (P k ∧ k < w.heap.size) ∨ w13.heap.size ≤ k) (fun k => (okn k ∧ k < w.heap.size) ∨ (w.heap.size + 2 ≤ k ∧ k < w13.heap.size)) (Nat.le_trans hbw Hst16.out.gr.size)
     (Kd.N_mono (Kd.N_below (Kd.N_bound Hst13.out.hN) hb16) (fun k hk => hk.1.elim .inl (fun h => .inr ⟨h, hk.2⟩)))
     Hst16.out.fb (Kd.F_mono Hst16.out.f4 (fun _ hk => .inl hk)) hc4 (by rw [List.length_append, List.length_singleton]; exact Kd.F_mono (Kd.R_F ho16) (fun k hk => .inr hk)) hlc16 Hst13.out.apart Hdec2.out (by rw [List.length_append, List.length_singleton]; have := Hfu.out; omega) (by rw [hbl]; have h1 := Hlen.out; have := Nat.two_pow_pos f; rw [Nat.pow_succ] at h1; omega)
    rw [List.length_append, List.length_singleton, ← Hres2.out] at hgc
    have hszb2 := hb16.size
    have Hgc := Aside0.mk hgc
    clear hgc hlc16 ho16 hg16 hat16 Hres2 Hdec2
    obtain ⟨z, hz⟩ : ∃ z, z = growP (s.L.map cv) s.n (f + 1) ns ins outs := ⟨_, rfl⟩
    rw [← hz] at Hgc
    have Hz := Aside0.mk hz
    clear hz
    refine wpAnyLast_ready (rs := [8]) (by kernel_rfl) (by simp) ?_
    refine AllReadyL.cons rfl (by decide) (fun K hK => ?_) AllReadyL.nil
    go_simp
    refine Hgc.out.mono ?_
    rintro e w17 ⟨v17, rfl, ho17, hg17, hat17⟩
    obtain ⟨A17, c17, ev17⟩ := Kd.N_slice ho17
    subst ev17
    have Hst17 := Aside0.mk (Hst16.out.mv hg17 (Kd.N_mono ho17 (fun k hk => by rcases hk with (hk | hk) | hk; exact .inl hk; exact .inr hk.1; exact .inr (Nat.le_trans hsz13 (Nat.le_trans hszb2 hk)))) hat17)
    refine hK.out _ _ (by exact ⟨Hst17.out.cells.1, Hst17.out.cells.2.1⟩) (fun hSn_ => ?_)
    clear hK K
    try simp only [Act.put, List.getElem_toArray, List.getElem_cons_zero, List.getElem_cons_succ, List.setIfInBounds_toArray, List.set_cons_zero, List.set_cons_succ]
    clear ho17 hg17 hat17 Hgc Hst16 Hst13 hb16 Hkeep
    obtain ⟨hy0, hy1, hyf0, hyf1⟩ := Hst17.out.cells10
    refine wpAnyLast_ready (rs := [9]) (by kernel_rfl) (by simp) ?_
    refine AllReadyL.cons_last rfl (by decide) (fun K hK => ?_) AllReadyL.nil
    go_simp
    refine hK.out _ _ ?_
    clear hK K
    try simp only [Act.put, List.getElem_toArray, List.getElem_cons_zero, List.getElem_cons_succ, List.setIfInBounds_toArray, List.set_cons_zero, List.set_cons_succ]
    refine wpAnyLast_done (by kernel_rfl) ?_ _
    obtain ⟨w18, hw18⟩ : ∃ w18, w18 = (w17.setCell ⟨w.heap.size + 1, 0, none⟩ (.int .i64 s.v)).setCell ⟨w.heap.size + 1, 1, none⟩ (.slice A17 z.length c17) := ⟨_, rfl⟩
    have hb18 : w18.heap[w.heap.size + 1]? = some (.cells #[.int .i64 s.v, .slice A17 z.length c17] 30 (0, 0)) := by
     rw [hw18]
     refine blk_put (cs := #[.int .i64 s.v, .slice none 0 0]) ?_ 1 _ rfl
     exact blk_put Hst17.out.b10 0 _ rfl
    have hfin := Hst17.out.fin (.inr ⟨_, _, hw18⟩)
    rw [← hw18]
    have hy0 : w18.cell? ⟨w.heap.size + 1, 0, none⟩ = some (.int .i64 s.v) := (blk_cell hb18 0).trans rfl
    have hy1 : w18.cell? ⟨w.heap.size + 1, 1, none⟩ = some (.slice A17 z.length c17) := (blk_cell hb18 1).trans rfl
    have Hfin := Aside0.mk hfin
    have Hb18 := Aside0.mk hb18
    clear hw18 hb18 hfin Hst17
    go_wp2
    refine bodyPost_ret (results_cell_row rfl _ _ (w.heap.size + 1) 30 #[.int .i64 s.v, .slice A17 z.length c17] (0, 0) _ rfl Hb18.out Try.underlying30 rfl (by kernel_rfl)) rfl ?_
    rw [← Hz.out]
    exact ⟨_, rfl, Hfin.out⟩
  ·obtain rfl : m = s.L.length := by omega
   have hnone : firstPos (s.L.map cv) ins outs = none := firstPos_none (fun j hj => Hno.out j (by rwa [List.length_map] at hj))
   have hres : growP (s.L.map cv) s.n (f + 1) ns ins outs = ns ++ [⟨-1, 0, 0, List.replicate s.n 0⟩] := by
    conv => lhs; unfold growP
    rw [hnone]
   have hn8 := ok.n8
   have hmk := print_make (P := Try.prog) 22 3 .i64 8 Try.underlying22 infoW (by decide) s.n (by omega)
   rw [made_zerosW] at hmk
   obtain ⟨hz0, hz1, hzf0, hzf1⟩ := hstr.cells
   have hkeep : ∀ w', Below wr.heap.size wr w' → w'.cell? ⟨w.heap.size, 1, none⟩ = some (.slice Av ns.length cv_) := fun w' hb => (hstr.step hb).cells.2.1
   have Hkeep := Aside0.mk hkeep
   have Hstr := Aside0.mk hstr
   have Hres := Aside0.mk hres
   clear hkeep hstr hres hnone Hno Hpos Hd Hst
   go_upto_region 15 with (fail)
   refine wp_region_last_drew (ds := [8]) (S := fun w' => w'.cell? ⟨w.heap.size, 1, none⟩ = some (.slice Av ns.length cv_)) (by kernel_rfl) (Hkeep.out wr.drew (below_drew1 (Below.refl _ _))) ?_
   intro hS0
   refine wpAnyLast_take (i := 0) (v := ?_) rfl (by kernel_rfl) (by kernel_rfl) (by kernel_rfl) (by kernel_rfl) (by kernel_rfl) (fun _ _ _ h => h) (Or.inl ⟨by rfl, ?_⟩) (by assumption) ?_
   rotate_left
   ·(intro w_ hSw_; (try dsimp only at hSw_); go_simp; try with_reducible rfl)
   try simp only [Act.put, List.getElem_toArray, List.getElem_cons_zero, List.getElem_cons_succ, List.setIfInBounds_toArray, List.set_cons_zero, List.set_cons_succ]
   refine wpAnyLast_take (i := 1) (v := ?_) rfl (by kernel_rfl) (by kernel_rfl) (by kernel_rfl) (by kernel_rfl) (by kernel_rfl) (fun _ _ _ h => h) (Or.inl ⟨by rfl, ?_⟩) (by assumption) ?_
   rotate_left
   ·(intro w_ hSw_; (try dsimp only at hSw_); go_simp; try with_reducible rfl)
   try simp only [Act.put, List.getElem_toArray, List.getElem_cons_zero, List.getElem_cons_succ, List.setIfInBounds_toArray, List.set_cons_zero, List.set_cons_succ]
   refine wpAnyLast_take (i := 2) (v := ?_) rfl (by kernel_rfl) (by kernel_rfl) (by kernel_rfl) (by kernel_rfl) (by kernel_rfl) (fun _ _ _ h => h) (Or.inl ⟨by rfl, ?_⟩) (by assumption) ?_
   rotate_left
   ·(intro w_ hSw_; (try dsimp only at hSw_); go_simp; try with_reducible rfl)
   try simp only [Act.put, List.getElem_toArray, List.getElem_cons_zero, List.getElem_cons_succ, List.setIfInBounds_toArray, List.set_cons_zero, List.set_cons_succ]
   refine wpAnyLast_ready (rs := [3]) (by kernel_rfl) (by simp) ?_
   refine AllReadyL.cons rfl (by decide) (fun K hK => ?_) AllReadyL.nil
   go_simp
   refine hK.out _ _ (Hkeep.out _ (below_drew1 ((Below.refl _ wr).alloc (Nat.le_refl _) _))) (fun hSn_ => ?_)
   clear hK K
   try simp only [Act.put, List.getElem_toArray, List.getElem_cons_zero, List.getElem_cons_succ, List.setIfInBounds_toArray, List.set_cons_zero, List.set_cons_succ]
   refine wpAnyLast_take (i := 4) (v := ?_) rfl (by kernel_rfl) (by kernel_rfl) (by kernel_rfl) (by kernel_rfl) (by kernel_rfl) (fun _ _ _ h => h) (Or.inl ⟨by rfl, ?_⟩) (by assumption) ?_
   rotate_left
   ·(intro w_ hSw_; (try dsimp only at hSw_); go_simp; try with_reducible rfl)
   try simp only [Act.put, List.getElem_toArray, List.getElem_cons_zero, List.getElem_cons_succ, List.setIfInBounds_toArray, List.set_cons_zero, List.set_cons_succ]
   refine wpAnyLast_ready (rs := [5]) (by kernel_rfl) (by simp) ?_
   refine AllReadyL.cons rfl (by decide) (fun K hK => ?_) AllReadyL.nil
   go_simp
   refine hK.out _ _ (Hkeep.out _ (below_drew1 (((Below.refl _ wr).alloc (Nat.le_refl _) _).alloc (by simp) _))) (fun hSn_ => ?_)
   clear hK K
   try simp only [Act.put, List.getElem_toArray, List.getElem_cons_zero, List.getElem_cons_succ, List.setIfInBounds_toArray, List.set_cons_zero, List.set_cons_succ]
   refine wpAnyLast_ready (rs := [6]) (by kernel_rfl) (by simp) ?_
   refine AllReadyL.cons rfl (by decide) (fun K hK => ?_) AllReadyL.nil
   have hszr := Hstr.out.sz
   have hRz : (Kd.int .i64).R 3 (wr.alloc (.cells (Array.replicate s.n (Value.int .i64 0)) 3)).drew wr.heap.size (fun k => k = wr.heap.size) (.slice (some ⟨wr.heap.size, 0, none⟩) s.n s.n) (List.replicate s.n 0) :=
    Kd.R_drew (Kd.R_of_own (enc := Value.int .i64) (h1 := fun _ => rfl) ⟨by simp [encs], .inr ⟨wr.heap.size, s.n, Array.replicate s.n (Value.int .i64 0), by simp, Nat.le_refl _, heap_alloc_new wr _, by simp, by simp only [maxLen]; omega, by simp, by simp [encs]⟩⟩ (fun k hk => by simp [Value.ownBlock] at hk; omega))
   have hFK : Kd.FK k34 (wr.alloc (.cells (Array.replicate s.n (Value.int .i64 0)) 3)).drew (fun k => k = wr.heap.size) ⟨-1, 0, 0, List.replicate s.n 0⟩ [.int .i64 (-1), .int .i64 0, .int .i64 0, .slice (some ⟨wr.heap.size, 0, none⟩) s.n s.n] := by
    have h := k34_mkF (wr.alloc (.cells (Array.replicate s.n (Value.int .i64 0)) 3)).drew (fun k => k = wr.heap.size) ⟨-1, 0, 0, List.replicate s.n 0⟩ (A3 := some ⟨wr.heap.size, 0, none⟩) (c3 := s.n) (by simp) (by
     have h2 := Kd.R_F hRz
     simpa using h2)
    simpa using h
   have hNr : Kd.N k34 34 (wr.alloc (.cells (Array.replicate s.n (Value.int .i64 0)) 3)).drew s.base (fun k => (okn k ∧ k < w.heap.size) ∨ w.heap.size + 2 ≤ k) (.slice Av ns.length cv_) ns := Kd.N_drew (Kd.N_alloc Hstr.out.hN _)
   have hlt0 := Kd.N_lt Hstr.out.hN
   have hsz1 : (wr.alloc (.cells (Array.replicate s.n (Value.int .i64 0)) 3)).drew.heap.size = wr.heap.size + 1 := World.size_alloc _ _
   rw [show ((wr.alloc (.cells (Array.replicate s.n (Value.int .i64 0)) 3)).alloc (.cells #[.int .i64 (-1), .int .i64 0, .int .i64 0, .slice (some ⟨wr.heap.size, 0, none⟩) s.n s.n] 34)).drew = (wr.alloc (.cells (Array.replicate s.n (Value.int .i64 0)) 3)).drew.alloc (.cells [Value.int .i64 (-1), Value.int .i64 0, Value.int .i64 0, Value.slice (some ⟨wr.heap.size, 0, none⟩) s.n s.n].toArray 34) from rfl]
   refine Kd.N_append_step k34 (w0 := wr) s.base (by kernel_rfl) (.tmp 74) (.tmp 78) 28 34 _ 48 rfl Try.underlying28 info34 rfl (by decide) (by decide) (.slice Av ns.length cv_) ns ⟨-1, 0, 0, List.replicate s.n 0⟩ _ (fun k => (okn k ∧ k < w.heap.size) ∨ w.heap.size + 2 ≤ k) (fun k => k = wr.heap.size) rfl (by rw [hsz1]; rfl) hFK (fun k hk => ⟨.inr (by omega), fun e => by have := hlt0 k e.symm; omega⟩) (fun k hk => .inr (by have : wr.heap.size ≤ k := Nat.le_trans (by simp) hk; omega)) hNr ((below_drew1 ((Below.refl _ wr).alloc (Nat.le_refl _) _)).mono (Nat.le_trans hbw Hstr.out.gr.size)) (Nat.le_trans (Nat.le_trans hbw Hstr.out.gr.size) (by simp)) (by have := Hlen.out; have := Nat.two_pow_pos (f + 1); omega) ?_
   intro v20 w20 ho20 hb20 hg20 hat20
   have hgr : wr.grownBy w20 (.slice Av ns.length cv_ : Value).ownBlock := by
    have hB : Below wr.heap.size wr (wr.alloc (.cells (Array.replicate s.n (Value.int .i64 0)) 3)).drew := below_drew1 ((Below.refl _ wr).alloc (Nat.le_refl _) _)
    have hs1 := hB.size
    exact ⟨hg20.os.trans hB.os, hg20.tape.trans hB.tape, hg20.output.trans hB.output, Nat.le_trans hs1 hg20.size, fun k hk hn => (hg20.block k (by omega) hn).trans (hB.block k hk)⟩
   have Hst20 := Aside0.mk (Hstr.out.mv hgr ho20 (hat20.elim .inl (fun ⟨b, e, hb⟩ => .inr ⟨b, e, Nat.le_trans (by simp) hb⟩)))
   obtain ⟨A20, c20, ev20⟩ := Kd.N_slice ho20
   rw [← Hres.out] at ev20 ho20
   have Hst20 := Aside0.mk (show GSt s w okn P (.slice Av ns.length cv_ : Value).ownBlock A4 ins A5 outs w20 (.slice Av ns.length cv_) v20 (growP (s.L.map cv) s.n (f + 1) ns ins outs) from by rw [Hres.out]; exact Hst20.out)
   obtain ⟨z, hz⟩ : ∃ z, z = growP (s.L.map cv) s.n (f + 1) ns ins outs := ⟨_, rfl⟩
   rw [← hz] at ev20 Hst20
   subst ev20
   have Hz := Aside0.mk hz
   clear hz ho20 hb20 hg20 hat20 hgr hRz hFK hNr hlt0 Hres
   refine hK.out _ _ (Hst20.out.cells.2.1) (fun hSn_ => ?_)
   clear hK K
   try simp only [Act.put, List.getElem_toArray, List.getElem_cons_zero, List.getElem_cons_succ, List.setIfInBounds_toArray, List.set_cons_zero, List.set_cons_succ]
   refine wpAnyLast_take (i := 7) (v := ?_) rfl (by kernel_rfl) (by kernel_rfl) (by kernel_rfl) (by kernel_rfl) (by kernel_rfl) (fun _ _ _ h => h) (Or.inl ⟨by rfl, ?_⟩) (by assumption) ?_
   rotate_left
   ·(intro w_ hSw_; (try dsimp only at hSw_); go_simp; try with_reducible rfl)
   try simp only [Act.put, List.getElem_toArray, List.getElem_cons_zero, List.getElem_cons_succ, List.setIfInBounds_toArray, List.set_cons_zero, List.set_cons_succ]
   obtain ⟨hz0, hz1, hzf0, hzf1⟩ := Hst20.out.cells
   refine wpAnyLast_ready (rs := [8]) (by kernel_rfl) (by simp) ?_
   refine AllReadyL.cons_last rfl (by decide) (fun K hK => ?_) AllReadyL.nil
   go_simp
   refine hK.out _ _ ?_
   clear hK K
   try simp only [Act.put, List.getElem_toArray, List.getElem_cons_zero, List.getElem_cons_succ, List.setIfInBounds_toArray, List.set_cons_zero, List.set_cons_succ]
   refine wpAnyLast_done (by kernel_rfl) ?_ _
   obtain ⟨w21, hw21⟩ : ∃ w21, w21 = w20.setCell ⟨w.heap.size, 1, none⟩ (.slice A20 z.length c20) := ⟨_, rfl⟩
   have Hst21 := Aside0.mk (show GSt s w okn P (.slice Av ns.length cv_ : Value).ownBlock A4 ins A5 outs w21 (.slice A20 z.length c20) (.slice A20 z.length c20) z from by rw [hw21]; exact Hst20.out.put _)
   rw [← hw21]
   clear hw21 Hst20 hz0 hz1 hzf0 hzf1 Hkeep
   obtain ⟨hz0, hz1, hzf0, hzf1⟩ := Hst21.out.cells
   obtain ⟨hy0, hy1, hyf0, hyf1⟩ := Hst21.out.cells10
   go_wp2
   obtain ⟨w22, hw22⟩ : ∃ w22, w22 = (w21.setCell ⟨w.heap.size + 1, 0, none⟩ (.int .i64 s.v)).setCell ⟨w.heap.size + 1, 1, none⟩ (.slice A20 z.length c20) := ⟨_, rfl⟩
   have hb22 : w22.heap[w.heap.size + 1]? = some (.cells #[.int .i64 s.v, .slice A20 z.length c20] 30 (0, 0)) := by
    rw [hw22]
    refine blk_put (cs := #[.int .i64 s.v, .slice none 0 0]) ?_ 1 _ rfl
    exact blk_put Hst21.out.b10 0 _ rfl
   have hfin := Hst21.out.fin (.inr ⟨_, _, hw22⟩)
   rw [← hw22]
   refine bodyPost_ret (results_cell_row rfl _ _ (w.heap.size + 1) 30 #[.int .i64 s.v, .slice A20 z.length c20] (0, 0) _ rfl hb22 Try.underlying30 rfl (by kernel_rfl)) rfl ?_
   rw [← Hz.out]
   exact ⟨_, rfl, hfin⟩
theorem grow_all (s : GCx) (ok : GOk s) : ∀ f, GrowC s f
 | 0 => by
  intro ns ins outs vs A4 c4 A5 c5 w P okn hbw hN hFb hF4 hc4 hF5 hc5 hap hd hfu hlen
  have hdl := dec_len s.L.length (ins ++ outs) (fun k hk => by
   rcases List.mem_append.1 hk with h | h
   ·exact hd.ri k h
   ·exact hd.ro k h) hd.nd
  rw [List.length_append] at hdl
  omega
 | f + 1 => grow_step s ok f (grow_all s ok f)
def fullOk (a0 : Int) (l1 : List S85) : Bool := decide (0 ≤ a0) && decide (a0 ≤ 8) && decide (l1.length ≤ 10) && l1.all fun b => decide (b.f2.length ≤ 9223372036854775807)
def worldmintref29_Full.f (a0 : Int) (l1 : List S85) (a2 : Int) : Option (Int × List S34) := if fullOk a0 l1 then some (a2, growP (l1.map cv) a0.toNat (l1.length + 1) [] [] []) else none
set_option maxHeartbeats 2000000 in
set_option maxRecDepth 100000 in
theorem worldmintref29_Full.calls (a0 : Int) (A1 : Option Addr) (c1 : Nat) (l1 : List S85) (a2 : Int) (r1 : Int) (r2 : List S34) (w : World) (hr1 : Kd.C k85 w A1 l1.length l1) (hc1 : l1.length ≤ c1) (h : worldmintref29_Full.f a0 l1 a2 = some (r1, r2)) :
  Calls Try.prog 14 #[.int .i64 a0, .slice A1 l1.length c1, .int .i64 a2] w fun e w' => ∃ v1_ : Value, e = .returned (.agg #[.int .i64 r1, v1_]) ∧ Kd.N k34 34 w' w.heap.size (fun k_ => w.heap.size ≤ k_) v1_ r2 ∧ Below w.heap.size w w' := by
 unfold worldmintref29_Full.f at h
 by_cases hok : fullOk a0 l1 = true
 case neg => rw [if_neg hok] at h; cases h
 rw [if_pos hok] at h
 obtain ⟨rfl, hr⟩ := Prod.mk.inj (Option.some.inj h)
 unfold fullOk at hok
 simp only [Bool.and_eq_true, decide_eq_true_eq, List.all_eq_true] at hok
 obtain ⟨⟨⟨h0, h8⟩, h10⟩, hf2⟩ := hok
 obtain ⟨n, rfl⟩ := Int.eq_ofNat_of_zero_le h0
 rw [Int.toNat_natCast] at hr
 have ok : GOk ⟨n, a2, A1, c1, l1, w⟩ := ⟨by show n ≤ 8; omega, h10, hf2, hc1, hr1⟩
 obtain ⟨W2, hW2⟩ : ∃ W2, W2 = ((w.alloc (.cells #[.int .i64 0, .slice none 0 0] 30)).alloc (.cells #[.int .i64 a2, .slice none 0 0] 30)) := ⟨_, rfl⟩
 have hB2 : Below w.heap.size w W2 := by rw [hW2]; exact ((Below.refl _ w).alloc (Nat.le_refl _) _).alloc (by simp) _
 have hsz2 : W2.heap.size = w.heap.size + 2 := by rw [hW2]; simp
 have hb6 : W2.heap[w.heap.size]? = some (.cells #[.int .i64 0, .slice none 0 0] 30 (0, 0)) := by
  rw [hW2]
  exact (Below.heap_alloc _ _ _ (by simp)).trans (heap_alloc_new w _)
 have hb7 : W2.heap[w.heap.size + 1]? = some (.cells #[.int .i64 a2, .slice none 0 0] 30 (0, 0)) := by
  have h_ := heap_alloc_new (w.alloc (.cells #[.int .i64 0, .slice none 0 0] 30)) (.cells #[.int .i64 a2, .slice none 0 0] 30)
  rw [World.size_alloc] at h_
  rw [hW2]
  exact h_
 have hp2 : 2 ^ (l1.length + 1) ≤ 2 ^ 11 := Nat.pow_le_pow_right (by omega) (by omega)
 have hcall := grow_all ⟨n, a2, A1, c1, l1, w⟩ ok (l1.length + 1) [] [] [] (.slice none 0 0) none 0 none 0 W2 (fun _ => False) (fun k => W2.heap.size ≤ k) hB2.size (Kd.N_nil _ _ _ _ _) hB2 (Kd.F_nil _ _ _) (Nat.le_refl _) (Kd.F_nil _ _ _) (Nat.le_refl _) (fun _ h => h.elim) ⟨by simp, by simp, by simp⟩ (by show l1.length < 0 + 0 + (l1.length + 1); omega) (by show 0 + 2 ^ (l1.length + 1) ≤ 100000; omega)
 have hcall2 : Calls Try.prog 46 #[.int .i64 (n : Int), .slice A1 l1.length c1, .agg #[.int .i64 a2, .slice none 0 0], .slice none 0 0, .slice none 0 0] W2
   (fun e w' => ∃ vs', e = .returned (.agg #[.int .i64 a2, vs']) ∧ Kd.N k34 34 w' w.heap.size (fun k => W2.heap.size ≤ k ∨ W2.heap.size ≤ k) vs' r2 ∧ W2.grownBy w' (Value.slice none 0 0).ownBlock ∧ (vs'.ownBlock = (Value.slice none 0 0).ownBlock ∨ ∃ b, vs'.ownBlock = some b ∧ W2.heap.size ≤ b)) := by
  rw [← hr]; exact hcall
 have Hcall := Aside0.mk hcall2
 have HB2 := Aside0.mk hB2
 have hz0 : W2.cell? ⟨w.heap.size + 1, 0, none⟩ = some (.int .i64 a2) := (blk_cell hb7 0).trans rfl
 have hz1 : W2.cell? ⟨w.heap.size + 1, 1, none⟩ = some (.slice none 0 0) := (blk_cell hb7 1).trans rfl
 have Hb6 := Aside0.mk hb6
 clear hcall hcall2 hB2 hb6 hb7 ok hp2 hr hf2
 go_enter Try.func14, Try.ntmps14
 go_upto_region 2 with (fail)
 rw [← hW2]
 clear hW2
 go_wp2_with fail
 refine Hcall.out.mono ?_
 rintro e w3 ⟨v3, rfl, ho3, hg3, _⟩
 have hB3 : Below W2.heap.size W2 w3 := ⟨hg3.os, hg3.tape, hg3.output, hg3.size, fun k hk => hg3.block k hk (by simp [Value.ownBlock])⟩
 have hb6 := (hB3.block _ (by omega)).trans Hb6.out
 have hy0 : w3.cell? ⟨w.heap.size, 0, none⟩ = some (.int .i64 0) := (blk_cell hb6 0).trans rfl
 have hy1 : w3.cell? ⟨w.heap.size, 1, none⟩ = some (.slice none 0 0) := (blk_cell hb6 1).trans rfl
 have hyf0 := blk_frozen hb6 0
 have hyf1 := blk_frozen hb6 1
 obtain ⟨A3, c3, ev3⟩ := Kd.N_slice ho3
 subst ev3
 have HB3 := Aside0.mk (HB2.out.trans (hB3.mono HB2.out.size))
 have Hb6' := Aside0.mk hb6
 have HN3 := Aside0.mk ho3
 clear ho3 hg3 hB3 hb6 Hcall Hb6
 go_wp2
 have hne : ∀ k, W2.heap.size ≤ k ∨ W2.heap.size ≤ k → k ≠ w.heap.size := fun k hk => by omega
 refine bodyPost_ret (results_cell_row rfl _ _ w.heap.size 30 #[.int .i64 a2, .slice A3 r2.length c3] (0, 0) _ rfl (by
  refine blk_put (cs := #[.int .i64 a2, .slice none 0 0]) ?_ 1 _ rfl
  exact blk_put Hb6'.out 0 _ rfl) Try.underlying30 rfl (by kernel_rfl)) rfl ?_
 exact ⟨_, rfl, Kd.N_mono (Kd.N_far (p := ⟨w.heap.size, 1, none⟩) (Kd.N_far (p := ⟨w.heap.size, 0, none⟩) HN3.out hne _) hne _) (fun k hk => by omega), (HB3.out.setCell (p := ⟨w.heap.size, 0, none⟩) (Nat.le_refl _) _).setCell (p := ⟨w.heap.size, 1, none⟩) (Nat.le_refl _) _⟩
end Go.Proofs.Ytdamibblnjeooaa.H

/- The example of chapter 29, walked by hand. -/
namespace Go.Proofs.Ytdamibblnjeooaa.H
open Go.RowKit Go.Proofs.YtdamibblnjeooaaW.PrintWords Go.Proofs.YtdamibblnjeooaaW.PrintLast Go.Proofs.YtdamibblnjeooaaW.PrintMore
set_option linter.unusedVariables false
set_option linter.unusedSimpArgs false
def worldmintlaw29_lives.f : Option Bool := some true
def livesB : List S82 := [⟨1, 6, [0, 1]⟩, ⟨2, 4, [0]⟩, ⟨3, 4, [1]⟩]
def alls (w : World) (os : List Obj) : World := os.foldl (fun w o => w.alloc o) w
theorem alls_size : ∀ (os : List Obj) (w : World), (alls w os).heap.size = w.heap.size + os.length
 | [], _ => rfl
 | o :: os, w => by
  have h := alls_size os (w.alloc o)
  rw [World.size_alloc] at h
  show (alls (w.alloc o) os).heap.size = _
  rw [h, List.length_cons]; omega
theorem alls_below : ∀ (os : List Obj) (w : World), Below w.heap.size w (alls w os)
 | [], w => Below.refl _ w
 | o :: os, w => by
  have h := alls_below os (w.alloc o)
  exact ((Below.refl _ w).alloc (Nat.le_refl _) o).trans (h.mono (by rw [World.size_alloc]; omega))
theorem alls_at : ∀ (os : List Obj) (w : World) (k : Nat) (o : Obj), os[k]? = some o → (alls w os).heap[w.heap.size + k]? = some o
 | [], _, _, _, h => by simp at h
 | x :: os, w, 0, o, h => by
  simp only [List.getElem?_cons_zero, Option.some.injEq] at h
  subst h
  have hb := alls_below os (w.alloc x)
  exact (hb.block _ (by rw [World.size_alloc]; omega)).trans (heap_alloc_new w x)
 | x :: os, w, k + 1, o, h => by
  simp only [List.getElem?_cons_succ] at h
  have h2 := alls_at os (w.alloc x) k o h
  rw [World.size_alloc] at h2
  rw [show w.heap.size + (k + 1) = w.heap.size + 1 + k by omega]
  exact h2
theorem C_lit {α : Type} (d : Kd α) {W : World} {b : Nat} {inner : List Value} {t : TypeId} {xs : List α} (h : W.heap[b]? = some (.cells inner.toArray t (0, 0))) (hr : Reps (d.K W) d.sz xs inner) (hn : xs.length ≤ 1000000) : d.C W (some ⟨b, 0, none⟩) xs.length xs := by
 refine ⟨rfl, by omega, fun _ => ⟨_, rfl, fun j p hj => ?_⟩⟩
 have hjl := (List.getElem?_eq_some_iff.1 hj).1
 refine ⟨(inner.drop (j * d.sz)).take d.sz, ?_, hr.2 j p hj, fun i u hi => ?_⟩
 ·rw [List.length_take, List.length_drop, hr.1]
  have : (j + 1) * d.sz ≤ xs.length * d.sz := Nat.mul_le_mul_right _ hjl
  rw [Nat.add_mul, Nat.one_mul] at this
  omega
 ·rw [show (⟨b, 0, none⟩ : Addr).add (j * d.sz + i) = ⟨b, j * d.sz + i, none⟩ by unfold Addr.add; split <;> simp_all]
  refine (blk_cell h _).trans ?_
  have hil : i < d.sz := by
   have := (List.getElem?_eq_some_iff.1 hi).1
   rw [List.length_take] at this
   omega
  rw [List.getElem?_take, if_pos hil, List.getElem?_drop] at hi
  rw [List.getElem?_toArray]
  exact hi
set_option maxHeartbeats 2000000 in
set_option maxRecDepth 100000 in
theorem worldmintlaw29_lives.calls (r : Bool) (w : World) (h : worldmintlaw29_lives.f = some r) : Calls Try.prog 22 #[] w fun e w' => e = .returned (.bool r) ∧ Below w.heap.size w w' := by
 obtain rfl := Option.some.inj h
 obtain ⟨n, hn⟩ : ∃ n, n = w.heap.size := ⟨_, rfl⟩
 obtain ⟨os, hos⟩ : ∃ os : List Obj, os = [.cells #[.int .i64 0, .int .i64 1] 3, .cells #[.int .i64 0] 3, .cells #[.int .i64 1] 3,
  .cells #[.int .i64 1, .int .i64 6, .slice (some ⟨n, 0, none⟩) 2 2, .int .i64 2, .int .i64 4, .slice (some ⟨n + 1, 0, none⟩) 1 1, .int .i64 3, .int .i64 4, .slice (some ⟨n + 2, 0, none⟩) 1 1] 82,
  .cells #[.int .i64 3, .int .i64 3] 3, .cells #[.int .i64 (-1), .int .i64 0, .int .i64 0, .slice (some ⟨n + 4, 0, none⟩) 2 2] 55, .cells #[.int .i64 8, .slice (some ⟨n + 5, 0, none⟩) 1 1] 44,
  .cells #[.int .i64 0, .int .i64 0] 3, .cells #[.int .i64 (-1), .int .i64 0, .int .i64 0, .slice (some ⟨n + 7, 0, none⟩) 2 2] 55, .cells #[.int .i64 8, .slice (some ⟨n + 8, 0, none⟩) 1 1] 44] := ⟨_, rfl⟩
 obtain ⟨W, hW⟩ : ∃ W, W = alls w os := ⟨_, rfl⟩
 have hB : Below n w W := by rw [hW, hn]; exact alls_below os w
 have hat : ∀ k o, os[k]? = some o → W.heap[n + k]? = some o := fun k o h => by rw [hW, hn]; exact alls_at os w k o h
 have hsz : W.heap.size = n + 10 := by rw [hW, alls_size, hn, hos]; rfl
 have h0 : Kd.C (Kd.int .i64) W (some ⟨n, 0, none⟩) 2 [0, 1] := C_blk (xs := [0, 1]) (hat 0 _ (by rw [hos]; rfl)) (by decide)
 have h1 : Kd.C (Kd.int .i64) W (some ⟨n + 1, 0, none⟩) 1 [0] := C_blk (xs := [0]) (hat 1 _ (by rw [hos]; rfl)) (by decide)
 have h2 : Kd.C (Kd.int .i64) W (some ⟨n + 2, 0, none⟩) 1 [1] := C_blk (xs := [1]) (hat 2 _ (by rw [hos]; rfl)) (by decide)
 have h4 : Kd.C (Kd.int .i64) W (some ⟨n + 4, 0, none⟩) 2 [3, 3] := C_blk (xs := [3, 3]) (hat 4 _ (by rw [hos]; rfl)) (by decide)
 have h7 : Kd.C (Kd.int .i64) W (some ⟨n + 7, 0, none⟩) 2 [0, 0] := C_blk (xs := [0, 0]) (hat 7 _ (by rw [hos]; rfl)) (by decide)
 have hb : Kd.C k82 W (some ⟨n + 3, 0, none⟩) 3 livesB := C_lit k82 (xs := livesB) (inner := [.int .i64 1, .int .i64 6, .slice (some ⟨n, 0, none⟩) 2 2, .int .i64 2, .int .i64 4, .slice (some ⟨n + 1, 0, none⟩) 1 1, .int .i64 3, .int .i64 4, .slice (some ⟨n + 2, 0, none⟩) 1 1]) (hat 3 _ (by rw [hos]; rfl))
  (Reps.c3 (k82_mk W ⟨1, 6, [0, 1]⟩ (Nat.le_refl _) h0) (Reps.c3 (k82_mk W ⟨2, 4, [0]⟩ (Nat.le_refl _) h1) (Reps.c3 (k82_mk W ⟨3, 4, [1]⟩ (Nat.le_refl _) h2) (Reps.none _ _)))) (by decide)
 have hp : Kd.C k55 W (some ⟨n + 5, 0, none⟩) 1 [⟨-1, 0, 0, [3, 3]⟩] := C_lit k55 (xs := [⟨-1, 0, 0, [3, 3]⟩]) (inner := [.int .i64 (-1), .int .i64 0, .int .i64 0, .slice (some ⟨n + 4, 0, none⟩) 2 2]) (hat 5 _ (by rw [hos]; rfl)) (Reps.c4 (k55_mk W ⟨-1, 0, 0, [3, 3]⟩ (Nat.le_refl _) h4) (Reps.none _ _)) (by decide)
 have hq : Kd.C k55 W (some ⟨n + 8, 0, none⟩) 1 [⟨-1, 0, 0, [0, 0]⟩] := C_lit k55 (xs := [⟨-1, 0, 0, [0, 0]⟩]) (inner := [.int .i64 (-1), .int .i64 0, .int .i64 0, .slice (some ⟨n + 7, 0, none⟩) 2 2]) (hat 8 _ (by rw [hos]; rfl)) (Reps.c4 (k55_mk W ⟨-1, 0, 0, [0, 0]⟩ (Nat.le_refl _) h7) (Reps.none _ _)) (by decide)
 have hb6 := hat 6 _ (show os[6]? = _ by rw [hos]; rfl)
 have hb9 := hat 9 _ (show os[9]? = _ by rw [hos]; rfl)
 have hcells : ∀ W', Below W.heap.size W W' → W'.cell? ⟨n + 6, 0, none⟩ = some (.int .i64 8) ∧ W'.cell? ⟨n + 6, 1, none⟩ = some (.slice (some ⟨n + 5, 0, none⟩) 1 1) ∧ W'.cell? ⟨n + 9, 0, none⟩ = some (.int .i64 8) ∧ W'.cell? ⟨n + 9, 1, none⟩ = some (.slice (some ⟨n + 8, 0, none⟩) 1 1) := fun W' hW' => by
  have g6 := (hW'.block _ (by omega)).trans hb6
  have g9 := (hW'.block _ (by omega)).trans hb9
  exact ⟨(blk_cell g6 0).trans rfl, (blk_cell g6 1).trans rfl, (blk_cell g9 0).trans rfl, (blk_cell g9 1).trans rfl⟩
 have hcall : ∀ (V : World), Below W.heap.size W V → ∀ (a b : Int) (P : S55) (x : Nat), Kd.C k55 W (some ⟨x, 0, none⟩) 1 [P] → ∀ z : Int, checkP 2 livesB [a, b] 8 [P] = z →
   Calls Try.prog 18 #[.int .i64 2, .slice (some ⟨n + 3, 0, none⟩) 3 3, .slice (some ⟨V.heap.size, 0, none⟩) 2 2, .agg #[.int .i64 8, .slice (some ⟨x, 0, none⟩) 1 1]] (V.alloc (.cells #[.int .i64 a, .int .i64 b] 3)) fun e w' => e = .returned (.int .i64 z) ∧ Below (V.alloc (.cells #[.int .i64 a, .int .i64 b] 3)).heap.size (V.alloc (.cells #[.int .i64 a, .int .i64 b] 3)) w' := fun V hV a b P x hP z hz =>
  proof_Check.calls 2 (some ⟨n + 3, 0, none⟩) 3 livesB (some ⟨V.heap.size, 0, none⟩) 2 [a, b] 8 (some ⟨x, 0, none⟩) 1 [P] z (V.alloc (.cells #[.int .i64 a, .int .i64 b] 3)) (Kd.C_alloc (Kd.C_below hb hV) _) (Nat.le_refl _) (C_blk (xs := [a, b]) (heap_alloc_new V _) (by show 2 ≤ _; omega)) (Nat.le_refl _) (Kd.C_alloc (Kd.C_below hP hV) _) (Nat.le_refl _) (by unfold proof_Check.f; rw [hz])
 have Hcall := Aside0.mk hcall
 have Hcells := Aside0.mk hcells
 have HB := Aside0.mk hB
 have Hp := Aside0.mk hp
 have Hq := Aside0.mk hq
 clear h0 h1 h2 h4 h7 hb hb6 hb9 hcells hcall hat hB hp hq
 go_enter Try.func22, Try.ntmps22
 go_upto_region 4 with (fail)
 generalize hX : World.alloc _ _ = X
 have hXW : X = W := by rw [← hX, hW, hos, hn]; rfl
 subst hXW
 rw [← hn]
 simp only [Nat.add_assoc, Nat.reduceAdd]
 have Hn := Aside0.mk hn
 clear hn hsz hX hW hos
 obtain ⟨z0, z1, _⟩ := Hcells.out X (Below.refl _ _)
 have hal : ∀ (o : Obj) (V : World), Below X.heap.size X V → Below X.heap.size X (V.alloc o) := fun o V hV => hV.alloc hV.size o
 have c1 := Hcall.out X (Below.refl _ _) 1 2 ⟨-1, 0, 0, [3, 3]⟩ (n + 5) Hp.out 0 (by kernel_rfl)
 obtain ⟨y0, y1, _⟩ := Hcells.out (X.alloc (.cells #[.int .i64 1, .int .i64 2] 3)) (hal _ _ (Below.refl _ _))
 have C1 := Aside0.mk c1
 clear c1
 go_wp2_with fail
 refine C1.out.mono ?_
 rintro e w1 ⟨rfl, hb1⟩
 have hB1 : Below X.heap.size X w1 := (hal _ _ (Below.refl _ _)).trans (hb1.mono (by rw [World.size_alloc]; omega))
 have c2 := Hcall.out w1 hB1 1 2 ⟨-1, 0, 0, [0, 0]⟩ (n + 8) Hq.out 20 (by kernel_rfl)
 have C2 := Aside0.mk c2
 clear y0 y1 c2 hb1 z0 z1 C1
 obtain ⟨_, _, y0, y1⟩ := Hcells.out (w1.alloc (.cells #[.int .i64 1, .int .i64 2] 3)) (hal _ _ hB1)
 go_wp2_with fail
 refine C2.out.mono ?_
 rintro e w2 ⟨rfl, hb2⟩
 have hB2 : Below X.heap.size X w2 := (hal _ _ hB1).trans (hb2.mono (by rw [World.size_alloc]; have := hB1.size; omega))
 have c3 := Hcall.out w2 hB2 0 1 ⟨-1, 0, 0, [3, 3]⟩ (n + 5) Hp.out 1 (by kernel_rfl)
 have C3 := Aside0.mk c3
 clear y0 y1 c3 hb2 hB1 C2
 obtain ⟨y0, y1, _⟩ := Hcells.out (w2.alloc (.cells #[.int .i64 0, .int .i64 1] 3)) (hal _ _ hB2)
 go_wp2_with fail
 refine C3.out.mono ?_
 rintro e w3 ⟨rfl, hb3⟩
 have hB3 : Below X.heap.size X w3 := (hal _ _ hB2).trans (hb3.mono (by rw [World.size_alloc]; have := hB2.size; omega))
 clear y0 y1 hb3 hB2 C3
 obtain ⟨y0, y1, _⟩ := Hcells.out w3 hB3
 have c4 := proof_Size.calls 8 (some ⟨n + 5, 0, none⟩) 1 [⟨-1, 0, 0, [3, 3]⟩] 1 w3 (Kd.C_below Hp.out hB3) (Nat.le_refl _) rfl
 have C4 := Aside0.mk c4
 clear c4
 go_wp2_with fail
 refine C4.out.mono ?_
 rintro e w4 ⟨rfl, hd4⟩
 have hB4 := hd4
 have hnX : n ≤ X.heap.size := by rw [Hn.out]; exact HB.out.size
 have hfin : Below w.heap.size w w4 := by
  rw [← Hn.out]
  exact HB.out.trans ((hB3.mono hnX).trans (hB4.mono (Nat.le_trans hnX hB3.size)))
 clear hd4 hB4 C4 hB3 y0 y1
 go_wp2
 go_ret
 exact ⟨rfl, hfin⟩
end Go.Proofs.Ytdamibblnjeooaa.H

/- ProofChecks' law function: what it computes where all answers agree, and that its calls compute it (walked by hand). -/
namespace Go.Proofs.Ytdamibblnjeooaa.H
open Go.RowKit Go.Proofs.YtdamibblnjeooaaW.PrintWords Go.Proofs.YtdamibblnjeooaaW.PrintLast Go.Proofs.YtdamibblnjeooaaW.PrintMore
set_option linter.unusedVariables false
set_option linter.unusedSimpArgs false
def leafN (ps : List Int) : S34 := ⟨-1, 0, 0, ps⟩
def agreeP (k : Nat) (t : Int) (L : List S85) (win : List Int) (g : List S82) (p : Int × List S34) : Bool :=
 match worldmintlaw29_certificate.f k p.1 p.2, worldmintref29_Check.f k t L win p.1 p.2 with
 | some c, some e => decide (checkP t g win c.1 c.2 = e)
 | _, _ => false
theorem agreeP_get {k : Nat} {t : Int} {L : List S85} {win : List Int} {g : List S82} {p : Int × List S34} (h : agreeP k t L win g p = true) :
  ∃ cv cs, worldmintlaw29_certificate.f k p.1 p.2 = some (cv, cs) ∧ worldmintref29_Check.f k t L win p.1 p.2 = some (checkP t g win cv cs) := by
 unfold agreeP at h
 cases hc : worldmintlaw29_certificate.f k p.1 p.2 with
 | none => rw [hc] at h; cases h
 | some c =>
  cases he : worldmintref29_Check.f k t L win p.1 p.2 with
  | none => rw [hc, he] at h; cases h
  | some e =>
   rw [hc, he] at h
   have h := of_decide_eq_true h
   exact ⟨c.1, c.2, rfl, by rw [h]⟩
def worldmintlaw29_ProofChecks.f (k : Nat) (a0 : Int) (l1 l2 : List Int) (a3 a4 a5 a6 : Int) : Option Bool :=
 (worldmintref27_Lots.f a0).bind fun t => (worldmintref27_Bids.f k t l1 6).bind fun L => (worldmintref29_Win.f k t L a3).bind fun win => (worldmintref27_Value.f k L win).bind fun v => (worldmintref29_Full.f t L v).bind fun fl =>
  (worldmintref28_Lots.f k t l2).bind fun ps => (worldmintref01_Around.f a6 12).bind fun r => (worldmintref29_Spoilt.f fl.1 fl.2 a4 a5 (r - 2)).bind fun one => (worldmintref29_Spoilt.f one.1 one.2 (IntKind.i64.wrap (Int.tdiv a4 7)) (IntKind.i64.wrap (Int.tdiv a5 7)) a6).bind fun two =>
   (worldmintref29_Spoilt.f v [leafN ps] a4 a5 a6).bind fun three => (worldmintlaw29_given.f k L).bind fun g =>
    if 0 ≤ r ∧ r < 12 ∧ [fl, (v, [leafN ps]), one, two, three, (v, [])].all (agreeP k t L win g) = true then some true else none
/-- The rows and boxes that the law has made. -/
structure CE (L : List S85) (Ab : Option Addr) (cb : Nat) (win : List Int) (Aw : Option Addr) (v : Int) (fl : Int × List S34) (An : Option Addr) (cn : Nat) (lf : S34) (Al : Option Addr) (cl : Nat) (g19 g20 : Nat) (X : World) : Prop where
 hL : Kd.V k85 85 X 0 (fun _ => True) (.slice Ab L.length cb) L
 hw : Kd.C (Kd.int .i64) X Aw win.length win
 hn : Kd.V k34 34 X 0 (fun _ => True) (.slice An fl.2.length cn) fl.2
 hl : Kd.V k34 34 X 0 (fun _ => True) (.slice Al [lf].length cl) [lf]
 b19 : X.heap[g19]? = some (.cells #[.int .i64 fl.1, .slice An fl.2.length cn] 30 (0, 0))
 b20 : X.heap[g20]? = some (.cells #[.int .i64 v, .slice Al [lf].length cl] 30 (0, 0))
theorem CE.step {L : List S85} {Ab : Option Addr} {cb : Nat} {win : List Int} {Aw : Option Addr} {v : Int} {fl : Int × List S34} {An : Option Addr} {cn : Nat} {lf : S34} {Al : Option Addr} {cl g19 g20 : Nat} {X X1 : World} (h : CE L Ab cb win Aw v fl An cn lf Al cl g19 g20 X) (hb : Below X.heap.size X X1) : CE L Ab cb win Aw v fl An cn lf Al cl g19 g20 X1 :=
 ⟨Kd.V_below h.hL hb, Kd.C_below h.hw hb, Kd.V_below h.hn hb, Kd.V_below h.hl hb, blk_below h.b19 hb, blk_below h.b20 hb⟩
theorem CE.cells {L : List S85} {Ab : Option Addr} {cb : Nat} {win : List Int} {Aw : Option Addr} {v : Int} {fl : Int × List S34} {An : Option Addr} {cn : Nat} {lf : S34} {Al : Option Addr} {cl g19 g20 : Nat} {X : World} (h : CE L Ab cb win Aw v fl An cn lf Al cl g19 g20 X) :
  X.cell? ⟨g19, 0, none⟩ = some (.int .i64 fl.1) ∧ X.cell? ⟨g19, 1, none⟩ = some (.slice An fl.2.length cn) ∧ X.cell? ⟨g20, 0, none⟩ = some (.int .i64 v) ∧ X.cell? ⟨g20, 1, none⟩ = some (.slice Al 1 cl) :=
 ⟨(blk_cell h.b19 0).trans rfl, (blk_cell h.b19 1).trans rfl, (blk_cell h.b20 0).trans rfl, (blk_cell h.b20 1).trans rfl⟩
set_option maxHeartbeats 8000000 in
set_option maxRecDepth 100000 in
theorem worldmintlaw29_ProofChecks.calls (k : Nat) (a0 : Int) (A1 : Option Addr) (c1 : Nat) (l1 : List Int) (A2 : Option Addr) (c2 : Nat) (l2 : List Int) (a3 a4 a5 a6 : Int) (r : Bool) (w : World) (hr1 : Kd.C (Kd.int .i64) w A1 l1.length l1) (hc1 : l1.length ≤ c1) (hr2 : Kd.C (Kd.int .i64) w A2 l2.length l2) (hc2 : l2.length ≤ c2) (h : worldmintlaw29_ProofChecks.f k a0 l1 l2 a3 a4 a5 a6 = some r) :
  Calls Try.prog 3 #[.int .i64 a0, .slice A1 l1.length c1, .slice A2 l2.length c2, .int .i64 a3, .int .i64 a4, .int .i64 a5, .int .i64 a6] w fun e w' => e = .returned (.bool r) ∧ Below w.heap.size w w' := by
 unfold worldmintlaw29_ProofChecks.f at h
 obtain ⟨t, h1, h⟩ := Option.bind_eq_some_iff.mp h
 obtain ⟨L, h2, h⟩ := Option.bind_eq_some_iff.mp h
 obtain ⟨win, h3, h⟩ := Option.bind_eq_some_iff.mp h
 obtain ⟨v, h4, h⟩ := Option.bind_eq_some_iff.mp h
 obtain ⟨fl, h5, h⟩ := Option.bind_eq_some_iff.mp h
 obtain ⟨ps, h6, h⟩ := Option.bind_eq_some_iff.mp h
 obtain ⟨q, h7, h⟩ := Option.bind_eq_some_iff.mp h
 obtain ⟨one, h8, h⟩ := Option.bind_eq_some_iff.mp h
 obtain ⟨two, h9, h⟩ := Option.bind_eq_some_iff.mp h
 obtain ⟨three, h10, h⟩ := Option.bind_eq_some_iff.mp h
 obtain ⟨g, h11, h⟩ := Option.bind_eq_some_iff.mp h
 by_cases hg : 0 ≤ q ∧ q < 12 ∧ [fl, (v, [leafN ps]), one, two, three, (v, [])].all (agreeP k t L win g) = true
 case neg => rw [if_neg hg] at h; cases h
 rw [if_pos hg] at h
 obtain rfl := Option.some.inj h
 obtain ⟨k1, k2, k3⟩ := hg
 have H1 := Aside0.mk h1
 have H2 := Aside0.mk h2
 have H3 := Aside0.mk h3
 have H4 := Aside0.mk h4
 have H5 := Aside0.mk h5
 have H6 := Aside0.mk h6
 have H7 := Aside0.mk h7
 have H8 := Aside0.mk h8
 have H9 := Aside0.mk h9
 have H10 := Aside0.mk h10
 have H11 := Aside0.mk h11
 have K3 := Aside0.mk k3
 have Hr1 := Aside0.mk hr1
 have Hr2 := Aside0.mk hr2
 clear h1 h2 h3 h4 h5 h6 h7 h8 h9 h10 h11 k3 hr1 hr2 h
 go_enter Try.func3, Try.ntmps3
 go_wp2_with fail
 refine (worldmintref27_Lots.calls a0 t _ H1.out).mono ?_
 rintro e w1 ⟨rfl, hd1⟩
 have hb1 := hd1.below
 clear hd1
 go_wp2_with fail
 refine (worldmintref27_Bids.calls k t _ _ l1 6 L _ (Kd.C_below Hr1.out hb1) hc1 H2.out).mono ?_
 rintro e w2 ⟨vb, rfl, ho2, hb2⟩
 have hB2 := hb1.trans (hb2.mono hb1.size)
 obtain ⟨Ab, cb, eb⟩ := Kd.S_slice ho2
 subst eb
 have V2 := Aside0.mk (Kd.S_V (base' := 0) ho2)
 have hcb := (Kd.S_reads' ho2).2.1
 have M2 := Aside0.mk (Kd.C_below Hr2.out hB2)
 have HB2 := Aside0.mk hB2
 clear ho2 hb1 hb2 hB2 Hr1 Hr2
 go_wp2_with fail
 refine (worldmintref29_Win.calls k t Ab cb L a3 win w2 (Kd.V_reads' V2.out).2.2 hcb H3.out).mono ?_
 rintro e w3 ⟨vw, rfl, ho3, hb3⟩
 obtain ⟨Aw, cw, ew⟩ := Kd.R_slice ho3
 subst ew
 have hcw := (Kd.R_reads' ho3).2.1
 have W3 := Aside0.mk (Kd.R_reads' ho3).2.2
 have V3 := Aside0.mk (Kd.V_below V2.out hb3)
 have M3 := Aside0.mk (Kd.C_below M2.out hb3)
 have HB3 := Aside0.mk (HB2.out.trans (hb3.mono HB2.out.size))
 clear ho3 hb3 V2 M2 HB2
 go_wp2_with fail
 refine (worldmintref27_Value.calls k Ab cb L Aw cw win v w3 (Kd.V_reads' V3.out).2.2 hcb W3.out hcw H4.out).mono ?_
 rintro e w4 ⟨rfl, hd4⟩
 have V4 := Aside0.mk (Kd.V_below V3.out hd4.below)
 have M4 := Aside0.mk (Kd.C_below M3.out hd4.below)
 have W4 := Aside0.mk (Kd.C_below W3.out hd4.below)
 have HB4 := Aside0.mk (HB3.out.trans (hd4.below.mono HB3.out.size))
 clear hd4 V3 M3 W3 HB3
 go_wp2_with fail
 refine (worldmintref29_Full.calls t Ab cb L v fl.1 fl.2 w4 (Kd.V_reads' V4.out).2.2 hcb H5.out).mono ?_
 rintro e w5 ⟨vn, rfl, ho5, hb5⟩
 obtain ⟨An, cn0, en⟩ := Kd.N_slice ho5
 subst en
 have V5 := Aside0.mk (Kd.V_below V4.out hb5)
 have M5 := Aside0.mk (Kd.C_below M4.out hb5)
 have W5 := Aside0.mk (Kd.C_below W4.out hb5)
 have N5 := Aside0.mk (Kd.V_mono (Kd.N_V (base' := 0) ho5) (ok' := fun _ => True) (fun _ _ => trivial))
 have hcn := (Kd.N_reads' ho5).2.1
 have HB5 := Aside0.mk (HB4.out.trans (hb5.mono HB4.out.size))
 clear ho5 hb5 V4 M4 W4 HB4
 go_upto_region 6 with (fail)
 obtain ⟨W6, hW6⟩ : ∃ W6, W6 = w5.alloc (.cells #[.int .i64 fl.1, .slice An fl.2.length cn0] 30) := ⟨_, rfl⟩
 obtain ⟨g19, hg19⟩ : ∃ g19, g19 = w5.heap.size := ⟨_, rfl⟩
 have hbk : W6.heap[g19]? = some (.cells #[.int .i64 fl.1, .slice An fl.2.length cn0] 30 (0, 0)) := by rw [hW6, hg19]; exact heap_alloc_new w5 _
 have hb6 : Below w5.heap.size w5 W6 := by rw [hW6]; exact (Below.refl _ w5).alloc (Nat.le_refl _) _
 have V6 := Aside0.mk (Kd.V_below V5.out hb6)
 have M6 := Aside0.mk (Kd.C_below M5.out hb6)
 have C6 := Aside0.mk (Kd.C_below W5.out hb6)
 have N6 := Aside0.mk (Kd.V_below N5.out hb6)
 have HB6 := Aside0.mk (HB5.out.trans (hb6.mono HB5.out.size))
 have Hbk := Aside0.mk hbk
 rw [← hW6]
 rw [← hg19]
 clear hW6 hg19 hbk hb6 V5 M5 W5 N5 HB5
 go_wp2_with fail
 refine (worldmintref28_Lots.calls k t A2 c2 l2 ps W6 M6.out hc2 H6.out).mono ?_
 rintro e w7 ⟨vp, rfl, ho7, hb7⟩
 obtain ⟨Ap, cp, ep⟩ := Kd.R_slice ho7
 subst ep
 have hcp := (Kd.R_reads' ho7).2.1
 have F7 := Aside0.mk (Kd.F_mono (Kd.R_F ho7) (fun _ _ => trivial) : Kd.F (Kd.int .i64) w7 (fun _ => True) Ap ps.length ps)
 have V7 := Aside0.mk (Kd.V_below V6.out hb7)
 have C7 := Aside0.mk (Kd.C_below C6.out hb7)
 have N7 := Aside0.mk (Kd.V_below N6.out hb7)
 have HB7 := Aside0.mk (HB6.out.trans (hb7.mono HB6.out.size))
 have Hbk7 := Aside0.mk (blk_below Hbk.out hb7)
 clear ho7 hb7 V6 M6 C6 N6 HB6 Hbk
 go_upto_region 7 with ((with_reducible refine gate_dst (N := 45) rfl ?_); refine Kd.N_lit k34 (w0 := w7) w7.heap.size 34 ?hg (N' := 45) ?hd (xs := [leafN ps]) (inner := [.int .i64 (-1), .int .i64 0, .int .i64 0, .slice Ap ps.length cp]) (ok := fun _ => True) (okp := fun _ => True) ?hr ?hp (fun _ hk => hk) trivial (Below.refl _ _) (Nat.le_refl _) (by simp) ?_; (case hd => rfl); (case hg => rfl); (case hr => first | (go_simp; done) | (go_simp; rfl)); (case hp => exact (Reps.c4 (show Kd.FK k34 _ _ (leafN ps) [.int .i64 (-1), .int .i64 0, .int .i64 0, .slice Ap ps.length cp] from k34_mkF _ _ (leafN ps) hcp F7.out) (Reps.none _ _))); intro v8 w8 ho8 hb8 hg8 hat8; clear hg8 hat8; obtain ⟨Al, cl, el⟩ := Kd.N_slice ho8; subst el; have Ho8 := Aside0.mk ho8; have Hb8 := Aside0.mk hb8; clear ho8 hb8)
 obtain ⟨W9, hW9⟩ : ∃ W9, W9 = w8.alloc (.cells #[.int .i64 v, .slice Al 1 cl] 30) := ⟨_, rfl⟩
 obtain ⟨g20, hg20⟩ : ∃ g20, g20 = w8.heap.size := ⟨_, rfl⟩
 have hb9 : Below w8.heap.size w8 W9 := by rw [hW9]; exact (Below.refl _ w8).alloc (Nat.le_refl _) _
 have hb79 : Below w7.heap.size w7 W9 := Hb8.out.trans (hb9.mono Hb8.out.size)
 have hcl := (Kd.N_reads' Ho8.out).2.1
 have hce : CE L Ab cb win Aw v fl An cn0 (leafN ps) Al cl g19 g20 W9 := by
  refine ⟨Kd.V_below V7.out hb79, Kd.C_below C7.out hb79, Kd.V_below N7.out hb79, Kd.V_below (Kd.V_mono (Kd.N_V (base' := 0) Ho8.out) (fun _ _ => trivial)) hb9, blk_below Hbk7.out hb79, ?_⟩
  rw [hW9, hg20]
  exact heap_alloc_new w8 _
 have Hce := Aside0.mk hce
 have HB9 := Aside0.mk (HB7.out.trans (hb79.mono HB7.out.size))
 rw [← hW9]
 rw [← hg20]
 clear hW9 hg20 hb9 hb79 hce V7 C7 N7 HB7 Hbk7 F7 Ho8 Hb8
 obtain ⟨hz0, hz1, hz2, hz3⟩ := Hce.out.cells
 have hwr : IntKind.i64.wrap (q - 2) = q - 2 := IntWalk.i64_in _ (by omega)
 have hkeep : ∀ w', Below W9.heap.size W9 w' → w'.cell? ⟨g19, 0, none⟩ = some (.int .i64 fl.1) ∧ w'.cell? ⟨g19, 1, none⟩ = some (.slice An fl.2.length cn0) := fun w' hb => by
  obtain ⟨h0, h1, _, _⟩ := (Hce.out.step hb).cells
  exact ⟨h0, h1⟩
 have Hkeep := Aside0.mk hkeep
 have V9 : Aside0 (Kd.V k34 34 W9 0 (fun k_ => k_ < W9.heap.size) (.slice An fl.2.length cn0) fl.2) := ⟨Kd.V_mono (Kd.V_bound Hce.out.hn) (fun _ hk => hk.2)⟩
 clear hkeep
 refine wp_region_last_drew (ds := [8]) (S := fun w' => w'.cell? ⟨g19, 0, none⟩ = some (.int .i64 fl.1) ∧ w'.cell? ⟨g19, 1, none⟩ = some (.slice An fl.2.length cn0)) (by kernel_rfl) (Hkeep.out W9.drew (below_drew1 (Below.refl _ _))) ?_
 intro hS0
 refine wpAnyLast_take (i := 0) (v := ?_) rfl (by kernel_rfl) (by kernel_rfl) (by kernel_rfl) (by kernel_rfl) (by kernel_rfl) (fun _ _ _ h => h) (Or.inl ⟨by rfl, ?_⟩) (by assumption) ?_
 rotate_left
 ·(intro w_ hSw_; (try dsimp only at hSw_); go_simp; try with_reducible rfl)
 try simp only [Act.put, List.getElem_toArray, List.getElem_cons_zero, List.getElem_cons_succ, List.setIfInBounds_toArray, List.set_cons_zero, List.set_cons_succ]
 refine wpAnyLast_take (i := 1) (v := ?_) rfl (by kernel_rfl) (by kernel_rfl) (by kernel_rfl) (by kernel_rfl) (by kernel_rfl) (fun _ _ _ h => h) (Or.inl ⟨by rfl, ?_⟩) (by assumption) ?_
 rotate_left
 ·(intro w_ hSw_; (try dsimp only at hSw_); go_simp; try with_reducible rfl)
 try simp only [Act.put, List.getElem_toArray, List.getElem_cons_zero, List.getElem_cons_succ, List.setIfInBounds_toArray, List.set_cons_zero, List.set_cons_succ]
 refine wpAnyLast_take (i := 2) (v := ?_) rfl (by kernel_rfl) (by kernel_rfl) (by kernel_rfl) (by kernel_rfl) (by kernel_rfl) (fun _ _ _ h => h) (Or.inl ⟨by rfl, ?_⟩) (by assumption) ?_
 rotate_left
 ·(intro w_ hSw_; (try dsimp only at hSw_); go_simp; try with_reducible rfl)
 try simp only [Act.put, List.getElem_toArray, List.getElem_cons_zero, List.getElem_cons_succ, List.setIfInBounds_toArray, List.set_cons_zero, List.set_cons_succ]
 refine wpAnyLast_take (i := 3) (v := ?_) rfl (by kernel_rfl) (by kernel_rfl) (by kernel_rfl) (by kernel_rfl) (by kernel_rfl) (fun _ _ _ h => h) (Or.inl ⟨by rfl, ?_⟩) (by assumption) ?_
 rotate_left
 ·(intro w_ hSw_; (try dsimp only at hSw_); go_simp; try with_reducible rfl)
 try simp only [Act.put, List.getElem_toArray, List.getElem_cons_zero, List.getElem_cons_succ, List.setIfInBounds_toArray, List.set_cons_zero, List.set_cons_succ]
 refine join_ (σ := Option Addr × Nat × Nat) 1 #[true, true, true, true, true, true, true, true, false] (fun s => [(51, .int .i64 q), (52, .int .i64 (q - 2)), (53, .agg #[.int .i64 one.1, .slice s.1 one.2.length s.2.1]), (21, .pointer (some ⟨s.2.2, 0, none⟩))])
  (fun s w' => Aside0 (Below W9.heap.size W9 w') ∧ Aside0 (Kd.V k34 34 w' 0 (fun k_ => k_ ≠ s.2.2) (.slice s.1 one.2.length s.2.1) one.2) ∧ Aside0 (w'.heap[s.2.2]? = some (.cells #[.int .i64 0, .slice none 0 0] 30 (0, 0))) ∧ Aside0 (W9.heap.size ≤ s.2.2)) ?_ ?_
 ·rintro ⟨Ao, co, g21⟩ w10 ⟨HB10, V10, B10, G21⟩
  simp only [putAll, Act.put, List.getElem_toArray, List.getElem_cons_zero, List.getElem_cons_succ, List.setIfInBounds_toArray, List.set_cons_zero, List.set_cons_succ]
  have hy0 : w10.cell? ⟨g21, 0, none⟩ = some (.int .i64 0) := (blk_cell B10.out 0).trans rfl
  have hy1 : w10.cell? ⟨g21, 1, none⟩ = some (.slice none 0 0) := (blk_cell B10.out 1).trans rfl
  have hyf0 := blk_frozen B10.out 0
  have hyf1 := blk_frozen B10.out 1
  refine wpAnyLast_ready (rs := [8]) (by kernel_rfl) (by simp) ?_
  refine AllReadyL.cons_last rfl (by decide) (fun K hK => ?_) AllReadyL.nil
  go_simp
  refine hK.out _ _ ?_
  clear hK K
  try simp only [Act.put, List.getElem_toArray, List.getElem_cons_zero, List.getElem_cons_succ, List.setIfInBounds_toArray, List.set_cons_zero, List.set_cons_succ]
  refine wpAnyLast_done (by kernel_rfl) ?_ _
  obtain ⟨W11, hW11⟩ : ∃ W11, W11 = (w10.setCell ⟨g21, 0, none⟩ (.int .i64 one.1)).setCell ⟨g21, 1, none⟩ (.slice Ao one.2.length co) := ⟨_, rfl⟩
  have hb11 : Below W9.heap.size W9 W11 := by rw [hW11]; exact below_set (below_set HB10.out G21.out) G21.out
  have hv11 : Kd.V k34 34 W11 0 (fun _ => True) (.slice Ao one.2.length co) one.2 := by
   rw [hW11]
   exact Kd.V_mono (Kd.V_far (p := ⟨g21, 1, none⟩) (Kd.V_far (p := ⟨g21, 0, none⟩) V10.out (fun _ hk => hk) _) (fun _ hk => hk) _) (fun _ _ => trivial)
  have hb21 : W11.heap[g21]? = some (.cells #[.int .i64 one.1, .slice Ao one.2.length co] 30 (0, 0)) := by
   rw [hW11]
   exact blk_put (cs := #[.int .i64 one.1, .slice none 0 0]) (blk_put B10.out 0 _ rfl) 1 _ rfl
  have hce11 := Hce.out.step hb11
  have Hce11 := Aside0.mk hce11
  have HB11 := Aside0.mk (HB9.out.trans (hb11.mono HB9.out.size))
  have V11 := Aside0.mk hv11
  have B21 := Aside0.mk hb21
  rw [← hW11]
  clear hW11 hb11 hv11 hb21 hce11 Hce HB9 HB10 V10 B10 G21 hy0 hy1 hyf0 hyf1 hz0 hz1 hz2 hz3 hS0 Hkeep V9
  have hkeep : ∀ w', Below W11.heap.size W11 w' → w'.cell? ⟨g19, 0, none⟩ = some (.int .i64 fl.1) ∧ w'.cell? ⟨g19, 1, none⟩ = some (.slice An fl.2.length cn0) ∧ w'.cell? ⟨g20, 0, none⟩ = some (.int .i64 v) ∧ w'.cell? ⟨g20, 1, none⟩ = some (.slice Al 1 cl) ∧ w'.cell? ⟨g21, 0, none⟩ = some (.int .i64 one.1) ∧ w'.cell? ⟨g21, 1, none⟩ = some (.slice Ao one.2.length co) := fun w' hb => by
   obtain ⟨h0, h1, h2, h3⟩ := (Hce11.out.step hb).cells
   have h := blk_below B21.out hb
   exact ⟨h0, h1, h2, h3, (blk_cell h 0).trans rfl, (blk_cell h 1).trans rfl⟩
  have Hkeep := Aside0.mk hkeep
  clear hkeep
  go_upto_region 8 with (fail)
  refine wp_region_held_drew (S := fun w' => w'.cell? ⟨g19, 0, none⟩ = some (.int .i64 fl.1) ∧ w'.cell? ⟨g19, 1, none⟩ = some (.slice An fl.2.length cn0) ∧ w'.cell? ⟨g20, 0, none⟩ = some (.int .i64 v) ∧ w'.cell? ⟨g20, 1, none⟩ = some (.slice Al 1 cl) ∧ w'.cell? ⟨g21, 0, none⟩ = some (.int .i64 one.1) ∧ w'.cell? ⟨g21, 1, none⟩ = some (.slice Ao one.2.length co)) (by kernel_rfl) (Hkeep.out W11.drew (below_drew1 (Below.refl _ _))) ?_
  intro hS0
  refine wpAnyH_take (i := 0) (v := ?_) rfl (by kernel_rfl) (by kernel_rfl) (by kernel_rfl) (fun _ _ _ h => h) (Or.inl ⟨by rfl, ?_⟩) (by assumption) ?_
  rotate_left
  ·(intro w_ hSw_; (try dsimp only at hSw_); go_simp; try with_reducible rfl)
  try simp only [Act.put, List.getElem_toArray, List.getElem_cons_zero, List.getElem_cons_succ, List.setIfInBounds_toArray, List.set_cons_zero, List.set_cons_succ]
  refine wpAnyH_take (i := 1) (v := ?_) rfl (by kernel_rfl) (by kernel_rfl) (by kernel_rfl) (fun _ _ _ h => h) (Or.inl ⟨by rfl, ?_⟩) (by assumption) ?_
  rotate_left
  ·(intro w_ hSw_; (try dsimp only at hSw_); go_simp; try with_reducible rfl)
  try simp only [Act.put, List.getElem_toArray, List.getElem_cons_zero, List.getElem_cons_succ, List.setIfInBounds_toArray, List.set_cons_zero, List.set_cons_succ]
  refine wpAnyH_take (i := 2) (v := ?_) rfl (by kernel_rfl) (by kernel_rfl) (by kernel_rfl) (fun _ _ _ h => h) (Or.inl ⟨by rfl, ?_⟩) (by assumption) ?_
  rotate_left
  ·(intro w_ hSw_; (try dsimp only at hSw_); go_simp; try with_reducible rfl)
  try simp only [Act.put, List.getElem_toArray, List.getElem_cons_zero, List.getElem_cons_succ, List.setIfInBounds_toArray, List.set_cons_zero, List.set_cons_succ]
  refine wpAnyH_take (i := 3) (v := ?_) rfl (by kernel_rfl) (by kernel_rfl) (by kernel_rfl) (fun _ _ _ h => h) (Or.inl ⟨by rfl, ?_⟩) (by assumption) ?_
  rotate_left
  ·(intro w_ hSw_; (try dsimp only at hSw_); go_simp; try with_reducible rfl)
  try simp only [Act.put, List.getElem_toArray, List.getElem_cons_zero, List.getElem_cons_succ, List.setIfInBounds_toArray, List.set_cons_zero, List.set_cons_succ]
  refine wpAnyH_take (i := 4) (v := ?_) rfl (by kernel_rfl) (by kernel_rfl) (by kernel_rfl) (fun _ _ _ h => h) (Or.inl ⟨by rfl, ?_⟩) (by assumption) ?_
  rotate_left
  ·(intro w_ hSw_; (try dsimp only at hSw_); go_simp; try with_reducible rfl)
  try simp only [Act.put, List.getElem_toArray, List.getElem_cons_zero, List.getElem_cons_succ, List.setIfInBounds_toArray, List.set_cons_zero, List.set_cons_succ]
  refine wpAnyH_take (i := 5) (v := ?_) rfl (by kernel_rfl) (by kernel_rfl) (by kernel_rfl) (fun _ _ _ h => h) (Or.inl ⟨by rfl, ?_⟩) (by assumption) ?_
  rotate_left
  ·(intro w_ hSw_; (try dsimp only at hSw_); go_simp; try with_reducible rfl)
  try simp only [Act.put, List.getElem_toArray, List.getElem_cons_zero, List.getElem_cons_succ, List.setIfInBounds_toArray, List.set_cons_zero, List.set_cons_succ]
  refine wpAnyH_take (i := 6) (v := ?_) rfl (by kernel_rfl) (by kernel_rfl) (by kernel_rfl) (fun _ _ _ h => h) (Or.inl ⟨by rfl, ?_⟩) (by assumption) ?_
  rotate_left
  ·(intro w_ hSw_; (try dsimp only at hSw_); go_simp; try with_reducible rfl)
  try simp only [Act.put, List.getElem_toArray, List.getElem_cons_zero, List.getElem_cons_succ, List.setIfInBounds_toArray, List.set_cons_zero, List.set_cons_succ]
  refine wpAnyH_take (i := 7) (v := ?_) rfl (by kernel_rfl) (by kernel_rfl) (by kernel_rfl) (fun _ _ _ h => h) (Or.inl ⟨by rfl, ?_⟩) (by assumption) ?_
  rotate_left
  ·(intro w_ hSw_; (try dsimp only at hSw_); go_simp; try with_reducible rfl)
  try simp only [Act.put, List.getElem_toArray, List.getElem_cons_zero, List.getElem_cons_succ, List.setIfInBounds_toArray, List.set_cons_zero, List.set_cons_succ]
  refine wpAnyH_take (i := 8) (v := ?_) rfl (by kernel_rfl) (by kernel_rfl) (by kernel_rfl) (fun _ _ _ h => h) (Or.inl ⟨by rfl, ?_⟩) (by assumption) ?_
  rotate_left
  ·(intro w_ hSw_; (try dsimp only at hSw_); go_simp; try with_reducible rfl)
  try simp only [Act.put, List.getElem_toArray, List.getElem_cons_zero, List.getElem_cons_succ, List.setIfInBounds_toArray, List.set_cons_zero, List.set_cons_succ]
  refine wpAnyH_take (i := 10) (v := ?_) rfl (by kernel_rfl) (by kernel_rfl) (by kernel_rfl) (fun _ _ _ h => h) (Or.inl ⟨by rfl, ?_⟩) (by assumption) ?_
  rotate_left
  ·(intro w_ hSw_; (try dsimp only at hSw_); go_simp; try with_reducible rfl)
  try simp only [Act.put, List.getElem_toArray, List.getElem_cons_zero, List.getElem_cons_succ, List.setIfInBounds_toArray, List.set_cons_zero, List.set_cons_succ]
  refine wpAnyH_take (i := 11) (v := ?_) rfl (by kernel_rfl) (by kernel_rfl) (by kernel_rfl) (fun _ _ _ h => h) (Or.inl ⟨by rfl, ?_⟩) (by assumption) ?_
  rotate_left
  ·(intro w_ hSw_; (try dsimp only at hSw_); go_simp; try with_reducible rfl)
  try simp only [Act.put, List.getElem_toArray, List.getElem_cons_zero, List.getElem_cons_succ, List.setIfInBounds_toArray, List.set_cons_zero, List.set_cons_succ]
  refine wpAnyH_take (i := 12) (v := ?_) rfl (by kernel_rfl) (by kernel_rfl) (by kernel_rfl) (fun _ _ _ h => h) (Or.inl ⟨by rfl, ?_⟩) (by assumption) ?_
  rotate_left
  ·(intro w_ hSw_; (try dsimp only at hSw_); go_simp; try with_reducible rfl)
  try simp only [Act.put, List.getElem_toArray, List.getElem_cons_zero, List.getElem_cons_succ, List.setIfInBounds_toArray, List.set_cons_zero, List.set_cons_succ]
  refine wpAnyH_take (i := 13) (v := ?_) rfl (by kernel_rfl) (by kernel_rfl) (by kernel_rfl) (fun _ _ _ h => h) (Or.inl ⟨by rfl, ?_⟩) (by assumption) ?_
  rotate_left
  ·(intro w_ hSw_; (try dsimp only at hSw_); go_simp; try with_reducible rfl)
  try simp only [Act.put, List.getElem_toArray, List.getElem_cons_zero, List.getElem_cons_succ, List.setIfInBounds_toArray, List.set_cons_zero, List.set_cons_succ]
  refine wpAnyH_take (i := 15) (v := ?_) rfl (by kernel_rfl) (by kernel_rfl) (by kernel_rfl) (fun _ _ _ h => h) (Or.inl ⟨by rfl, ?_⟩) (by assumption) ?_
  rotate_left
  ·(intro w_ hSw_; (try dsimp only at hSw_); go_simp; try with_reducible rfl)
  try simp only [Act.put, List.getElem_toArray, List.getElem_cons_zero, List.getElem_cons_succ, List.setIfInBounds_toArray, List.set_cons_zero, List.set_cons_succ]
  refine wpAnyH_take (i := 16) (v := ?_) rfl (by kernel_rfl) (by kernel_rfl) (by kernel_rfl) (fun _ _ _ h => h) (Or.inl ⟨by rfl, ?_⟩) (by assumption) ?_
  rotate_left
  ·(intro w_ hSw_; (try dsimp only at hSw_); go_simp; try with_reducible rfl)
  try simp only [Act.put, List.getElem_toArray, List.getElem_cons_zero, List.getElem_cons_succ, List.setIfInBounds_toArray, List.set_cons_zero, List.set_cons_succ]
  refine wpAnyH_ready (rs := [9]) (by kernel_rfl) (by simp) ?_
  refine AllReadyH.cons rfl (fun K hK => ?_) AllReadyH.nil
  go_simp
  refine (worldmintref29_Spoilt.calls one.1 (fun _ => True) Ao co one.2 (IntKind.i64.wrap (Int.tdiv a4 7)) (IntKind.i64.wrap (Int.tdiv a5 7)) a6 two.1 two.2 _ (Kd.V_drew V11.out) H9.out).mono ?_
  rintro e w12 ⟨vo, rfl, ho12, hb12⟩
  obtain ⟨At, ct, et⟩ := Kd.N_slice ho12
  subst et
  have HB12 : Aside0 (Below W11.heap.size W11 w12) := ⟨(below_drew1 (Below.refl _ _)).trans (hb12.mono (below_drew1 (Below.refl W11.heap.size W11)).size)⟩
  have T12 : Aside0 (Kd.V k34 34 w12 0 (fun _ => True) (.slice At two.2.length ct) two.2) := ⟨Kd.V_mono (Kd.N_V (base' := 0) ho12) (fun _ _ => trivial)⟩
  refine hK.out _ _ (Hkeep.out _ HB12.out) (fun hSn_ => ?_)
  clear hK K
  try simp only [Act.put, List.getElem_toArray, List.getElem_cons_zero, List.getElem_cons_succ, List.setIfInBounds_toArray, List.set_cons_zero, List.set_cons_succ]
  clear ho12 hb12
  refine wpAnyH_ready (rs := [14]) (by kernel_rfl) (by simp) ?_
  refine AllReadyH.cons rfl (fun K hK => ?_) AllReadyH.nil
  go_simp
  refine (worldmintref29_Spoilt.calls v (fun _ => True) Al cl [leafN ps] a4 a5 a6 three.1 three.2 _ (Kd.V_below Hce11.out.hl HB12.out) H10.out).mono ?_
  rintro e w13 ⟨vo, rfl, ho13, hb13⟩
  obtain ⟨Ar, cr, er⟩ := Kd.N_slice ho13
  subst er
  have HB13 := Aside0.mk (HB12.out.trans (hb13.mono HB12.out.size))
  have T13 := Aside0.mk (Kd.V_below T12.out hb13)
  have R13 : Aside0 (Kd.V k34 34 w13 0 (fun _ => True) (.slice Ar three.2.length cr) three.2) := ⟨Kd.V_mono (Kd.N_V (base' := 0) ho13) (fun _ _ => trivial)⟩
  refine hK.out _ _ (Hkeep.out _ HB13.out) (fun hSn_ => ?_)
  clear hK K
  try simp only [Act.put, List.getElem_toArray, List.getElem_cons_zero, List.getElem_cons_succ, List.setIfInBounds_toArray, List.set_cons_zero, List.set_cons_succ]
  clear ho13 hb13 T12 HB12
  refine wpAnyH_ready (rs := [17]) (by kernel_rfl) (by simp) ?_
  refine AllReadyH.cons rfl (fun K hK => ?_) AllReadyH.nil
  go_simp
  obtain ⟨W14, hW14⟩ : ∃ W14, W14 = w13.alloc (.cells #[.int .i64 fl.1, .slice An fl.2.length cn0, .int .i64 v, .slice Al 1 cl, .int .i64 one.1, .slice Ao one.2.length co, .int .i64 two.1, .slice At two.2.length ct, .int .i64 three.1, .slice Ar three.2.length cr, .int .i64 v, .slice none 0 0] 30) := ⟨_, rfl⟩
  rw [← hW14]
  have hb14 : Below w13.heap.size w13 W14 := by rw [hW14]; exact (Below.refl _ w13).alloc (Nat.le_refl _) _
  have hbk : W14.heap[w13.heap.size]? = some (.cells #[.int .i64 fl.1, .slice An fl.2.length cn0, .int .i64 v, .slice Al 1 cl, .int .i64 one.1, .slice Ao one.2.length co, .int .i64 two.1, .slice At two.2.length ct, .int .i64 three.1, .slice Ar three.2.length cr, .int .i64 v, .slice none 0 0] 30 (0, 0)) := by rw [hW14]; exact heap_alloc_new w13 _
  have HB14 := Aside0.mk (HB13.out.trans (hb14.mono HB13.out.size))
  have hce14 := Hce11.out.step HB14.out
  have hone := Kd.V_below V11.out HB14.out
  have htwo := Kd.V_below T13.out hb14
  have hthree := Kd.V_below R13.out hb14
  have hks := K3.out
  simp only [List.all_cons, List.all_nil, Bool.and_true, Bool.and_eq_true] at hks
  obtain ⟨ag0, ag1, ag2, ag3, ag4, ag5⟩ := hks
  have hent : ∀ i, i < 6 → ∃ (pv : Int) (NS : List S34) (A : Option Addr) (c : Nat), (∀ w', Below W14.heap.size W14 w' → w'.cell? ⟨w13.heap.size, i * 2, none⟩ = some (.int .i64 pv) ∧ w'.cell? ⟨w13.heap.size, i * 2 + 1, none⟩ = some (.slice A NS.length c)) ∧ Kd.V k34 34 W14 0 (fun _ => True) (.slice A NS.length c) NS ∧ agreeP k t L win g (pv, NS) = true := by
   intro i hi
   have hc : ∀ w', Below W14.heap.size W14 w' → w'.heap[w13.heap.size]? = some (.cells #[.int .i64 fl.1, .slice An fl.2.length cn0, .int .i64 v, .slice Al 1 cl, .int .i64 one.1, .slice Ao one.2.length co, .int .i64 two.1, .slice At two.2.length ct, .int .i64 three.1, .slice Ar three.2.length cr, .int .i64 v, .slice none 0 0] 30 (0, 0)) := fun w' hb => blk_below hbk hb
   rcases (by omega : i = 0 ∨ i = 1 ∨ i = 2 ∨ i = 3 ∨ i = 4 ∨ i = 5) with rfl | rfl | rfl | rfl | rfl | rfl
   ·exact ⟨fl.1, fl.2, An, cn0, fun w' hb => ⟨(blk_cell (hc w' hb) 0).trans rfl, (blk_cell (hc w' hb) 1).trans rfl⟩, hce14.hn, ag0⟩
   ·exact ⟨v, [leafN ps], Al, cl, fun w' hb => ⟨(blk_cell (hc w' hb) 2).trans rfl, (blk_cell (hc w' hb) 3).trans rfl⟩, hce14.hl, ag1⟩
   ·exact ⟨one.1, one.2, Ao, co, fun w' hb => ⟨(blk_cell (hc w' hb) 4).trans rfl, (blk_cell (hc w' hb) 5).trans rfl⟩, hone, ag2⟩
   ·exact ⟨two.1, two.2, At, ct, fun w' hb => ⟨(blk_cell (hc w' hb) 6).trans rfl, (blk_cell (hc w' hb) 7).trans rfl⟩, htwo, ag3⟩
   ·exact ⟨three.1, three.2, Ar, cr, fun w' hb => ⟨(blk_cell (hc w' hb) 8).trans rfl, (blk_cell (hc w' hb) 9).trans rfl⟩, hthree, ag4⟩
   ·exact ⟨v, [], none, 0, fun w' hb => ⟨(blk_cell (hc w' hb) 10).trans rfl, (blk_cell (hc w' hb) 11).trans rfl⟩, Kd.V_nil _ _ _ _ _, ag5⟩
  have Hent := Aside0.mk hent
  have VL := Aside0.mk hce14.hL
  have CW := Aside0.mk hce14.hw
  have HBW := Aside0.mk (HB11.out.trans (HB14.out.mono HB11.out.size))
  refine hK.out _ _ (Hkeep.out _ HB14.out) (fun hSn_ => ?_)
  clear hK K
  try simp only [Act.put, List.getElem_toArray, List.getElem_cons_zero, List.getElem_cons_succ, List.setIfInBounds_toArray, List.set_cons_zero, List.set_cons_succ]
  refine wpAnyH_take (i := 18) (v := ?_) rfl (by kernel_rfl) (by kernel_rfl) (by kernel_rfl) (fun _ _ _ h => h) (Or.inl ⟨by rfl, ?_⟩) (by assumption) ?_
  rotate_left
  ·(intro w_ hSw_; (try dsimp only at hSw_); go_simp; try with_reducible rfl)
  try simp only [Act.put, List.getElem_toArray, List.getElem_cons_zero, List.getElem_cons_succ, List.setIfInBounds_toArray, List.set_cons_zero, List.set_cons_succ]
  refine wpAnyH_done (by kernel_rfl) ?_ _
  clear hW14 hb14 hbk hce14 hone htwo hthree ag0 ag1 ag2 ag3 ag4 ag5 hent hS0 hSn_ Hkeep HB14 HB13 T13 R13 V11 B21 Hce11 HB11 K3 H1 H2 H3 H4 H5 H6 H7 H8 H9 H10
  go_wp2
  go_loopw [23] (fun a wr => ∃ m : Nat, m ≤ 6 ∧ a = .int .i64 m ∧ Aside0 (Below W14.heap.size W14 wr)) (fun a _ => 6 - (intOf a).toNat)
  case atStart => exact ⟨0, by omega, rfl, ⟨Below.refl _ _⟩⟩
  case round =>
   obtain ⟨m, hm, rfl, HBr⟩ := hrel
   by_cases hlt : m < 6
   ·have d1 : decide ((m : Int) < 6) = true := decide_eq_true (by omega)
    have d2 : decide (m < 6) = true := decide_eq_true hlt
    have hmI : (m : Int) < 6 := by omega
    obtain ⟨pv, NS, A, c, hcell, hv, hag⟩ := Hent.out m hlt
    obtain ⟨cv, cs, hcert, hchk⟩ := agreeP_get hag
    have hnc := (Kd.V_reads' hv).2.1
    have Hcell := Aside0.mk hcell
    have Hv := Aside0.mk hv
    have Hcert := Aside0.mk hcert
    have Hchk := Aside0.mk hchk
    have hwm : IntKind.i64.wrap ((m : Int) + 1) = (m : Int) + 1 := IntWalk.i64_in _ (by omega)
    clear hcell hv hag hcert hchk
    go_upto_region 12 with (fail)
    refine wp_region_held_drew (S := fun w' => w'.cell? ⟨w13.heap.size, m * 2, none⟩ = some (.int .i64 pv) ∧ w'.cell? ⟨w13.heap.size, m * 2 + 1, none⟩ = some (.slice A NS.length c)) (by kernel_rfl) (Hcell.out wr.drew (below_drew1 HBr.out)) ?_
    intro hS0
    refine wpAnyH_take (i := 0) (v := ?_) rfl (by kernel_rfl) (by kernel_rfl) (by kernel_rfl) (fun _ _ _ h => h) (Or.inl ⟨by rfl, ?_⟩) (by assumption) ?_
    rotate_left
    ·(intro w_ hSw_; (try dsimp only at hSw_); go_simp; try with_reducible rfl)
    try simp only [Act.put, List.getElem_toArray, List.getElem_cons_zero, List.getElem_cons_succ, List.setIfInBounds_toArray, List.set_cons_zero, List.set_cons_succ]
    refine wpAnyH_take (i := 1) (v := ?_) rfl (by kernel_rfl) (by kernel_rfl) (by kernel_rfl) (fun _ _ _ h => h) (Or.inl ⟨by rfl, ?_⟩) (by assumption) ?_
    rotate_left
    ·(intro w_ hSw_; (try dsimp only at hSw_); go_simp; try with_reducible rfl)
    try simp only [Act.put, List.getElem_toArray, List.getElem_cons_zero, List.getElem_cons_succ, List.setIfInBounds_toArray, List.set_cons_zero, List.set_cons_succ]
    refine wpAnyH_take (i := 3) (v := ?_) rfl (by kernel_rfl) (by kernel_rfl) (by kernel_rfl) (fun _ _ _ h => h) (Or.inl ⟨by rfl, ?_⟩) (by assumption) ?_
    rotate_left
    ·(intro w_ hSw_; (try dsimp only at hSw_); go_simp; try with_reducible rfl)
    try simp only [Act.put, List.getElem_toArray, List.getElem_cons_zero, List.getElem_cons_succ, List.setIfInBounds_toArray, List.set_cons_zero, List.set_cons_succ]
    refine wpAnyH_take (i := 4) (v := ?_) rfl (by kernel_rfl) (by kernel_rfl) (by kernel_rfl) (fun _ _ _ h => h) (Or.inl ⟨by rfl, ?_⟩) (by assumption) ?_
    rotate_left
    ·(intro w_ hSw_; (try dsimp only at hSw_); go_simp; try with_reducible rfl)
    try simp only [Act.put, List.getElem_toArray, List.getElem_cons_zero, List.getElem_cons_succ, List.setIfInBounds_toArray, List.set_cons_zero, List.set_cons_succ]
    refine wpAnyH_take (i := 5) (v := ?_) rfl (by kernel_rfl) (by kernel_rfl) (by kernel_rfl) (fun _ _ _ h => h) (Or.inl ⟨by rfl, ?_⟩) (by assumption) ?_
    rotate_left
    ·(intro w_ hSw_; (try dsimp only at hSw_); go_simp; try with_reducible rfl)
    try simp only [Act.put, List.getElem_toArray, List.getElem_cons_zero, List.getElem_cons_succ, List.setIfInBounds_toArray, List.set_cons_zero, List.set_cons_succ]
    refine wpAnyH_take (i := 6) (v := ?_) rfl (by kernel_rfl) (by kernel_rfl) (by kernel_rfl) (fun _ _ _ h => h) (Or.inl ⟨by rfl, ?_⟩) (by assumption) ?_
    rotate_left
    ·(intro w_ hSw_; (try dsimp only at hSw_); go_simp; try with_reducible rfl)
    try simp only [Act.put, List.getElem_toArray, List.getElem_cons_zero, List.getElem_cons_succ, List.setIfInBounds_toArray, List.set_cons_zero, List.set_cons_succ]
    refine wpAnyH_take (i := 7) (v := ?_) rfl (by kernel_rfl) (by kernel_rfl) (by kernel_rfl) (fun _ _ _ h => h) (Or.inl ⟨by rfl, ?_⟩) (by assumption) ?_
    rotate_left
    ·(intro w_ hSw_; (try dsimp only at hSw_); go_simp; try with_reducible rfl)
    try simp only [Act.put, List.getElem_toArray, List.getElem_cons_zero, List.getElem_cons_succ, List.setIfInBounds_toArray, List.set_cons_zero, List.set_cons_succ]
    refine wpAnyH_take (i := 10) (v := ?_) rfl (by kernel_rfl) (by kernel_rfl) (by kernel_rfl) (fun _ _ _ h => h) (Or.inl ⟨by rfl, ?_⟩) (by assumption) ?_
    rotate_left
    ·(intro w_ hSw_; (try dsimp only at hSw_); go_simp; try with_reducible rfl)
    try simp only [Act.put, List.getElem_toArray, List.getElem_cons_zero, List.getElem_cons_succ, List.setIfInBounds_toArray, List.set_cons_zero, List.set_cons_succ]
    refine wpAnyH_take (i := 11) (v := ?_) rfl (by kernel_rfl) (by kernel_rfl) (by kernel_rfl) (fun _ _ _ h => h) (Or.inl ⟨by rfl, ?_⟩) (by assumption) ?_
    rotate_left
    ·(intro w_ hSw_; (try dsimp only at hSw_); go_simp; try with_reducible rfl)
    try simp only [Act.put, List.getElem_toArray, List.getElem_cons_zero, List.getElem_cons_succ, List.setIfInBounds_toArray, List.set_cons_zero, List.set_cons_succ]
    refine wpAnyH_take (i := 12) (v := ?_) rfl (by kernel_rfl) (by kernel_rfl) (by kernel_rfl) (fun _ _ _ h => h) (Or.inl ⟨by rfl, ?_⟩) (by assumption) ?_
    rotate_left
    ·(intro w_ hSw_; (try dsimp only at hSw_); go_simp; try with_reducible rfl)
    try simp only [Act.put, List.getElem_toArray, List.getElem_cons_zero, List.getElem_cons_succ, List.setIfInBounds_toArray, List.set_cons_zero, List.set_cons_succ]
    refine wpAnyH_take (i := 13) (v := ?_) rfl (by kernel_rfl) (by kernel_rfl) (by kernel_rfl) (fun _ _ _ h => h) (Or.inl ⟨by rfl, ?_⟩) (by assumption) ?_
    rotate_left
    ·(intro w_ hSw_; (try dsimp only at hSw_); go_simp; try with_reducible rfl)
    try simp only [Act.put, List.getElem_toArray, List.getElem_cons_zero, List.getElem_cons_succ, List.setIfInBounds_toArray, List.set_cons_zero, List.set_cons_succ]
    refine wpAnyH_take (i := 14) (v := ?_) rfl (by kernel_rfl) (by kernel_rfl) (by kernel_rfl) (fun _ _ _ h => h) (Or.inl ⟨by rfl, ?_⟩) (by assumption) ?_
    rotate_left
    ·(intro w_ hSw_; (try dsimp only at hSw_); go_simp; try with_reducible rfl)
    try simp only [Act.put, List.getElem_toArray, List.getElem_cons_zero, List.getElem_cons_succ, List.setIfInBounds_toArray, List.set_cons_zero, List.set_cons_succ]
    refine wpAnyH_take (i := 15) (v := ?_) rfl (by kernel_rfl) (by kernel_rfl) (by kernel_rfl) (fun _ _ _ h => h) (Or.inl ⟨by rfl, ?_⟩) (by assumption) ?_
    rotate_left
    ·(intro w_ hSw_; (try dsimp only at hSw_); go_simp; try with_reducible rfl)
    try simp only [Act.put, List.getElem_toArray, List.getElem_cons_zero, List.getElem_cons_succ, List.setIfInBounds_toArray, List.set_cons_zero, List.set_cons_succ]
    refine wpAnyH_take (i := 16) (v := ?_) rfl (by kernel_rfl) (by kernel_rfl) (by kernel_rfl) (fun _ _ _ h => h) (Or.inl ⟨by rfl, ?_⟩) (by assumption) ?_
    rotate_left
    ·(intro w_ hSw_; (try dsimp only at hSw_); go_simp; try with_reducible rfl)
    try simp only [Act.put, List.getElem_toArray, List.getElem_cons_zero, List.getElem_cons_succ, List.setIfInBounds_toArray, List.set_cons_zero, List.set_cons_succ]
    refine wpAnyH_ready (rs := [2]) (by kernel_rfl) (by simp) ?_
    refine AllReadyH.cons rfl (fun K hK => ?_) AllReadyH.nil
    go_simp
    refine (worldmintlaw29_given.calls k (fun _ => True) Ab cb L g _ (Kd.V_below VL.out (below_drew1 HBr.out)) H11.out).mono ?_
    rintro e w15 ⟨vg, rfl, ho15, hb15⟩
    obtain ⟨Ag, cg, eg⟩ := Kd.N_slice ho15
    subst eg
    have HB15 : Aside0 (Below W14.heap.size W14 w15) := ⟨(below_drew1 HBr.out).trans (hb15.mono (below_drew1 HBr.out).size)⟩
    have CG := Aside0.mk (Kd.N_reads' ho15).2.2
    have hcg := (Kd.N_reads' ho15).2.1
    refine hK.out _ _ (Hcell.out _ HB15.out) (fun hSn_ => ?_)
    clear hK K
    try simp only [Act.put, List.getElem_toArray, List.getElem_cons_zero, List.getElem_cons_succ, List.setIfInBounds_toArray, List.set_cons_zero, List.set_cons_succ]
    clear ho15 hb15
    refine wpAnyH_ready (rs := [8]) (by kernel_rfl) (by simp) ?_
    refine AllReadyH.cons rfl (fun K hK => ?_) AllReadyH.nil
    go_simp
    refine (worldmintlaw29_certificate.calls k pv (fun _ => True) A c NS cv cs _ (Kd.V_below Hv.out HB15.out) Hcert.out).mono ?_
    rintro e w16 ⟨vc, rfl, ho16, hb16⟩
    obtain ⟨Ah, ch, eh⟩ := Kd.N_slice ho16
    subst eh
    have HB16 := Aside0.mk (HB15.out.trans (hb16.mono HB15.out.size))
    have CC := Aside0.mk (Kd.N_reads' ho16).2.2
    have hch := (Kd.N_reads' ho16).2.1
    have CG16 := Aside0.mk (Kd.C_below CG.out hb16)
    refine hK.out _ _ (Hcell.out _ HB16.out) (fun hSn_ => ?_)
    clear hK K
    try simp only [Act.put, List.getElem_toArray, List.getElem_cons_zero, List.getElem_cons_succ, List.setIfInBounds_toArray, List.set_cons_zero, List.set_cons_succ]
    clear ho16 hb16 CG HB15
    have Hq1 := Aside0.mk (proof_Check.calls t Ag cg g Aw cw win cv Ah ch cs _ w16 CG16.out hcg (Kd.C_below CW.out HB16.out) hcw CC.out hch rfl)
    refine wpAnyH_ready (rs := [9]) (by kernel_rfl) (by simp) ?_
    refine AllReadyH.cons rfl (fun K hK => ?_) AllReadyH.nil
    go_simp
    refine Hq1.out.mono ?_
    rintro e w17 ⟨rfl, hb17⟩
    have HB17 := Aside0.mk (HB16.out.trans (hb17.mono HB16.out.size))
    refine hK.out _ _ (Hcell.out _ HB17.out) (fun hSn_ => ?_)
    clear hK K
    try simp only [Act.put, List.getElem_toArray, List.getElem_cons_zero, List.getElem_cons_succ, List.setIfInBounds_toArray, List.set_cons_zero, List.set_cons_succ]
    clear hb17 Hq1 CG16 CC HB16
    refine wpAnyH_ready (rs := [17]) (by kernel_rfl) (by simp) ?_
    refine AllReadyH.cons rfl (fun K hK => ?_) AllReadyH.nil
    go_simp
    refine (worldmintref29_Check.calls k t Ab cb L Aw cw win pv A c NS _ w17 (Kd.V_reads' (Kd.V_below VL.out HB17.out)).2.2 hcb (Kd.C_below CW.out HB17.out) hcw (Kd.V_reads' (Kd.V_below Hv.out HB17.out)).2.2 hnc Hchk.out).mono ?_
    rintro e w18 ⟨rfl, hb18⟩
    have HB18 := Aside0.mk (HB17.out.trans (hb18.mono HB17.out.size))
    refine hK.out _ _ (Hcell.out _ HB18.out) (fun hSn_ => ?_)
    clear hK K
    try simp only [Act.put, List.getElem_toArray, List.getElem_cons_zero, List.getElem_cons_succ, List.setIfInBounds_toArray, List.set_cons_zero, List.set_cons_succ]
    clear hb18 HB17
    generalize checkP t g win cv cs = ec
    refine wpAnyH_take (i := 18) (v := ?_) rfl (by kernel_rfl) (by kernel_rfl) (by kernel_rfl) (fun _ _ _ h => h) (Or.inl ⟨by rfl, ?_⟩) (by assumption) ?_
    rotate_left
    ·(intro w_ hSw_; (try dsimp only at hSw_); go_simp; try with_reducible rfl)
    try simp only [Act.put, List.getElem_toArray, List.getElem_cons_zero, List.getElem_cons_succ, List.setIfInBounds_toArray, List.set_cons_zero, List.set_cons_succ]
    refine wpAnyH_done (by kernel_rfl) ?_ _
    have hbe : (ec != ec) = false := by simp
    go_wp2
    go_roundw
    case rel => exact ⟨m + 1, by omega, by go_num, HB18⟩
    case measure => simp [intOf]; omega
   ·obtain rfl : m = 6 := by omega
    have hlv := worldmintlaw29_lives.calls true wr rfl
    have Hlv := Aside0.mk hlv
    clear hlv
    go_wp2_with fail
    refine Hlv.out.mono ?_
    rintro e w20 ⟨rfl, hb20⟩
    have hfin := HBW.out.trans ((HBr.out.trans (hb20.mono HBr.out.size)).mono HBW.out.size)
    go_wp2
    go_ret
    exact ⟨rfl, hfin⟩
 ·intro hcont
  have Hcont := Aside0.mk hcont
  clear hcont
  refine wpAnyLast_ready (rs := [4, 7]) (by kernel_rfl) (by simp) ?_
  refine AllReadyL.cons rfl (by decide) (fun K hK => ?_) (AllReadyL.cons rfl (by decide) (fun K hK => ?_) AllReadyL.nil)
  ·go_simp
   refine (worldmintref01_Around.calls a6 12 q _ H7.out).mono ?_
   rintro e w10 ⟨rfl, hd10⟩
   have hb10 : Below W9.heap.size W9 w10 := (below_drew1 (Below.refl _ _)).trans (hd10.below.mono (below_drew1 (Below.refl W9.heap.size W9)).size)
   have HB10 := Aside0.mk hb10
   refine hK.out _ _ (Hkeep.out _ hb10) (fun hSn_ => ?_)
   clear hK K
   try simp only [Act.put, List.getElem_toArray, List.getElem_cons_zero, List.getElem_cons_succ, List.setIfInBounds_toArray, List.set_cons_zero, List.set_cons_succ]
   clear hd10 hb10
   refine wpAnyLast_take (i := 5) (v := ?_) rfl (by kernel_rfl) (by kernel_rfl) (by kernel_rfl) (by kernel_rfl) (by kernel_rfl) (fun _ _ _ h => h) (Or.inl ⟨by rfl, ?_⟩) (by assumption) ?_
   rotate_left
   ·(intro w_ hSw_; (try dsimp only at hSw_); go_simp; try with_reducible rfl)
   try simp only [Act.put, List.getElem_toArray, List.getElem_cons_zero, List.getElem_cons_succ, List.setIfInBounds_toArray, List.set_cons_zero, List.set_cons_succ]
   refine wpAnyLast_ready (rs := [6, 7]) (by kernel_rfl) (by simp) ?_
   refine AllReadyL.cons rfl (by decide) (fun K hK => ?_) (AllReadyL.cons rfl (by decide) (fun K hK => ?_) AllReadyL.nil)
   ·go_simp
    refine (worldmintref29_Spoilt.calls fl.1 (fun k_ => k_ < W9.heap.size) An cn0 fl.2 a4 a5 (q - 2) one.1 one.2 _ (Kd.V_below V9.out HB10.out) H8.out).mono ?_
    rintro e w11 ⟨vo, rfl, ho11, hb11⟩
    obtain ⟨Ao, co, eo⟩ := Kd.N_slice ho11
    subst eo
    have HB11 := Aside0.mk (HB10.out.trans (hb11.mono HB10.out.size))
    have V11 : Aside0 (Kd.V k34 34 w11 0 (fun k_ => k_ ≠ w11.heap.size) (.slice Ao one.2.length co) one.2) := ⟨Kd.V_mono (Kd.V_bound (Kd.N_V (base' := 0) ho11)) (fun k_ hk => Nat.ne_of_lt hk.2)⟩
    refine hK.out _ _ (Hkeep.out _ HB11.out) (fun hSn_ => ?_)
    clear hK K
    try simp only [Act.put, List.getElem_toArray, List.getElem_cons_zero, List.getElem_cons_succ, List.setIfInBounds_toArray, List.set_cons_zero, List.set_cons_succ]
    clear ho11 hb11
    refine wpAnyLast_ready (rs := [7]) (by kernel_rfl) (by simp) ?_
    refine AllReadyL.cons rfl (by decide) (fun K hK => ?_) AllReadyL.nil
    go_simp
    have hb12 : Below w11.heap.size w11 (w11.alloc (.cells #[.int .i64 0, .slice none 0 0] 30)) := (Below.refl _ w11).alloc (Nat.le_refl _) _
    have HB12 := Aside0.mk (HB11.out.trans (hb12.mono HB11.out.size))
    refine hK.out _ _ (Hkeep.out _ HB12.out) (fun hSn_ => ?_)
    clear hK K
    try simp only [Act.put, List.getElem_toArray, List.getElem_cons_zero, List.getElem_cons_succ, List.setIfInBounds_toArray, List.set_cons_zero, List.set_cons_succ]
    have h := Hcont.out (Ao, co, w11.heap.size) _ ⟨HB12, ⟨Kd.V_below V11.out hb12⟩, ⟨heap_alloc_new w11 _⟩, ⟨HB11.out.size⟩⟩
    simp only [putAll, Act.put, List.getElem_toArray, List.getElem_cons_zero, List.getElem_cons_succ, List.setIfInBounds_toArray, List.set_cons_zero, List.set_cons_succ] at h
    exact h
   ·go_simp
    have hb11 : Below w10.heap.size w10 (w10.alloc (.cells #[.int .i64 0, .slice none 0 0] 30)) := (Below.refl _ w10).alloc (Nat.le_refl _) _
    have HB11 := Aside0.mk (HB10.out.trans (hb11.mono HB10.out.size))
    have B11 : Aside0 ((w10.alloc (.cells #[.int .i64 0, .slice none 0 0] 30)).heap[w10.heap.size]? = some (.cells #[.int .i64 0, .slice none 0 0] 30 (0, 0))) := ⟨heap_alloc_new w10 _⟩
    refine hK.out _ _ (Hkeep.out _ HB11.out) (fun hSn_ => ?_)
    clear hK K
    try simp only [Act.put, List.getElem_toArray, List.getElem_cons_zero, List.getElem_cons_succ, List.setIfInBounds_toArray, List.set_cons_zero, List.set_cons_succ]
    clear hb11
    obtain ⟨w11, hw11⟩ : ∃ w11, w11 = (w10.alloc (.cells #[.int .i64 0, .slice none 0 0] 30)) := ⟨_, rfl⟩
    have hsz11 : w11.heap.size = w10.heap.size + 1 := by rw [hw11]; simp
    have Hsz11 := Aside0.mk hsz11
    rw [← hw11] at HB11 B11
    rw [← hw11]
    clear hw11 hsz11
    refine wpAnyLast_ready (rs := [6]) (by kernel_rfl) (by simp) ?_
    refine AllReadyL.cons rfl (by decide) (fun K hK => ?_) AllReadyL.nil
    go_simp
    refine (worldmintref29_Spoilt.calls fl.1 (fun k_ => k_ < W9.heap.size) An cn0 fl.2 a4 a5 (q - 2) one.1 one.2 _ (Kd.V_below V9.out HB11.out) H8.out).mono ?_
    rintro e w12 ⟨vo, rfl, ho12, hb12⟩
    obtain ⟨Ao, co, eo⟩ := Kd.N_slice ho12
    subst eo
    have HB12 := Aside0.mk (HB11.out.trans (hb12.mono HB11.out.size))
    refine hK.out _ _ (Hkeep.out _ HB12.out) (fun hSn_ => ?_)
    clear hK K
    try simp only [Act.put, List.getElem_toArray, List.getElem_cons_zero, List.getElem_cons_succ, List.setIfInBounds_toArray, List.set_cons_zero, List.set_cons_succ]
    have h := Hcont.out (Ao, co, w10.heap.size) _ ⟨HB12, ⟨Kd.V_mono (Kd.N_V (base' := 0) ho12) (fun k_ hk => by have h1 := HB10.out.size; have h2 := Hsz11.out; show k_ ≠ w10.heap.size; omega)⟩, ⟨blk_below B11.out hb12⟩, ⟨HB10.out.size⟩⟩
    simp only [putAll, Act.put, List.getElem_toArray, List.getElem_cons_zero, List.getElem_cons_succ, List.setIfInBounds_toArray, List.set_cons_zero, List.set_cons_succ] at h
    exact h
  ·go_simp
   have hb10 : Below W9.heap.size W9 (W9.alloc (.cells #[.int .i64 0, .slice none 0 0] 30)).drew := below_drew1 ((Below.refl _ W9).alloc (Nat.le_refl _) _)
   have HB10 := Aside0.mk hb10
   have B10 : Aside0 ((W9.alloc (.cells #[.int .i64 0, .slice none 0 0] 30)).drew.heap[W9.heap.size]? = some (.cells #[.int .i64 0, .slice none 0 0] 30 (0, 0))) := ⟨blk_drew (heap_alloc_new W9 _)⟩
   refine hK.out _ _ (Hkeep.out _ HB10.out) (fun hSn_ => ?_)
   clear hK K
   try simp only [Act.put, List.getElem_toArray, List.getElem_cons_zero, List.getElem_cons_succ, List.setIfInBounds_toArray, List.set_cons_zero, List.set_cons_succ]
   clear hb10
   obtain ⟨w10, hw10⟩ : ∃ w10, w10 = (W9.alloc (.cells #[.int .i64 0, .slice none 0 0] 30)).drew := ⟨_, rfl⟩
   have hsz10 : w10.heap.size = W9.heap.size + 1 := by rw [hw10]; simp
   have Hsz10 := Aside0.mk hsz10
   rw [← hw10] at HB10 B10
   rw [← hw10]
   clear hw10 hsz10
   refine wpAnyLast_ready (rs := [4]) (by kernel_rfl) (by simp) ?_
   refine AllReadyL.cons rfl (by decide) (fun K hK => ?_) AllReadyL.nil
   go_simp
   refine (worldmintref01_Around.calls a6 12 q _ H7.out).mono ?_
   rintro e w11 ⟨rfl, hd11⟩
   have HB11 := Aside0.mk (HB10.out.trans (hd11.below.mono HB10.out.size))
   have B11 := Aside0.mk (blk_below B10.out hd11.below)
   have Hsz11 : Aside0 (W9.heap.size + 1 ≤ w11.heap.size) := ⟨by have := hd11.below.size; have := Hsz10.out; omega⟩
   refine hK.out _ _ (Hkeep.out _ HB11.out) (fun hSn_ => ?_)
   clear hK K
   try simp only [Act.put, List.getElem_toArray, List.getElem_cons_zero, List.getElem_cons_succ, List.setIfInBounds_toArray, List.set_cons_zero, List.set_cons_succ]
   clear hd11
   refine wpAnyLast_take (i := 5) (v := ?_) rfl (by kernel_rfl) (by kernel_rfl) (by kernel_rfl) (by kernel_rfl) (by kernel_rfl) (fun _ _ _ h => h) (Or.inl ⟨by rfl, ?_⟩) (by assumption) ?_
   rotate_left
   ·(intro w_ hSw_; (try dsimp only at hSw_); go_simp; try with_reducible rfl)
   try simp only [Act.put, List.getElem_toArray, List.getElem_cons_zero, List.getElem_cons_succ, List.setIfInBounds_toArray, List.set_cons_zero, List.set_cons_succ]
   refine wpAnyLast_ready (rs := [6]) (by kernel_rfl) (by simp) ?_
   refine AllReadyL.cons rfl (by decide) (fun K hK => ?_) AllReadyL.nil
   go_simp
   refine (worldmintref29_Spoilt.calls fl.1 (fun k_ => k_ < W9.heap.size) An cn0 fl.2 a4 a5 (q - 2) one.1 one.2 _ (Kd.V_below V9.out HB11.out) H8.out).mono ?_
   rintro e w12 ⟨vo, rfl, ho12, hb12⟩
   obtain ⟨Ao, co, eo⟩ := Kd.N_slice ho12
   subst eo
   have HB12 := Aside0.mk (HB11.out.trans (hb12.mono HB11.out.size))
   refine hK.out _ _ (Hkeep.out _ HB12.out) (fun hSn_ => ?_)
   clear hK K
   try simp only [Act.put, List.getElem_toArray, List.getElem_cons_zero, List.getElem_cons_succ, List.setIfInBounds_toArray, List.set_cons_zero, List.set_cons_succ]
   have h := Hcont.out (Ao, co, W9.heap.size) _ ⟨HB12, ⟨Kd.V_mono (Kd.N_V (base' := 0) ho12) (fun k_ hk => by have h2 := Hsz11.out; show k_ ≠ W9.heap.size; omega)⟩, ⟨blk_below B11.out hb12⟩, ⟨Nat.le_refl _⟩⟩
   simp only [putAll, Act.put, List.getElem_toArray, List.getElem_cons_zero, List.getElem_cons_succ, List.setIfInBounds_toArray, List.set_cons_zero, List.set_cons_succ] at h
   exact h
end Go.Proofs.Ytdamibblnjeooaa.H

/- Written by a program of this session over the kit's printer: what the functions named below compute, and that the machine's calls compute it. Not trusted: Lean checks it. -/
namespace Go.Proofs.Ytdamibblnjeooaa.H
open Go.RowKit Go.Proofs.YtdamibblnjeooaaW.PrintWords Go.Proofs.YtdamibblnjeooaaW.PrintLast Go.Proofs.YtdamibblnjeooaaW.PrintMore
attribute [local go_sem] max2_int min2_int max_two min_two max_three min_three max_four min_four   -- for this text's walks alone
set_option linter.unusedVariables false
set_option linter.unusedSimpArgs false

/-! ### worldmintlaw29_ProofChecks: function 3 -/
/-- THE ONE PURE STATEMENT of worldmintlaw29_ProofChecks: yours. -/
def worldmintlaw29_ProofChecks.Pure : Prop := ∀ (a0 : Int) (l1 : List Int) (l2 : List Int) (a3 : Int) (a4 : Int) (a5 : Int) (a6 : Int), (Lit.int .i64 a0).wf = true → l1.length ≤ maxLen → l1.length * 8 ≤ 140737488351232 → (∀ x ∈ l1, (Lit.int .i64 x).wf = true) → l2.length ≤ maxLen → l2.length * 8 ≤ 140737488351232 → (∀ x ∈ l2, (Lit.int .i64 x).wf = true) → (Lit.int .i64 a3).wf = true → (Lit.int .i64 a4).wf = true → (Lit.int .i64 a5).wf = true → (Lit.int .i64 a6).wf = true → ∃ k, worldmintlaw29_ProofChecks.f k a0 l1 l2 a3 a4 a5 a6 = some true
theorem worldmintlaw29_ProofChecks.walk (P : worldmintlaw29_ProofChecks.Pure) (a0 : Int) (a1 : Option Addr) (len1 cap1 : Nat) (z1 : List Int) (a2 : Option Addr) (len2 cap2 : Nat) (z2 : List Int) (a3 : Int) (a4 : Int) (a5 : Int) (a6 : Int) (w : World) (w0 : (Lit.int .i64 a0).wf = true) (w1 : (a1 = none ∧ len1 = 0 ∧ cap1 = 0 ∧ z1 = []) ∨ ∃ x, a1 = some x ∧ len1 ≤ cap1 ∧ cap1 ≤ maxLen ∧ z1.length = cap1 ∧ (∀ i, i < z1.length → w.cell? (x.add i) = some (.int .i64 (z1.getD i 0))) ∧ ∀ n ∈ z1, (Lit.int .i64 n).wf = true) (y1 : len1 * 8 ≤ 140737488351232) (w2 : (a2 = none ∧ len2 = 0 ∧ cap2 = 0 ∧ z2 = []) ∨ ∃ x, a2 = some x ∧ len2 ≤ cap2 ∧ cap2 ≤ maxLen ∧ z2.length = cap2 ∧ (∀ i, i < z2.length → w.cell? (x.add i) = some (.int .i64 (z2.getD i 0))) ∧ ∀ n ∈ z2, (Lit.int .i64 n).wf = true) (y2 : len2 * 8 ≤ 140737488351232) (w3 : (Lit.int .i64 a3).wf = true) (w4 : (Lit.int .i64 a4).wf = true) (w5 : (Lit.int .i64 a5).wf = true) (w6 : (Lit.int .i64 a6).wf = true) :
  Calls Try.prog 3 #[.int .i64 a0, .slice a1 len1 cap1, .slice a2 len2 cap2, .int .i64 a3, .int .i64 a4, .int .i64 a5, .int .i64 a6] w fun e w' => e = .returned (.bool true) ∧ Below w.heap.size w w' := by
 obtain ⟨l1, rfl, hr1, hm1, hw1, hc1⟩ := ReadsInt.ofRowC w1
 obtain ⟨l2, rfl, hr2, hm2, hw2, hc2⟩ := ReadsInt.ofRowC w2
 obtain ⟨k, h⟩ := P a0 l1 l2 a3 a4 a5 a6 w0 hm1 y1 hw1 hm2 y2 hw2 w3 w4 w5 w6
 refine (worldmintlaw29_ProofChecks.calls k a0 _ _ l1 _ _ l2 a3 a4 a5 a6 true w (Kd.C_of_reads (d := (0 : Int)) (h1 := fun _ => rfl) hr1) hc1 (Kd.C_of_reads (d := (0 : Int)) (h1 := fun _ => rfl) hr2) hc2 h).mono ?_
 rintro e w' ⟨rfl, hd⟩
 exact ⟨rfl, hd⟩

end Go.Proofs.Ytdamibblnjeooaa.H

/- What the reference of clear computes: by the same plain words. -/
namespace Go.Proofs.Ytdamibblnjeooaa.H
open Go.RowKit Go.Proofs.YtdamibblnjeooaaW.PrintWords Go.Proofs.YtdamibblnjeooaaW.PrintLast
set_option linter.unusedVariables false
set_option linter.unusedSimpArgs false
theorem less_ok (a b : List Int) (ha : a.length ≤ 1000) (hb : b.length ≤ 1000) : Ev (fun k => worldmintref28_Less.f k a b) (lessP a b) := by
 have : ∀ (d e : List Int) (p : Nat), a.drop p = d → b.drop p = e → p ≤ a.length → p ≤ b.length → Ev (fun k => worldmintref28_Less.l0 k a b (p : Int)) (lessP d e) := by
  intro d
  induction d with
  | nil =>
   intro e p hd he hp1 hp2
   have := drop_nil a p hp1 hd
   refine Ev.succ ?_
   simp only [worldmintref28_Less.l0, if_neg (show ¬ (p : Int) < (a.length : Int) by omega)]
   refine Ev.succ ?_
   simp only [worldmintref28_Less.j1, Bool.false_eq_true, if_false]
   cases e with
   | nil =>
    have h2 := drop_nil b p hp2 he
    simp only [decide_eq_false (show ¬ (a.length : Int) < (b.length : Int) by omega), lessP]
    exact Ev.some_
   | cons z e =>
    obtain ⟨_, _, hlt⟩ := drop_cons b p z e he
    simp only [decide_eq_true (show (a.length : Int) < (b.length : Int) by omega), lessP]
    exact Ev.some_
  | cons y d ih =>
   intro e p hd he hp1 hp2
   obtain ⟨hx, hd', hlt⟩ := drop_cons a p y d hd
   refine Ev.succ ?_
   simp only [worldmintref28_Less.l0, if_pos (show (p : Int) < (a.length : Int) by omega)]
   refine Ev.succ ?_
   cases e with
   | nil =>
    have h2 := drop_nil b p hp2 he
    simp only [decide_eq_false (show ¬ (p : Int) < (b.length : Int) by omega), worldmintref28_Less.j1, Bool.false_eq_true, if_false, decide_eq_false (show ¬ (a.length : Int) < (b.length : Int) by omega), lessP]
    exact Ev.some_
   | cons z e =>
    obtain ⟨hx2, he', hlt2⟩ := drop_cons b p z e he
    have hw : wrap64 ((p : Int) + 1) = ((p + 1 : Nat) : Int) := by rw [w64 _ (by omega) (by omega)]; omega
    simp only [decide_eq_true (show (p : Int) < (b.length : Int) by omega), worldmintref28_Less.j1, if_true, if_pos (show (0 : Int) ≤ (p : Int) by omega), if_pos (show (p : Int) < (a.length : Int) by omega), if_pos (show (p : Int) < (b.length : Int) by omega), rd_at a p y hx, rd_at b p z hx2, hw, lessP]
    by_cases c : y = z
    ·subst c
     simp only [if_true]
     exact ih e (p + 1) hd' he' (by omega) (by omega)
    ·simp only [if_neg c]
     exact Ev.some_
 exact this a b 0 rfl rfl (Nat.zero_le _) (Nat.zero_le _)
end Go.Proofs.Ytdamibblnjeooaa.H

/- The reference's best choice is the search's. -/
namespace Go.Proofs.Ytdamibblnjeooaa.H
open Go.RowKit Go.Proofs.YtdamibblnjeooaaW.PrintWords Go.Proofs.YtdamibblnjeooaaW.PrintLast
set_option linter.unusedVariables false
set_option linter.unusedSimpArgs false
set_option maxHeartbeats 1000000 in
theorem rbest_l1 (l : List S85) (hb : ∀ b ∈ l, b.f2.length ≤ 9223372036854775807) (hl : l.length ≤ 10) (hp : ∀ b ∈ l, 1 ≤ b.f1 ∧ b.f1 ≤ 1099511627776) (x1 : Int) (T : Nat) (hT : 2 ^ l.length = T) (hpow : T ≤ 1024) :
  ∀ (d : Nat) (m : Nat) (win : List Int) (value : Int), T - m = d → m ≤ T → (∃ b0, b0 < T ∧ choiceP l.length b0 0 = win) → okS (fun b => b.f0 != x1) (l.map cv) [] win = true → valP (l.map cv) win = value →
  (∀ b, b < m → okS (fun b => b.f0 != x1) (l.map cv) [] (choiceP l.length b 0) = true → valP (l.map cv) (choiceP l.length b 0) ≤ value ∧ (valP (l.map cv) (choiceP l.length b 0) = value → lessP (choiceP l.length b 0) win = false)) →
  Ev (fun k => worldmintref28_best.l1 k l x1 win value (T : Int) (m : Int)) (searchP (fun b => b.f0 != x1) (l.map cv)) := by
 intro d
 induction d with
 | zero =>
  intro m win value hd hm hw0 hok hv hall
  obtain ⟨b0, h0, hw⟩ := hw0
  have hu := best_unique (U := fun b => b.f0 != x1) (l := l.map cv) (fun b hb' => by obtain ⟨y, hy, rfl⟩ := List.mem_map.1 hb'; exact (hp y hy).1) win value b0 (by rw [List.length_map, hT]; exact h0) (by simpa using hw) hok hv (fun b hbl => by
   rw [List.length_map, hT] at hbl
   have := hall b (by omega)
   simpa using this)
  refine Ev.succ ?_
  simp only [worldmintref28_best.l1, if_neg (show ¬ (m : Int) < (T : Int) by omega)]
  rw [← hu]
  exact Ev.some_
 | succ d ih =>
  intro m win value hd hm hw0 hok hv hall
  have hwm : wrap64 ((m : Int) + 1) = ((m + 1 : Nat) : Int) := by rw [w64 _ (by omega) (by omega)]; omega
  have hch := choice_ok l.length (by omega) l.length 0 m [] (by omega) (by omega) (by simp) (by omega)
  rw [List.nil_append] at hch
  have hrise := choice_rise l.length m
  have hclen := choice_len l.length m 0
  have hsplit := okS_split (fun b => b.f0 != x1) (l.map cv) (choiceP l.length m 0) []
  have hwin : win.length ≤ 1000 := by obtain ⟨b0, _, rfl⟩ := hw0; have := choice_len l.length b0 0; omega
  obtain ⟨c, hc⟩ : ∃ c, c = choiceP l.length m 0 := ⟨_, rfl⟩
  rw [← hc] at hch hrise hclen hsplit
  have hval := rvalue_ok l c hrise.1 (by omega) (fun b hb' => by have := hp b hb'; omega)
  have hfe := rfeas_ok l hb c hrise (by omega)
  -- THE STEP, WHATEVER IS FOUND OF THIS CHOICE
  have hnew : okS (fun b => b.f0 != x1) (l.map cv) [] c = true → (value < valP (l.map cv) c ∨ (valP (l.map cv) c = value ∧ lessP c win = true)) → Ev (fun k => worldmintref28_best.l1 k l x1 c (valP (l.map cv) c) (T : Int) ((m + 1 : Nat) : Int)) (searchP (fun b => b.f0 != x1) (l.map cv)) := fun hokc hbet => by
   refine ih (m + 1) c _ (by omega) (by omega) ⟨m, by omega, hc.symm⟩ hokc rfl (fun b hbm hbo => ?_)
   rcases Nat.lt_or_ge b m with hlt | hge
   ·obtain ⟨h1, h2⟩ := hall b hlt hbo
    refine ⟨by omega, fun e => ?_⟩
    rcases hbet with hg | ⟨he, hle⟩
    ·omega
    ·have h3 := h2 (by omega)
     cases hc2 : lessP (choiceP l.length b 0) c with
     | false => rfl
     | true => rw [less_trans _ _ _ hc2 hle] at h3; cases h3
   ·obtain rfl : b = m := by omega
    rw [← hc]
    exact ⟨Int.le_refl _, fun _ => less_irrefl c⟩
  have hold : (okS (fun b => b.f0 != x1) (l.map cv) [] c = true → valP (l.map cv) c ≤ value ∧ (valP (l.map cv) c = value → lessP c win = false)) → Ev (fun k => worldmintref28_best.l1 k l x1 win value (T : Int) ((m + 1 : Nat) : Int)) (searchP (fun b => b.f0 != x1) (l.map cv)) := fun hno => by
   refine ih (m + 1) win value (by omega) (by omega) hw0 hok hv (fun b hbm hbo => ?_)
   rcases Nat.lt_or_ge b m with hlt | hge
   ·exact hall b hlt hbo
   ·obtain rfl : b = m := by omega
    rw [← hc] at hbo ⊢
    exact hno hbo
  have hl2 : ∀ (e : List Int) (p : Nat) (v : Bool), c.drop p = e → p ≤ c.length → (v && e.all fun k => ((l.map cv).getD k.toNat z82).f0 != x1) = okS (fun b => b.f0 != x1) (l.map cv) [] c →
    Ev (fun k => worldmintref28_best.l2 k l x1 win value (T : Int) (m : Int) c v (p : Int)) (searchP (fun b => b.f0 != x1) (l.map cv)) := by
   intro e
   induction e with
   | nil =>
    intro p v hde hpc hvv
    have hpl := drop_nil c p hpc hde
    simp only [List.all_nil, Bool.and_true] at hvv
    refine Ev.succ ?_
    simp only [worldmintref28_best.l2, if_neg (show ¬ (p : Int) < (c.length : Int) by omega), hwm]
    refine Ev.bind hval ?_
    cases hvb : v
    ·simp only [Bool.false_eq_true, if_false]
     exact hold (fun h => by rw [← hvv, hvb] at h; cases h)
    ·have hokc : okS (fun b => b.f0 != x1) (l.map cv) [] c = true := by rw [← hvv, hvb]
     simp only [if_true]
     by_cases c1 : valP (l.map cv) c > value
     ·simp only [if_pos c1]
      exact hnew hokc (.inl c1)
     ·simp only [if_neg c1]
      by_cases c2 : valP (l.map cv) c = value
      ·simp only [if_pos c2]
       refine Ev.bind (less_ok c win (by omega) hwin) ?_
       cases hle : lessP c win
       ·simp only [Bool.false_eq_true, if_false]
        exact hold (fun _ => ⟨by omega, fun _ => hle⟩)
       ·simp only [if_true]
        exact hnew hokc (.inr ⟨c2, hle⟩)
      ·simp only [if_neg c2]
       exact hold (fun _ => ⟨by omega, fun h => absurd h c2⟩)
   | cons y e ih2 =>
    intro p v hde hpc hvv
    obtain ⟨hx, hd', hlt⟩ := drop_cons c p y e hde
    obtain ⟨hy0, hy1⟩ := hrise.1 y (List.mem_of_getElem? hx)
    have hwp : wrap64 ((p : Int) + 1) = ((p + 1 : Nat) : Int) := by rw [w64 _ (by omega) (by omega)]; omega
    have he : ∀ k, worldmintref28_best.l2 (k + 1) l x1 win value (T : Int) (m : Int) c v (p : Int) = worldmintref28_best.l2 k l x1 win value (T : Int) (m : Int) c (v && ((l.map cv).getD y.toNat z82).f0 != x1) ((p + 1 : Nat) : Int) := by
     intro k
     rw [worldmintref28_best.l2, if_pos (Int.ofNat_lt.2 hlt), hwp, rd_at c p y hx, if_pos (Int.natCast_nonneg p), if_pos hy0, if_pos hy1, ← rdR_cv]
     cases v
     ·rfl
     ·rfl
    have hrec := ih2 (p + 1) (v && ((l.map cv).getD y.toNat z82).f0 != x1) hd' hlt (by rw [← hvv, List.all_cons, Bool.and_assoc])
    refine Ev.succ ?_
    simp only [he]
    exact hrec
  refine Ev.succ ?_
  simp only [worldmintref28_best.l1, if_pos (show (m : Int) < (T : Int) by omega)]
  refine Ev.bind (a := c) ?_ ?_
  ·rw [hc] at hch ⊢
   exact hch
  ·refine Ev.bind hfe ?_
   refine hl2 c 0 _ rfl (Nat.zero_le _) ?_
   rw [hsplit]
theorem rbest_ok (l : List S85) (hb : ∀ b ∈ l, b.f2.length ≤ 9223372036854775807) (hl : l.length ≤ 10) (hp : ∀ b ∈ l, 1 ≤ b.f1 ∧ b.f1 ≤ 1099511627776) (x1 : Int) :
  Ev (fun k => worldmintref28_best.f k l x1) (searchP (fun b => b.f0 != x1) (l.map cv)) := by
 have hpow1 : 2 ^ l.length ≤ 1024 := Nat.le_trans (Nat.pow_le_pow_right (by omega) hl) (by simp)
 have h1 := rbest_l1 l hb hl hp x1 (2 ^ l.length) rfl hpow1 _ 0 [] 0 rfl (Nat.zero_le _) ⟨0, Nat.two_pow_pos _, by
  have : ∀ n i, choiceP n 0 i = [] := by
   intro n
   induction n with
   | zero => intro i; rfl
   | succ n ih => intro i; simp [choiceP, ih]
  exact this _ _⟩ rfl rfl (fun b hb => by omega)
 have : ∀ (d p : Nat), l.length - p = d → p ≤ l.length → Ev (fun k => worldmintref28_best.l0 k l x1 0 ((2 ^ p : Nat) : Int) (p : Int)) (searchP (fun b => b.f0 != x1) (l.map cv)) := by
  intro d
  induction d with
  | zero =>
   intro p hd hpl
   obtain rfl : p = l.length := by omega
   refine Ev.succ ?_
   simp only [worldmintref28_best.l0, if_neg (show ¬ (l.length : Int) < (l.length : Int) by omega)]
   exact h1
  | succ d ih =>
   intro p hd hpl
   have hpow : 2 ^ p ≤ 1024 := Nat.le_trans (Nat.pow_le_pow_right (by omega) (show p ≤ 10 by omega)) (by simp)
   have hw : wrap64 ((p : Int) + 1) = ((p + 1 : Nat) : Int) := by rw [w64 _ (by omega) (by omega)]; omega
   have hw2 : wrap64 (((2 ^ p : Nat) : Int) * 2) = ((2 ^ (p + 1) : Nat) : Int) := by
    rw [Nat.pow_succ]
    generalize 2 ^ p = P at *
    rw [w64 _ (by omega) (by omega)]; omega
   refine Ev.succ ?_
   simp only [worldmintref28_best.l0, if_pos (show (p : Int) < (l.length : Int) by omega), hw, hw2]
   exact ih (p + 1) (by omega) (by omega)
 exact this _ 0 rfl (Nat.zero_le _)
/-- Where every bidder has a number, leaving out nobody's bids leaves out none. -/
theorem search_all (l : List S82) (x1 : Int) (h : ∀ b ∈ l, b.f0 ≠ x1) : searchP (fun b => b.f0 != x1) l = searchP (fun _ => true) l := by
 have hr : ∀ left : List S82, (∀ b ∈ left, b.f0 ≠ x1) → restOf (fun b => b.f0 != x1) left = restOf (fun _ => true) left := by
  intro left
  induction left with
  | nil => intro _; rfl
  | cons b left ih =>
   intro hh
   have := hh b (by simp)
   simp only [restOf, ih (fun x hx => hh x (by simp [hx]))]
   simp [this]
 have : ∀ (left : List S82) (i : Nat) (value : Int) (win : List Int) (st : Int × List Int × Int), (∀ b ∈ left, b.f0 ≠ x1) → tryP (fun b => b.f0 != x1) l left i value win st = tryP (fun _ => true) l left i value win st := by
  intro left
  induction left with
  | nil => intro i value win st _; rfl
  | cons b left ih =>
   intro i value win st hh
   obtain ⟨best, out, val⟩ := st
   have hb : (b.f0 != x1) = true := by simpa using hh b (by simp)
   have hl : ∀ x ∈ left, x.f0 ≠ x1 := fun x hx => hh x (by simp [hx])
   simp only [tryP, hr (b :: left) hh, hb, ih _ _ _ _ hl]
 unfold searchP
 rw [this l 0 0 [] (-1, [], 0) h]
end Go.Proofs.Ytdamibblnjeooaa.H

/- Bids that are fine. Plain. -/
namespace Go.Proofs.Ytdamibblnjeooaa.H
open Go.RowKit
set_option linter.unusedVariables false
set_option linter.unusedSimpArgs false
/-- A good bid, its price raised. -/
def Fine (n : Int) (b : S82) : Prop := 1 ≤ b.f0 ∧ b.f0 ≤ 1073741824 ∧ 1 ≤ b.f1 ∧ b.f1 ≤ 1000 ∧ b.f2.length ≠ 0 ∧ lotsOk n (-1) b.f2 = true
theorem fine_err (n : Int) : ∀ l : List S82, (∀ b ∈ l, Fine n b) → bidsErr n l = 0
 | [], _ => rfl
 | b :: l, h => by
  obtain ⟨h1, h2, h3, h4, h5, h6⟩ := h b (by simp)
  unfold bidsErr
  rw [if_neg (by simp; omega), if_neg (by simp; omega), if_neg (by simpa using h5), h6]
  simpa using fine_err n l (fun x hx => h x (by simp [hx]))
theorem fine_valid (n : Int) (l : List S82) (h1 : 1 ≤ n) (h8 : n ≤ 8) (hl : l.length ≤ 10) (h : ∀ b ∈ l, Fine n b) : validP n l = 0 := by
 unfold validP
 rw [if_neg (by simp; omega), if_neg (by omega)]
 exact fine_err n l h
end Go.Proofs.Ytdamibblnjeooaa.H

/- Win: a feasible choice. A leaf at the root. Plain. -/
namespace Go.Proofs.Ytdamibblnjeooaa.H
open Go.RowKit Go.Proofs.YtdamibblnjeooaaW.PrintWords Go.Proofs.YtdamibblnjeooaaW.PrintLast
set_option linter.unusedVariables false
set_option linter.unusedSimpArgs false
theorem wf_any (x : Int) : (Lit.int .i64 (wrap64 x)).wf = true := by
 have h : -9223372036854775808 ≤ wrap64 x ∧ wrap64 x ≤ 9223372036854775807 := by unfold wrap64; omega
 simpa [Lit.wf, IntKind.min, IntKind.max, IntKind.signed, IntKind.bits] using h
theorem okS_take (l : List S82) : ∀ (s win : List Int) (m : Nat), okS (fun _ => true) l win s = true → okS (fun _ => true) l win (s.take m) = true
 | [], _, _, h => by simpa using h
 | k :: s, win, 0, _ => by simp [okS]
 | k :: s, win, m + 1, h => by
  simp only [okS, Bool.and_eq_true, List.take_succ_cons] at h ⊢
  exact ⟨h.1, okS_take l s _ m h.2⟩
theorem feas_sel (l : List S82) (s : List Int) (h0 : ∀ k ∈ s, 0 ≤ k ∧ k < l.length) (h1 : s.Pairwise (· < ·)) (h : okS (fun _ => true) l [] s = true) : feasP l [] s = true := by
 rw [feas_ok l s [] h0 h1 (by simp)]; exact h
theorem win_ok (t : Int) (L : List S85) (hL : L.length ≤ 10) (hb : ∀ b ∈ L, b.f2.length ≤ 9223372036854775807) (hp : ∀ b ∈ L, 1 ≤ b.f1 ∧ b.f1 ≤ 1099511627776) (h0 : ∀ b ∈ L, b.f0 ≠ 0) (hv : validP t (L.map cv) = 0) (a : Int) (wa : (Lit.int .i64 a).wf = true) :
  ∃ win, Ev (fun k => worldmintref29_Win.f k t L a) win ∧ feasP (L.map cv) [] win = true := by
 have hpc : ∀ b ∈ L.map cv, 1 ≤ b.f1 := fun b hb => by
  obtain ⟨y, hy, rfl⟩ := List.mem_map.1 hb
  exact (hp y hy).1
 have hlm : (L.map cv).length = L.length := List.length_map ..
 have hbest := rbest_ok L hb hL hp 0
 rw [search_all (L.map cv) 0 (fun b hb => by
  obtain ⟨y, hy, rfl⟩ := List.mem_map.1 hb
  exact h0 y hy)] at hbest
 obtain ⟨p, hib, hse⟩ := search_best (fun _ => true) (L.map cv) hpc
 rw [hse] at hbest
 have hBest : Ev (fun k => worldmintref28_Best.f k t L) (sel p (L.map cv).length 0, valB (L.map cv) p, 0) := by
  unfold worldmintref28_Best.f
  refine Ev.bind (rvalid_ok t L hb) ?_
  rw [hv]
  simp only [if_true]
  exact Ev.bind hbest Ev.some_
 have hok := (ok_sel (fun _ => true) (L.map cv) p).2 hib.feas
 have hsr : ∀ k ∈ sel p (L.map cv).length 0, 0 ≤ k ∧ k < (L.map cv).length := fun k hk => by
  obtain ⟨q, hq, _, rfl⟩ := (mem_sel0 _ _ _).1 hk
  omega
 have hsp := rise_sel p (L.map cv).length 0
 have hsl := sel_len p (L.map cv).length 0
 obtain ⟨r4, hr4, _, _⟩ := around_ok a 4 wa (by omega)
 obtain ⟨c, hc, hc0, hc1⟩ := around_ok (wrap64 (Int.tdiv a 4)) 1024 (wf_any _) (by omega)
 generalize sel p (L.map cv).length 0 = s at *
 unfold worldmintref29_Win.f
 by_cases h4 : r4 > 0
 ·refine ⟨s, Ev.bind hBest ?_, feas_sel _ s hsr hsp hok⟩
  simp only [hr4, Option.bind_some, if_pos h4]
  exact Ev.some_
 ·have hch := choice_ok L.length (by omega) L.length 0 c.toNat [] (Nat.sub_zero _) (Nat.zero_le _) (Nat.le_refl _) (by omega)
  rw [List.nil_append, show ((c.toNat : Nat) : Int) = c by omega] at hch
  have hcr := choice_rise L.length c.toNat
  have hcl := choice_len L.length c.toNat 0
  have hfe := rfeas_ok L hb (choiceP L.length c.toNat 0) hcr (by omega)
  cases hq : okS (fun _ => true) (L.map cv) [] (choiceP L.length c.toNat 0)
  ·rw [hq] at hfe
   have hw : wrap64 ((s.length : Int) / 2) = ((s.length / 2 : Nat) : Int) := by rw [w64 _ (by omega) (by omega)]; omega
   refine ⟨s.take (s.length / 2), Ev.bind hBest ?_, feas_sel _ _ (fun k hk => hsr k (List.mem_of_mem_take hk)) (hsp.sublist (List.take_sublist ..)) (okS_take _ _ _ _ hok)⟩
   simp only [hr4, hc, Option.bind_some, if_neg h4]
   refine Ev.bind (a := choiceP L.length c.toNat 0) hch ?_
   refine Ev.bind hfe ?_
   simp only [Bool.false_eq_true, if_false, hw, if_pos (show (0 : Int) ≤ ((s.length / 2 : Nat) : Int) by omega), if_pos (show ((s.length / 2 : Nat) : Int) ≤ (s.length : Int) by omega), Int.toNat_natCast]
   exact Ev.some_
  ·rw [hq] at hfe
   refine ⟨choiceP L.length c.toNat 0, Ev.bind hBest ?_, feas_sel _ _ (by rw [hlm]; exact hcr.1) hcr.2 hq⟩
   simp only [hr4, hc, Option.bind_some, if_neg h4]
   refine Ev.bind (a := choiceP L.length c.toNat 0) hch ?_
   refine Ev.bind hfe ?_
   simp only [if_true]
   exact Ev.some_
end Go.Proofs.Ytdamibblnjeooaa.H

/- The drawn prices. Plain. -/
namespace Go.Proofs.Ytdamibblnjeooaa.H
open Go.RowKit Go.Proofs.YtdamibblnjeooaaW.PrintWords Go.Proofs.YtdamibblnjeooaaW.PrintLast
set_option linter.unusedVariables false
set_option linter.unusedSimpArgs false
theorem rlots_ok (n : Int) (m : List Int) (hm : ∀ x ∈ m, (Lit.int .i64 x).wf = true) (hn0 : 0 ≤ n) (hn8 : n ≤ 8) : ∃ ps, Ev (fun k => worldmintref28_Lots.f k n m) ps ∧ (ps.length : Int) = n ∧ ∀ p ∈ ps, 0 ≤ p ∧ p < 12 := by
 have : ∀ (d : Nat) (acc : List Int), (n - acc.length).toNat = d → (acc.length : Int) ≤ n → (∀ p ∈ acc, 0 ≤ p ∧ p < 12) → ∃ ps, Ev (fun k => worldmintref28_Lots.l0 k n m acc (acc.length : Int)) ps ∧ (ps.length : Int) = n ∧ ∀ p ∈ ps, 0 ≤ p ∧ p < 12 := by
  intro d
  induction d with
  | zero =>
   intro acc hd hl ha
   refine ⟨acc, Ev.succ ?_, by omega, ha⟩
   simp only [worldmintref28_Lots.l0, if_neg (show ¬ (acc.length : Int) < n by omega)]
   exact Ev.some_
  | succ d ih =>
   intro acc hd hl ha
   obtain ⟨r, hr, hr0, hr1⟩ := pick_ok m (acc.length : Int) 12 hm (by omega)
   have hw : wrap64 ((acc.length : Int) + 1) = ((acc ++ [r]).length : Int) := by rw [w64 _ (by omega) (by omega)]; simp
   obtain ⟨ps, h1, h2⟩ := ih (acc ++ [r]) (by simp; omega) (by simp; omega) (fun p hp => by
    rcases List.mem_append.1 hp with h | h
    ·exact ha p h
    ·rw [List.mem_singleton] at h; subst h; exact ⟨hr0, hr1⟩)
   refine ⟨ps, Ev.succ ?_, h2⟩
   simp only [worldmintref28_Lots.l0, if_pos (show (acc.length : Int) < n by omega), hr, Option.bind_some, if_pos (show acc.length < 17592186044416 by omega), hw]
   exact h1
 simpa [worldmintref28_Lots.f] using this _ [] rfl (by simpa using hn0) (by simp)
end Go.Proofs.Ytdamibblnjeooaa.H

/- The sum of a map of greatest surpluses, as the references reckon it: for each first bid of a bidder the greatest one. Plain. -/
namespace Go.Proofs.Ytdamibblnjeooaa.H
open Go.RowKit
set_option linter.unusedVariables false
set_option linter.unusedSimpArgs false
/-- The map, entry by entry. -/
def spG (can : Nat → Bool) (key sv : Nat → Int) (m : Nat) : List (Int × Int) := (List.range m).foldl (fun s i => if can i then addS s (key i) (sv i) else s) []
/-- The greatest one of a bidder. -/
def gS (can : Nat → Bool) (key sv : Nat → Int) (x : Int) (m : Nat) : Int := (List.range m).foldl (fun t k => if can k = true ∧ key k = x ∧ t < sv k then sv k else t) 0
def firstB (key : Nat → Int) (i : Nat) : Bool := (List.range i).all fun k => decide (key k ≠ key i)
/-- What the references add. -/
def sumG (G : Int → Int) (key : Nat → Int) (m : Nat) : Int := ((List.range m).map fun i => if firstB key i then G (key i) else 0).sum
theorem spG_succ (can : Nat → Bool) (key sv : Nat → Int) (m : Nat) : spG can key sv (m + 1) = if can m then addS (spG can key sv m) (key m) (sv m) else spG can key sv m := by
 unfold spG; rw [List.range_succ, List.foldl_append]; rfl
theorem gS_succ (can : Nat → Bool) (key sv : Nat → Int) (x : Int) (m : Nat) : gS can key sv x (m + 1) = if can m = true ∧ key m = x ∧ gS can key sv x m < sv m then sv m else gS can key sv x m := by
 unfold gS; rw [List.range_succ, List.foldl_append]; rfl
theorem sumG_succ (G : Int → Int) (key : Nat → Int) (m : Nat) : sumG G key (m + 1) = sumG G key m + if firstB key m then G (key m) else 0 := by
 unfold sumG; rw [List.range_succ, List.map_append, List.sum_append]; simp
theorem look_addS (k s x : Int) : ∀ M : List (Int × Int), lookI (addS M k s) x = if x = k then some (if (lookI M k).getD 0 < s then s else (lookI M k).getD 0) else lookI M x
 | [] => by
  by_cases h : x = k
  ·subst h
   simp only [addS, lookI, if_true, Option.getD_none]
   first | rfl | (by_cases g : 0 < s <;> simp [g])
  ·rw [if_neg h]
   simp only [addS, lookI]
   rw [if_neg (fun e => h e.symm)]
 | (j, v) :: M => by
  have ih := look_addS k s x M
  by_cases hj : j = k
  ·subst hj
   simp only [addS, if_true, lookI]
   by_cases h : j = x
   ·subst h; simp
   ·rw [if_neg h, if_neg (fun e => h e.symm), if_neg h]
  ·simp only [addS, if_neg hj, lookI]
   by_cases h : j = x
   ·subst h
    rw [if_pos rfl, if_neg hj, if_pos rfl]
   ·rw [if_neg h, ih, if_neg h]
theorem keys_addS (k s : Int) : ∀ M : List (Int × Int), ∀ y, y ∈ (addS M k s).map (·.1) ↔ y = k ∨ y ∈ M.map (·.1)
 | [], y => by simp [addS]
 | (j, v) :: M, y => by
  have ih := keys_addS k s M y
  by_cases hj : j = k
  ·subst hj; simp [addS]
  ·simp only [addS, if_neg hj, List.map_cons, List.mem_cons, ih]
   constructor
   ·rintro (h | h | h)
    ·exact .inr (.inl h)
    ·exact .inl h
    ·exact .inr (.inr h)
   ·rintro (h | h | h)
    ·exact .inr (.inl h)
    ·exact .inl h
    ·exact .inr (.inr h)
theorem nodup_addS (k s : Int) : ∀ M : List (Int × Int), (M.map (·.1)).Nodup → ((addS M k s).map (·.1)).Nodup
 | [], _ => by simp [addS]
 | (j, v) :: M, h => by
  simp only [List.map_cons, List.nodup_cons] at h
  by_cases hj : j = k
  ·subst hj; simpa [addS] using h
  ·simp only [addS, if_neg hj, List.map_cons, List.nodup_cons]
   refine ⟨fun hm => ?_, nodup_addS k s M h.2⟩
   rcases (keys_addS k s M j).1 hm with e | e
   ·exact hj e
   ·exact h.1 e
theorem spG_nodup (can : Nat → Bool) (key sv : Nat → Int) : ∀ m, ((spG can key sv m).map (·.1)).Nodup
 | 0 => by simp [spG]
 | m + 1 => by
  rw [spG_succ]
  split
  ·exact nodup_addS _ _ _ (spG_nodup can key sv m)
  ·exact spG_nodup can key sv m
theorem spG_look (can : Nat → Bool) (key sv : Nat → Int) (x : Int) : ∀ m, (lookI (spG can key sv m) x).getD 0 = gS can key sv x m
 | 0 => rfl
 | m + 1 => by
  have ih := spG_look can key sv x m
  rw [spG_succ, gS_succ]
  by_cases hc : can m = true
  ·rw [if_pos hc, look_addS]
   by_cases hx : x = key m
   ·subst hx
    rw [if_pos rfl, ih]
    by_cases hlt : gS can key sv (key m) m < sv m
    ·rw [if_pos hlt, if_pos ⟨hc, rfl, hlt⟩]; rfl
    ·rw [if_neg hlt, if_neg (fun h => hlt h.2.2)]; rfl
   ·rw [if_neg hx, ih, if_neg (fun h => hx h.2.1.symm)]
  ·rw [if_neg hc, ih, if_neg (fun h => hc h.1)]
theorem spG_keys (can : Nat → Bool) (key sv : Nat → Int) : ∀ m y, y ∈ (spG can key sv m).map (·.1) → ∃ k, k < m ∧ key k = y
 | 0, y, h => by simp [spG] at h
 | m + 1, y, h => by
  rw [spG_succ] at h
  split at h
  ·rcases (keys_addS _ _ _ y).1 h with e | e
   ·exact ⟨m, by omega, e.symm⟩
   ·obtain ⟨k, hk, e⟩ := spG_keys can key sv m y e
    exact ⟨k, by omega, e⟩
  ·obtain ⟨k, hk, e⟩ := spG_keys can key sv m y h
   exact ⟨k, by omega, e⟩
theorem look_none (x : Int) : ∀ M : List (Int × Int), ¬ x ∈ M.map (·.1) → lookI M x = none
 | [], _ => rfl
 | (j, v) :: M, h => by
  simp only [List.map_cons, List.mem_cons, not_or] at h
  simp only [lookI, if_neg (fun e : j = x => h.1 e.symm)]
  exact look_none x M h.2
theorem vals_sum : ∀ M : List (Int × Int), (M.map (·.1)).Nodup → (M.map (·.2)).sum = ((M.map (·.1)).map fun x => (lookI M x).getD 0).sum
 | [], _ => rfl
 | (j, v) :: M, h => by
  simp only [List.map_cons, List.nodup_cons] at h
  have ih := vals_sum M h.2
  simp only [List.map_cons, List.sum_cons, lookI, if_true, Option.getD_some]
  rw [ih]
  congr 2
  refine List.map_congr_left (fun x hx => ?_)
  rw [if_neg (fun e : j = x => h.1 (e ▸ hx))]
theorem sum_erase (G : Int → Int) (a : Int) : ∀ K : List Int, a ∈ K → (K.map G).sum = G a + ((K.erase a).map G).sum
 | [], h => by cases h
 | b :: K, h => by
  by_cases e : b = a
  ·subst e; simp
  ·have h2 : a ∈ K := by
    rcases List.mem_cons.1 h with h | h
    ·exact absurd h.symm e
    ·exact h
   rw [List.erase_cons_tail (by simpa using e)]
   simp only [List.map_cons, List.sum_cons]
   rw [sum_erase G a K h2]; omega
theorem sumG_congr (G G' : Int → Int) (key : Nat → Int) : ∀ m, (∀ i, i < m → G (key i) = G' (key i)) → sumG G key m = sumG G' key m
 | 0, _ => rfl
 | m + 1, h => by rw [sumG_succ, sumG_succ, sumG_congr G G' key m (fun i hi => h i (by omega)), h m (by omega)]
theorem first_sum (key : Nat → Int) : ∀ (m : Nat) (G : Int → Int) (K : List Int), K.Nodup → (∀ x ∈ K, ∃ k, k < m ∧ key k = x) → (∀ x, ¬ x ∈ K → G x = 0) → sumG G key m = (K.map G).sum
 | 0, G, K, _, hk, _ => by
  have : K = [] := by
   cases K with
   | nil => rfl
   | cons x K => obtain ⟨k, hk, _⟩ := hk x (by simp); omega
  subst this; rfl
 | m + 1, G, K, hn, hk, hz => by
  rw [sumG_succ]
  cases hf : firstB key m
  ·obtain ⟨q, hq, he⟩ : ∃ q, q < m ∧ key q = key m := by
    unfold firstB at hf
    obtain ⟨q, hq, h⟩ := List.all_eq_false.1 hf
    exact ⟨q, List.mem_range.1 hq, by simpa using h⟩
   simp only [Bool.false_eq_true, if_false, Int.add_zero]
   refine first_sum key m G K hn (fun x hx => ?_) hz
   obtain ⟨k, hk1, e⟩ := hk x hx
   rcases Nat.lt_succ_iff_lt_or_eq.1 hk1 with h | rfl
   ·exact ⟨k, h, e⟩
   ·exact ⟨q, hq, he.trans e⟩
  ·have hne : ∀ q, q < m → key q ≠ key m := fun q hq => by
    unfold firstB at hf
    simpa using List.all_eq_true.1 hf q (List.mem_range.2 hq)
   simp only [if_true]
   by_cases hm : key m ∈ K
   ·rw [sum_erase G (key m) K hm]
    have h1 := first_sum key m (fun x => if x = key m then 0 else G x) (K.erase (key m)) (hn.erase _) (fun x hx => by
     obtain ⟨k, hk1, e⟩ := hk x (List.mem_of_mem_erase hx)
     rcases Nat.lt_succ_iff_lt_or_eq.1 hk1 with h | rfl
     ·exact ⟨k, h, e⟩
     ·exact absurd e.symm ((List.Nodup.mem_erase_iff hn).1 hx).1) (fun x hx => by
     by_cases e : x = key m
     ·simp [e]
     ·simp only [if_neg e]
      exact hz x (fun h => hx ((List.Nodup.mem_erase_iff hn).2 ⟨e, h⟩)))
    have h2 : sumG G key m = sumG (fun x => if x = key m then 0 else G x) key m := sumG_congr _ _ key m (fun i hi => by simp [hne i hi])
    have h3 : ((K.erase (key m)).map fun x => if x = key m then 0 else G x) = (K.erase (key m)).map G := List.map_congr_left (fun x hx => if_neg ((List.Nodup.mem_erase_iff hn).1 hx).1)
    rw [h2, h1, h3]; omega
   ·rw [hz _ hm, Int.add_zero]
    refine first_sum key m G K hn (fun x hx => ?_) hz
    obtain ⟨k, hk1, e⟩ := hk x hx
    rcases Nat.lt_succ_iff_lt_or_eq.1 hk1 with h | rfl
    ·exact ⟨k, h, e⟩
    ·exact absurd (e ▸ hx) hm
/-- The sum of the map's values. -/
theorem spG_sum (can : Nat → Bool) (key sv : Nat → Int) (m : Nat) : ((spG can key sv m).map (·.2)).sum = sumG (fun x => gS can key sv x m) key m := by
 rw [vals_sum _ (spG_nodup can key sv m)]
 have h : (fun x => (lookI (spG can key sv m) x).getD 0) = fun x => gS can key sv x m := funext fun x => spG_look can key sv x m
 rw [h]
 refine (first_sum key m _ _ (spG_nodup can key sv m) (fun x hx => spG_keys can key sv m x hx) (fun x hx => ?_)).symm
 rw [← spG_look, look_none x _ hx]; rfl
end Go.Proofs.Ytdamibblnjeooaa.H

/- The reference's Bound (chapter 29) is the checker's. Plain. -/
namespace Go.Proofs.Ytdamibblnjeooaa.H
open Go.RowKit Go.Proofs.YtdamibblnjeooaaW.PrintWords Go.Proofs.YtdamibblnjeooaaW.PrintLast
set_option linter.unusedVariables false
set_option linter.unusedSimpArgs false
/-- What is known of the bids and the prices. -/
structure BOk (L : List S85) (ps : List Int) : Prop where
 l10 : L.length ≤ 10
 p8 : ps.length ≤ 8
 pr : ∀ x ∈ ps, 0 ≤ x ∧ x ≤ 1099511627776
 f1 : ∀ b ∈ L, 1 ≤ b.f1 ∧ b.f1 ≤ 1099511627776
 f2 : ∀ b ∈ L, b.f2.length ≤ 8 ∧ ∀ k ∈ b.f2, 0 ≤ k ∧ k < ps.length
theorem surp_hi {L : List S85} {ps : List Int} (ok : BOk L ps) (b : S85) (hb : b ∈ L) : surp ps (cv b) ≤ 1099511627776 := by
 have h1 := lots_sum ps ok.pr b.f2
 have h2 := ok.f1 b hb
 unfold surp
 show b.f1 - (b.f2.map fun k => ps.getD k.toNat 0).sum ≤ _
 omega
theorem rs_len (ks d : List Int) (y : Int) (p : Nat) (hd : ks.drop p = y :: d) (hlt : p < ks.length) (h8 : ks.length ≤ 8) : wrap64 ((p : Int) + 1) = ((p + 1 : Nat) : Int) ∧ d.length ≤ 8 ∧ (ks.take p).length ≤ 8 ∧ (0 : Int) ≤ (p : Int) ∧ (p : Int) < (ks.length : Int) := by
 have h1 := congrArg List.length hd
 simp only [List.length_drop, List.length_cons] at h1
 refine ⟨by rw [w64 _ (by omega) (by omega)]; omega, by omega, by rw [List.length_take]; omega, by omega, by omega⟩
theorem lots_le8 {L : List S85} {ps : List Int} (ok : BOk L ps) (ks : List Int) (h : ks.length ≤ 8) : 0 ≤ (ks.map fun k => ps.getD k.toNat 0).sum ∧ (ks.map fun k => ps.getD k.toNat 0).sum ≤ 8796093022208 := by
 have h1 := lots_sum ps ok.pr ks
 generalize (ks.map fun k => ps.getD k.toNat 0).sum = s at *
 generalize ks.length = n at *
 omega
theorem rs_step (s g a b c f v : Int) (hs : s = v + (g + a)) (hsum : c = b + (g + a)) (hsp : v = f - c) (hb1 : 0 ≤ b ∧ b ≤ 8796093022208) (hb2 : 0 ≤ a ∧ a ≤ 8796093022208) (hb3 : 1 ≤ f ∧ f ≤ 1099511627776) (hb4 : 0 ≤ c ∧ c ≤ 8796093022208) : wrap64 (s - g) = v + a := by
 rw [w64 _ (by omega) (by omega)]; omega
theorem all_range_succ (f : Nat → Bool) (m : Nat) : (List.range (m + 1)).all f = ((List.range m).all f && f m) := by
 rw [List.range_succ, List.all_append]; simp
theorem rb_len (i p d n : Nat) (hd : i - p = d + 1) (hp : p ≤ i) (hi : i < n) (h : n ≤ 10) : p < n ∧ wrap64 ((p : Int) + 1) = ((p + 1 : Nat) : Int) ∧ i - (p + 1) = d ∧ p + 1 ≤ i ∧ (p : Int) < (i : Int) ∧ (p : Int) < (n : Int) := by
 refine ⟨by omega, by rw [w64 _ (by omega) (by omega)]; omega, by omega, by omega, by omega, by omega⟩
def keyC (l : List S82) (i : Nat) : Int := (l.getD i z82).f0
def svC (l : List S82) (ps : List Int) (i : Nat) : Int := surp ps (l.getD i z82)
theorem map_getD (L : List S85) (i : Nat) (b : S85) (h : L[i]? = some b) : (L.map cv).getD i z82 = cv b := by
 simp [List.getD, h]
theorem gC_bounds {L : List S85} {ps : List Int} (ok : BOk L ps) (can : Nat → Bool) (x : Int) : ∀ m, m ≤ L.length → 0 ≤ gS can (keyC (L.map cv)) (svC (L.map cv) ps) x m ∧ gS can (keyC (L.map cv)) (svC (L.map cv) ps) x m ≤ 1099511627776
 | 0, _ => by simp [gS]
 | m + 1, h => by
  have ih := gC_bounds ok can x m (by omega)
  have hb : L[m]? = some L[m] := List.getElem?_eq_getElem (by omega)
  have hs := surp_hi ok L[m] (List.getElem_mem (by omega))
  have hv : svC (L.map cv) ps m = surp ps (cv L[m]) := by unfold svC; rw [map_getD L m _ hb]
  rw [gS_succ, hv]
  split
  ·rename_i hc; omega
  ·exact ih
section
variable {L : List S85} {ps : List Int} (ok : BOk L ps) (dec ins outs : List Int) (hd : DecR L.length dec ins outs)
include ok
theorem b9_l5 (acc : Int) (q : Nat) (hq : q < L.length) (i : Nat) (b : S85) (hb : L[i]? = some b) (can : Bool) (out r : Int)
  (hnext : Ev (fun k => worldmintref29_Bound.l4 k L ins outs ps acc (q : Int) (if can = true ∧ b.f0 = keyC (L.map cv) q ∧ out < surp ps (cv b) then surp ps (cv b) else out) ((i + 1 : Nat) : Int)) r) :
  ∀ (d : List Int) (p : Nat) (s : Int), b.f2.drop p = d → p ≤ b.f2.length → s = surp ps (cv b) + (d.map fun k => ps.getD k.toNat 0).sum → Ev (fun k => worldmintref29_Bound.l5 k L ins outs ps acc (q : Int) out (i : Int) can s (p : Int)) r := by
 obtain ⟨hi, hbm⟩ := List.getElem?_eq_some_iff.1 hb
 have hmem : b ∈ L := by rw [← hbm]; exact List.getElem_mem hi
 have h10 := ok.l10
 have hrd := rdR_at L i b hb
 have hf2 := ok.f2 b hmem
 have hbq : L[q]? = some L[q] := List.getElem?_eq_getElem hq
 have hkq : keyC (L.map cv) q = L[q].f0 := by unfold keyC; rw [map_getD L q _ hbq]; rfl
 have hrq := rdR_at L q _ hbq
 have hwi : wrap64 ((i : Int) + 1) = ((i + 1 : Nat) : Int) := by rw [w64 _ (by omega) (by omega)]; omega
 intro d
 induction d with
 | nil =>
  intro p s hd hp hs
  have hpe := drop_nil b.f2 p hp hd
  simp only [List.map_nil, List.sum_nil, Int.add_zero] at hs
  subst hs
  refine Ev.succ ?_
  simp only [worldmintref29_Bound.l5, hrd, hrq, if_pos (show (0 : Int) ≤ (i : Int) by omega), if_pos (show (i : Int) < (L.length : Int) by omega), if_neg (show ¬ (p : Int) < (b.f2.length : Int) by omega), hwi, if_pos (show (0 : Int) ≤ (q : Int) by omega), if_pos (show (q : Int) < (L.length : Int) by omega)]
  rw [hkq] at hnext
  cases can
  ·simp only [Bool.false_eq_true, if_false, false_and] at hnext ⊢
   exact hnext
  ·simp only [if_true, true_and] at hnext ⊢
   by_cases h1 : b.f0 = L[q].f0
   ·simp only [if_pos h1]
    by_cases h2 : out < surp ps (cv b)
    ·rw [if_pos ⟨h1, h2⟩] at hnext
     simp only [if_pos (show surp ps (cv b) > out from h2)]
     exact hnext
    ·rw [if_neg (fun h => h2 h.2)] at hnext
     simp only [if_neg (show ¬ surp ps (cv b) > out from h2)]
     exact hnext
   ·rw [if_neg (fun h => h1 h.1)] at hnext
    simp only [if_neg h1]
    exact hnext
 | cons y d ih =>
  intro p s hd hp hs
  obtain ⟨hy, hd', hlt⟩ := drop_cons b.f2 p y d hd
  obtain ⟨hy0, hy1⟩ := hf2.2 y (List.mem_of_getElem? hy)
  obtain ⟨hwp, hdl, hbt, hpp, hpi⟩ := rs_len b.f2 d y p hd hlt hf2.1
  have hrp : rd ps y = ps.getD y.toNat 0 := rfl
  have hsum : (b.f2.map fun k => ps.getD k.toNat 0).sum = ((b.f2.take p).map fun k => ps.getD k.toNat 0).sum + ((y :: d).map fun k => ps.getD k.toNat 0).sum := by
   rw [← hd, ← List.sum_append, ← List.map_append, List.take_append_drop]
  have hb1 := lots_le8 ok (b.f2.take p) hbt
  have hb2 := lots_le8 ok d hdl
  have hb3 := ok.f1 b hmem
  have hsp : surp ps (cv b) = b.f1 - (b.f2.map fun k => ps.getD k.toNat 0).sum := rfl
  simp only [List.map_cons, List.sum_cons] at hs hsum
  have hw2 : wrap64 (s - ps.getD y.toNat 0) = surp ps (cv b) + (d.map fun k => ps.getD k.toNat 0).sum := rs_step _ _ _ _ _ _ _ hs hsum hsp hb1 hb2 hb3 (lots_le8 ok b.f2 hf2.1)
  refine Ev.succ ?_
  simp only [worldmintref29_Bound.l5, hrd, if_pos (show (0 : Int) ≤ (i : Int) by omega), if_pos (show (i : Int) < (L.length : Int) by omega), if_pos hpi, if_pos hpp, rd_at b.f2 p y hy, if_pos hy0, if_pos hy1, hrp, hw2, hwp]
  exact ih (p + 1) _ hd' hlt rfl
include hd
theorem b9_l4 (acc : Int) (q : Nat) (hq : q < L.length) (r : Int) (hnext : Ev (fun k => worldmintref29_Bound.l2 k L ins outs ps (wrap64 (acc + gS (possP (L.map cv) dec) (keyC (L.map cv)) (svC (L.map cv) ps) (keyC (L.map cv) q) L.length)) (wrap64 ((q : Int) + 1))) r) :
  ∀ (d i : Nat), L.length - i = d → i ≤ L.length → Ev (fun k => worldmintref29_Bound.l4 k L ins outs ps acc (q : Int) (gS (possP (L.map cv) dec) (keyC (L.map cv)) (svC (L.map cv) ps) (keyC (L.map cv) q) i) (i : Int)) r := by
 have h10 := ok.l10
 intro d
 induction d with
 | zero =>
  intro i hd hi
  obtain rfl : i = L.length := by omega
  refine Ev.succ ?_
  simp only [worldmintref29_Bound.l4, if_neg (show ¬ (L.length : Int) < (L.length : Int) by omega)]
  exact hnext
 | succ d ih =>
  intro i hdi hi
  have hil : i < L.length := by omega
  have hb : L[i]? = some L[i] := List.getElem?_eq_getElem hil
  have hn := ih (i + 1) (by omega) (by omega)
  have hk : keyC (L.map cv) i = L[i].f0 := by unfold keyC; rw [map_getD L i _ hb]; rfl
  have hv : svC (L.map cv) ps i = surp ps (cv L[i]) := by unfold svC; rw [map_getD L i _ hb]
  have hposs := rposs_ok L (fun b hb => by have := (ok.f2 b hb).1; omega) dec ins outs hd i hil
  rw [gS_succ, hv] at hn
  have hin := b9_l5 ok ins outs acc q hq i L[i] hb (possP (L.map cv) dec i) _ _ (by rw [← hk]; exact hn) L[i].f2 0 L[i].f1 rfl (Nat.zero_le _) (by
   show L[i].f1 = L[i].f1 - (L[i].f2.map fun k => ps.getD k.toNat 0).sum + _
   omega)
  refine Ev.succ ?_
  simp only [worldmintref29_Bound.l4, if_pos (show (i : Int) < (L.length : Int) by omega), if_pos (show (0 : Int) ≤ (i : Int) by omega), rdR_at L i _ hb]
  exact Ev.bind hposs hin
omit hd in
theorem b9_sum (m : Nat) (hm : m ≤ L.length) : 0 ≤ sumG (fun x => gS (possP (L.map cv) dec) (keyC (L.map cv)) (svC (L.map cv) ps) x L.length) (keyC (L.map cv)) m ∧ sumG (fun x => gS (possP (L.map cv) dec) (keyC (L.map cv)) (svC (L.map cv) ps) x L.length) (keyC (L.map cv)) m ≤ m * 1099511627776 := by
 induction m with
 | zero => simp [sumG]
 | succ m ih =>
  have ih := ih (by omega)
  have hg := gC_bounds ok (possP (L.map cv) dec) (keyC (L.map cv) m) L.length (Nat.le_refl _)
  rw [sumG_succ]
  split <;> omega
omit hd in
theorem b9_l3 (i : Nat) (hi : i < L.length) (acc : Int) (r : Int) (hnext : Ev (fun k => if firstB (keyC (L.map cv)) i = true then worldmintref29_Bound.l4 k L ins outs ps acc (i : Int) 0 0 else worldmintref29_Bound.l2 k L ins outs ps acc ((i + 1 : Nat) : Int)) r) :
  ∀ (d p : Nat), i - p = d → p ≤ i → Ev (fun k => worldmintref29_Bound.l3 k L ins outs ps acc (i : Int) ((List.range p).all fun k => decide (keyC (L.map cv) k ≠ keyC (L.map cv) i)) (p : Int)) r := by
 have h10 := ok.l10
 have hb : L[i]? = some L[i] := List.getElem?_eq_getElem hi
 have hk : keyC (L.map cv) i = L[i].f0 := by unfold keyC; rw [map_getD L i _ hb]; rfl
 have hwi : wrap64 ((i : Int) + 1) = ((i + 1 : Nat) : Int) := by rw [w64 _ (by omega) (by omega)]; omega
 intro d
 induction d with
 | zero =>
  intro p hd hp
  obtain rfl : p = i := by omega
  refine Ev.succ ?_
  have hfb : ((List.range p).all fun k => decide (keyC (L.map cv) k ≠ keyC (L.map cv) p)) = firstB (keyC (L.map cv)) p := rfl
  simp only [worldmintref29_Bound.l3, if_neg (show ¬ (p : Int) < (p : Int) by omega), hfb]
  cases hf : firstB (keyC (L.map cv)) p
  ·rw [hf] at hnext
   simp only [Bool.false_eq_true, if_false] at hnext ⊢
   rw [hwi]
   exact hnext
  ·rw [hf] at hnext
   simp only [if_true] at hnext ⊢
   exact hnext
 | succ d ih =>
  intro p hd hp
  obtain ⟨hpl, hwp, e1, e2, e3, e4⟩ := rb_len i p d L.length hd hp hi h10
  have hbp : L[p]? = some L[p] := List.getElem?_eq_getElem hpl
  have hkp : keyC (L.map cv) p = L[p].f0 := by unfold keyC; rw [map_getD L p _ hbp]; rfl
  have hn := ih (p + 1) e1 e2
  rw [all_range_succ] at hn
  refine Ev.succ ?_
  simp only [worldmintref29_Bound.l3, if_pos e3]
  cases hf : (List.range p).all fun k => decide (keyC (L.map cv) k ≠ keyC (L.map cv) i)
  ·rw [hf] at hn
   simp only [Bool.false_and] at hn
   simp only [Bool.false_eq_true, if_false, hwp]
   exact hn
  ·rw [hf] at hn
   simp only [Bool.true_and] at hn
   have hd2 : decide (keyC (L.map cv) p ≠ keyC (L.map cv) i) = (L[p].f0 != L[i].f0) := by rw [hkp, hk]; by_cases h : L[p].f0 = L[i].f0 <;> simp [h]
   rw [hd2] at hn
   simp only [if_true, if_pos (Int.natCast_nonneg p), if_pos (Int.natCast_nonneg i), if_pos e4, if_pos (Int.ofNat_lt.2 hi), rdR_at L p _ hbp, rdR_at L i _ hb, hwp]
   exact hn
theorem b9_l2 (s : Int) (hs0 : 0 ≤ s) (hs1 : s ≤ 20 * 1099511627776) : Ev (fun k => worldmintref29_Bound.l2 k L ins outs ps s 0) (s + ((spS (L.map cv) dec ps L.length).map (·.2)).sum) := by
 have h10 := ok.l10
 have hsp : ((spS (L.map cv) dec ps L.length).map (·.2)).sum = sumG (fun x => gS (possP (L.map cv) dec) (keyC (L.map cv)) (svC (L.map cv) ps) x L.length) (keyC (L.map cv)) L.length := spG_sum (possP (L.map cv) dec) (keyC (L.map cv)) (svC (L.map cv) ps) L.length
 rw [hsp]
 have : ∀ (d i : Nat), L.length - i = d → i ≤ L.length → Ev (fun k => worldmintref29_Bound.l2 k L ins outs ps (s + sumG (fun x => gS (possP (L.map cv) dec) (keyC (L.map cv)) (svC (L.map cv) ps) x L.length) (keyC (L.map cv)) i) (i : Int)) (s + sumG (fun x => gS (possP (L.map cv) dec) (keyC (L.map cv)) (svC (L.map cv) ps) x L.length) (keyC (L.map cv)) L.length) := by
  intro d
  induction d with
  | zero =>
   intro i hd hi
   obtain rfl : i = L.length := by omega
   refine Ev.succ ?_
   simp only [worldmintref29_Bound.l2, if_neg (show ¬ (L.length : Int) < (L.length : Int) by omega)]
   exact Ev.some_
  | succ d ih =>
   intro i hdi hi
   have hil : i < L.length := by omega
   have hn := ih (i + 1) (by omega) (by omega)
   have hsb := b9_sum ok dec i (by omega)
   have hg := gC_bounds ok (possP (L.map cv) dec) (keyC (L.map cv) i) L.length (Nat.le_refl _)
   rw [sumG_succ] at hn
   have hwi : wrap64 ((i : Int) + 1) = ((i + 1 : Nat) : Int) := by rw [w64 _ (by omega) (by omega)]; omega
   have h2 := b9_l3 ok ins outs i hil (s + sumG (fun x => gS (possP (L.map cv) dec) (keyC (L.map cv)) (svC (L.map cv) ps) x L.length) (keyC (L.map cv)) i) (s + sumG (fun x => gS (possP (L.map cv) dec) (keyC (L.map cv)) (svC (L.map cv) ps) x L.length) (keyC (L.map cv)) L.length) (by
    cases hf : firstB (keyC (L.map cv)) i
    ·rw [hf] at hn
     simp only [Bool.false_eq_true, if_false, Int.add_zero] at hn ⊢
     exact hn
    ·rw [hf] at hn
     simp only [if_true] at hn ⊢
     refine b9_l4 ok dec ins outs hd _ i hil _ ?_ L.length 0 rfl (Nat.zero_le _)
     rw [hwi, w64 _ (by omega) (by omega), Int.add_assoc]
     exact hn) i 0 (by omega) (Nat.zero_le _)
   refine Ev.succ ?_
   simp only [worldmintref29_Bound.l2, if_pos (show (i : Int) < (L.length : Int) by omega)]
   exact h2
 have h := this _ 0 rfl (Nat.zero_le _)
 simpa [sumG] using h
/-- Is lot k free of the bids that are in? -/
def freeB (L : List S85) (xs : List Int) (k : Nat) : Bool := xs.all fun y => !(rd_T85 L y).f2.contains (k : Int)
omit hd in
theorem b9_l1 (hri : ∀ k ∈ ins, 0 ≤ k ∧ k < (L.length : Int)) (hli : ins.length ≤ 1000) (q : Nat) (hq : q < ps.length) (acc r : Int) (hnext : Ev (fun k => if freeB L ins q = true then worldmintref29_Bound.l0 k L ins outs ps (wrap64 (acc + ps.getD q 0)) ((q + 1 : Nat) : Int) else worldmintref29_Bound.l0 k L ins outs ps acc ((q + 1 : Nat) : Int)) r) :
  ∀ (d : List Int) (p : Nat), ins.drop p = d → p ≤ ins.length → Ev (fun k => worldmintref29_Bound.l1 k L ins outs ps acc (q : Int) (freeB L (ins.take p) q) (p : Int)) r := by
 have h8 := ok.p8
 have hwq : wrap64 ((q : Int) + 1) = ((q + 1 : Nat) : Int) := by rw [w64 _ (by omega) (by omega)]; omega
 have hrq : rd ps (q : Int) = ps.getD q 0 := by simp [rd]
 intro d
 induction d with
 | nil =>
  intro p hd hp
  have hpe := drop_nil ins p hp hd
  subst hpe
  rw [List.take_length]
  refine Ev.succ ?_
  simp only [worldmintref29_Bound.l1, if_neg (show ¬ (ins.length : Int) < (ins.length : Int) by omega)]
  cases hf : freeB L ins q
  ·rw [hf] at hnext
   simp only [Bool.false_eq_true, if_false, hwq] at hnext ⊢
   exact hnext
  ·rw [hf] at hnext
   simp only [if_true, if_pos (show (0 : Int) ≤ (q : Int) by omega), if_pos (show (q : Int) < (ps.length : Int) by omega), hwq, hrq] at hnext ⊢
   exact hnext
 | cons y d ih =>
  intro p hd hp
  obtain ⟨hy, hd', hlt⟩ := drop_cons ins p y d hd
  obtain ⟨hy0, hy1⟩ := hri y (List.mem_of_getElem? hy)
  have hwp : wrap64 ((p : Int) + 1) = ((p + 1 : Nat) : Int) := by rw [w64 _ (by omega) (by omega)]; omega
  have hn := ih (p + 1) hd' (by omega)
  have ht : ins.take (p + 1) = ins.take p ++ [y] := by
   rw [List.take_succ_eq_append_getElem hlt]
   obtain ⟨_, e⟩ := List.getElem?_eq_some_iff.1 hy
   rw [e]
  have hfs : freeB L (ins.take (p + 1)) q = (freeB L (ins.take p) q && !(rd_T85 L y).f2.contains (q : Int)) := by
   unfold freeB
   rw [ht, List.all_append]
   simp
  rw [hfs] at hn
  refine Ev.succ ?_
  simp only [worldmintref29_Bound.l1, if_pos (show (p : Int) < (ins.length : Int) by omega)]
  cases hf : freeB L (ins.take p) q
  ·rw [hf] at hn
   simp only [Bool.false_and] at hn
   simp only [Bool.false_eq_true, if_false, hwp]
   exact hn
  ·rw [hf] at hn
   simp only [Bool.true_and] at hn
   have hmem : rd_T85 L y ∈ L := by simp [rd_T85, List.getD, show y.toNat < L.length by omega]
   simp only [if_true, if_pos (show (0 : Int) ≤ (p : Int) by omega), rd_at ins p y hy, if_pos hy0, if_pos hy1, hwp]
   exact Ev.bind (has_ok _ (q : Int) (by have := (ok.f2 _ hmem).1; omega)) hn
def frB (L : List S85) (ins ps : List Int) (m : Nat) : Int := ((List.range m).map fun k => if freeB L ins k = true then ps.getD k 0 else 0).sum
omit ok hd in
theorem frB_succ (m : Nat) : frB L ins ps (m + 1) = frB L ins ps m + if freeB L ins m = true then ps.getD m 0 else 0 := by
 unfold frB
 rw [List.range_succ, List.map_append, List.sum_append]
 simp
omit hd in
theorem frB_bounds (m : Nat) (hm : m ≤ ps.length) : 0 ≤ frB L ins ps m ∧ frB L ins ps m ≤ m * 1099511627776 := by
 induction m with
 | zero => simp [frB]
 | succ m ih =>
  have ih := ih (by omega)
  have hp := ok.pr (ps.getD m 0) (by simp [List.getD, show m < ps.length by omega])
  rw [frB_succ ins]
  split <;> omega
theorem b9_l0 (s : Int) (hs0 : 0 ≤ s) (hs1 : s ≤ 10 * 1099511627776) : Ev (fun k => worldmintref29_Bound.l0 k L ins outs ps s 0) (s + frB L ins ps ps.length + ((spS (L.map cv) dec ps L.length).map (·.2)).sum) := by
 have h8 := ok.p8
 have : ∀ (d i : Nat), ps.length - i = d → i ≤ ps.length → Ev (fun k => worldmintref29_Bound.l0 k L ins outs ps (s + frB L ins ps i) (i : Int)) (s + frB L ins ps ps.length + ((spS (L.map cv) dec ps L.length).map (·.2)).sum) := by
  intro d
  induction d with
  | zero =>
   intro i hdi hi
   obtain rfl : i = ps.length := by omega
   have hfb := frB_bounds ok ins ps.length (Nat.le_refl _)
   refine Ev.succ ?_
   simp only [worldmintref29_Bound.l0, if_neg (show ¬ (ps.length : Int) < (ps.length : Int) by omega)]
   exact b9_l2 ok dec ins outs hd _ (by omega) (by omega)
  | succ d ih =>
   intro i hdi hi
   have hil : i < ps.length := by omega
   have hn := ih (i + 1) (by omega) (by omega)
   have hfb := frB_bounds ok ins i (by omega)
   have hp := ok.pr (ps.getD i 0) (by simp [List.getD, hil])
   rw [frB_succ ins] at hn
   have h1 := b9_l1 ok ins outs hd.ri hd.li i hil (s + frB L ins ps i) _ (by
    cases hf : freeB L ins i
    ·rw [hf] at hn
     simp only [Bool.false_eq_true, if_false, Int.add_zero] at hn ⊢
     exact hn
    ·rw [hf] at hn
     simp only [if_true] at hn ⊢
     rw [w64 _ (by omega) (by omega), Int.add_assoc]
     exact hn) ins 0 rfl (Nat.zero_le _)
   refine Ev.succ ?_
   simp only [worldmintref29_Bound.l0, if_pos (show (i : Int) < (ps.length : Int) by omega)]
   exact h1
 have h := this _ 0 rfl (Nat.zero_le _)
 simpa [frB] using h
end
theorem addK_mem (k y : Int) (ks : List Int) : y ∈ addK ks k ↔ y = k ∨ y ∈ ks := by
 unfold addK
 by_cases h : k ∈ ks
 ·rw [if_pos h]
  constructor
  ·exact .inr
  ·rintro (rfl | h2)
   ·exact h
   ·exact h2
 ·rw [if_neg h, List.mem_append, List.mem_singleton]
  exact or_comm
theorem foldK_mem (y : Int) : ∀ (xs ks : List Int), y ∈ xs.foldl addK ks ↔ y ∈ xs ∨ y ∈ ks
 | [], ks => by simp
 | x :: xs, ks => by
  rw [List.foldl_cons, foldK_mem y xs, addK_mem, List.mem_cons]
  constructor
  ·rintro (h | h | h)
   ·exact .inl (.inr h)
   ·exact .inl (.inl h)
   ·exact .inr h
  ·rintro ((h | h) | h)
   ·exact .inr (.inl h)
   ·exact .inl h
   ·exact .inr (.inr h)
theorem tk_mem (l : List S82) (dec : List Int) (y : Int) : ∀ m, y ∈ tkS l dec m ↔ ∃ i, i < m ∧ dec.getD i 0 = 1 ∧ y ∈ (l.getD i z82).f2
 | 0 => by simp [tkS]
 | m + 1 => by
  have ih := tk_mem l dec y m
  have e : tkS l dec (m + 1) = if dec.getD m 0 = 1 then (l.getD m z82).f2.foldl addK (tkS l dec m) else tkS l dec m := by
   unfold tkS; rw [List.range_succ, List.foldl_append]; rfl
  rw [e]
  by_cases h : dec.getD m 0 = 1
  ·rw [if_pos h, foldK_mem, ih]
   constructor
   ·rintro (h2 | ⟨i, h2, h3⟩)
    ·exact ⟨m, by omega, h, h2⟩
    ·exact ⟨i, by omega, h3⟩
   ·rintro ⟨i, h2, h3, h4⟩
    by_cases e : i = m
    ·subst e; exact .inl h4
    ·exact .inr ⟨i, by omega, h3, h4⟩
  ·rw [if_neg h, ih]
   constructor
   ·rintro ⟨i, h2, h3⟩; exact ⟨i, by omega, h3⟩
   ·rintro ⟨i, h2, h3, h4⟩
    have : i ≠ m := fun e => h (e ▸ h3)
    exact ⟨i, by omega, h3, h4⟩
theorem isum_one (a : Int) (g : Nat → Int) (m : Nat) (h0 : 0 ≤ a) (h1 : a < m) : ((List.range m).map fun (i : Nat) => if (i : Int) = a then g i else 0).sum = g a.toNat := by
 have : ∀ q, ((List.range q).map fun (i : Nat) => if (i : Int) = a then g i else 0).sum = if a < q then g a.toNat else 0 := by
  intro q
  induction q with
  | zero => simp; omega
  | succ q ih =>
   rw [List.range_succ, List.map_append, List.sum_append, ih]
   simp only [List.map_cons, List.map_nil, List.sum_cons, List.sum_nil]
   by_cases e : (q : Int) = a
   ·rw [if_pos e, if_neg (by omega), if_pos (by omega), show a.toNat = q by omega]; omega
   ·rw [if_neg e]
    by_cases e2 : a < (q : Int)
    ·rw [if_pos e2, if_pos (by omega)]; omega
    ·rw [if_neg e2, if_neg (by omega)]; omega
 rw [this m, if_pos h1]
theorem isum_add (g h : Nat → Int) : ∀ L : List Nat, (L.map fun k => g k + h k).sum = (L.map g).sum + (L.map h).sum
 | [] => rfl
 | x :: L => by simp only [List.map_cons, List.sum_cons, isum_add g h L]; omega
/-- The value of a choice, as a sum over all bids. -/
theorem val_sum (l : List S82) : ∀ ins : List Int, (∀ k ∈ ins, 0 ≤ k ∧ k < (l.length : Int)) → ins.Nodup → valP l ins = ((List.range l.length).map fun (i : Nat) => if (i : Int) ∈ ins then (l.getD i z82).f1 else 0).sum
 | [], _, _ => by
  have : ∀ L : List Nat, (L.map fun (i : Nat) => if (i : Int) ∈ ([] : List Int) then (l.getD i z82).f1 else 0).sum = 0 := by
   intro L
   induction L with
   | nil => rfl
   | cons x L ih => simp only [List.map_cons, List.sum_cons, ih]; simp
  rw [this]; rfl
 | a :: ins, h, hn => by
  rw [List.nodup_cons] at hn
  have ih := val_sum l ins (fun k hk => h k (by simp [hk])) hn.2
  have ha := h a (by simp)
  have e : (fun (i : Nat) => if (i : Int) ∈ a :: ins then (l.getD i z82).f1 else 0) = fun (i : Nat) => (if (i : Int) = a then (l.getD i z82).f1 else 0) + (if (i : Int) ∈ ins then (l.getD i z82).f1 else 0) := by
   funext i
   by_cases e1 : (i : Int) = a
   ·rw [if_pos e1, if_pos (by simp [e1]), if_neg (by rw [e1]; exact hn.1)]; omega
   ·rw [if_neg e1]
    by_cases e2 : (i : Int) ∈ ins
    ·rw [if_pos e2, if_pos (by simp [e2])]; omega
    ·rw [if_neg e2, if_neg (by simp [e1, e2])]; omega
  rw [e, isum_add, isum_one a (fun i => (l.getD i z82).f1) _ ha.1 ha.2, ← ih]
  simp [valP]
theorem rbound9_ok {L : List S85} {ps : List Int} (ok : BOk L ps) (dec ins outs : List Int) (hd : DecR L.length dec ins outs) (hn : ins.Nodup) (hli : ins.length ≤ 10) : Ev (fun k => worldmintref29_Bound.f k L ins outs ps) (boundD (L.map cv) dec ps) := by
 have hlm : (L.map cv).length = L.length := List.length_map ..
 have hval := rvalue_ok L ins hd.ri hd.li (fun b hb => by have := ok.f1 b hb; omega)
 have hv : valP (L.map cv) ins = inS (L.map cv) dec dec.length := by
  rw [val_sum (L.map cv) ins (by rw [hlm]; exact hd.ri) hn]
  unfold inS
  rw [hlm, hd.len]
  congr 1
  refine List.map_congr_left (fun i hi => ?_)
  have h1 := hd.i1 i (List.mem_range.1 hi)
  by_cases e : (i : Int) ∈ ins
  ·rw [if_pos e, if_pos (h1.2 e)]
  ·rw [if_neg e, if_neg (fun x => e (h1.1 x))]
 have hvb : 0 ≤ valP (L.map cv) ins ∧ valP (L.map cv) ins ≤ ins.length * 1099511627776 := by
  unfold valP
  have : ∀ xs : List Int, (∀ k ∈ xs, 0 ≤ k ∧ k < (L.length : Int)) → 0 ≤ (xs.map fun k => ((L.map cv).getD k.toNat z82).f1).sum ∧ (xs.map fun k => ((L.map cv).getD k.toNat z82).f1).sum ≤ xs.length * 1099511627776 := by
   intro xs
   induction xs with
   | nil => intro _; simp
   | cons x xs ih =>
    intro hx
    have h1 := ih (fun k hk => hx k (by simp [hk]))
    have h2 := hx x (by simp)
    have h3 : x.toNat < L.length := by omega
    have h4 := ok.f1 L[x.toNat] (List.getElem_mem h3)
    rw [List.map_cons, List.sum_cons, map_getD L x.toNat _ (List.getElem?_eq_getElem h3), List.length_cons]
    have h5 : (cv L[x.toNat]).f1 = L[x.toNat].f1 := rfl
    rw [h5]
    omega
  exact this ins hd.ri
 have hfr : frB L ins ps ps.length = frS (tkS (L.map cv) dec dec.length) ps ps.length := by
  unfold frB frS
  congr 1
  refine List.map_congr_left (fun k _ => ?_)
  have hiff : freeB L ins k = true ↔ ¬ (k : Int) ∈ tkS (L.map cv) dec dec.length := by
   rw [tk_mem]
   unfold freeB
   rw [List.all_eq_true]
   constructor
   ·rintro h ⟨i, h1, h2, h3⟩
    rw [hd.len] at h1
    have h4 := h (i : Int) ((hd.i1 i h1).1 h2)
    rw [map_getD L i _ (List.getElem?_eq_getElem h1)] at h3
    rw [rdR_at L i _ (List.getElem?_eq_getElem h1)] at h4
    simp only [Bool.not_eq_true', List.contains_eq_mem, decide_eq_false_iff_not] at h4
    exact h4 h3
   ·intro h y hy
    obtain ⟨h1, h2⟩ := hd.ri y hy
    have h3 : y.toNat < L.length := by omega
    simp only [Bool.not_eq_true', List.contains_eq_mem, decide_eq_false_iff_not]
    intro h4
    refine h ⟨y.toNat, by rw [hd.len]; exact h3, (hd.i1 y.toNat h3).2 (by rwa [show ((y.toNat : Nat) : Int) = y by omega]), ?_⟩
    rw [map_getD L y.toNat _ (List.getElem?_eq_getElem h3)]
    rw [show y = ((y.toNat : Nat) : Int) by omega, rdR_at L y.toNat _ (List.getElem?_eq_getElem h3)] at h4
    exact h4
  by_cases e : freeB L ins k = true
  ·rw [if_pos e, if_neg (hiff.1 e)]
  ·rw [if_neg e, if_pos (Classical.not_not.1 (fun x => e (hiff.2 x)))]
 unfold worldmintref29_Bound.f boundD
 rw [← hv, ← hfr, hlm]
 refine Ev.bind hval ?_
 exact b9_l0 ok dec ins outs hd _ hvb.1 (by omega)
end Go.Proofs.Ytdamibblnjeooaa.H
