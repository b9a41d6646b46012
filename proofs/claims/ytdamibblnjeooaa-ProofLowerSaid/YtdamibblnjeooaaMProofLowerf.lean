/- Texts of this claim, one behind the other. -/
import Derived.Test.YtdamibblnjeooaaMProofLowerc
import Derived.Test.YtdamibblnjeooaaMProofLowerb
import Derived.Test.YtdamibblnjeooaaMProofLowerd
import Derived.Test.YtdamibblnjeooaaMProofLowere
import Derived.BigRegion

/- What a printed function computes with rounds enough: its laws; the generators of the reference. -/
namespace Go.Proofs.Ytdamibblnjeooaa.H
open Go.RowKit Go.Proofs.YtdamibblnjeooaaW.PrintWords Go.Proofs.YtdamibblnjeooaaW.PrintLast
set_option linter.unusedVariables false
set_option linter.unusedSimpArgs false
/-- With rounds enough, f tells a. -/
def Ev {α : Type} (f : Nat → Option α) (a : α) : Prop := ∃ K, ∀ k, K ≤ k → f k = some a
section
variable {α β : Type} {f : Nat → Option α} {a : α}
theorem Ev.succ (h : Ev (fun k => f (k + 1)) a) : Ev f a := by
 obtain ⟨K, h⟩ := h
 refine ⟨K + 1, fun k hk => ?_⟩
 obtain ⟨j, rfl⟩ : ∃ j, k = j + 1 := ⟨k - 1, by omega⟩
 exact h j (by omega)
theorem Ev.bind {g : Nat → α → Option β} {b : β} (hf : Ev f a) (hg : Ev (fun k => g k a) b) : Ev (fun k => (f k).bind (g k)) b := by
 obtain ⟨K, h⟩ := hf
 obtain ⟨K2, h2⟩ := hg
 exact ⟨max K K2, fun k hk => by
  show (f k).bind (g k) = some b
  rw [h k (by omega)]
  exact h2 k (by omega)⟩
theorem Ev.some_ : Ev (fun _ => some a) a := ⟨0, fun _ _ => rfl⟩
theorem Ev.ex (h : Ev f a) : ∃ k, f k = some a := by
 obtain ⟨K, h⟩ := h
 exact ⟨K, h K (Nat.le_refl _)⟩
end
theorem wf_bounds (n : Int) (h : (Lit.int .i64 n).wf = true) : -9223372036854775808 ≤ n ∧ n ≤ 9223372036854775807 := by
 simpa [Lit.wf, IntKind.min, IntKind.max, IntKind.signed, IntKind.bits] using h
theorem w64 (x : Int) (h0 : -9223372036854775808 ≤ x) (h1 : x ≤ 9223372036854775807) : wrap64 x = x := by
 unfold wrap64
 omega
theorem around_ok (n most : Int) (hn : (Lit.int .i64 n).wf = true) (hm : 0 < most) : ∃ r, worldmintref01_Around.f n most = some r ∧ 0 ≤ r ∧ r < most := by
 have hb := wf_bounds n hn
 unfold worldmintref01_Around.f
 by_cases h : n < 0
 ·rw [if_pos h, if_neg (by omega), w64 (n + 1) (by omega) (by omega), w64 (-(n + 1)) (by omega) (by omega)]
  exact ⟨_, rfl, Int.tmod_nonneg _ (by omega), Int.tmod_lt_of_pos _ hm⟩
 ·rw [if_neg h, if_neg (by omega)]
  exact ⟨_, rfl, Int.tmod_nonneg _ (by omega), Int.tmod_lt_of_pos _ hm⟩
theorem lots_ok (n : Int) (hn : (Lit.int .i64 n).wf = true) : ∃ r, worldmintref27_Lots.f n = some r ∧ 1 ≤ r ∧ r ≤ 8 := by
 obtain ⟨r, h, h0, h1⟩ := around_ok n 8 hn (by omega)
 unfold worldmintref27_Lots.f
 rw [h, Option.bind_some, w64 _ (by omega) (by omega)]
 exact ⟨_, rfl, by omega, by omega⟩
theorem pick_ok (l : List Int) (i most : Int) (hl : ∀ x ∈ l, (Lit.int .i64 x).wf = true) (hm : 0 < most) : ∃ r, worldmintref01_Pick.f l i most = some r ∧ 0 ≤ r ∧ r < most := by
 unfold worldmintref01_Pick.f
 by_cases h : i < 0
 ·rw [if_pos h]; exact ⟨0, rfl, by omega, hm⟩
 ·rw [if_neg h]
  by_cases h2 : i ≥ (l.length : Int)
  ·rw [if_pos h2]; exact ⟨0, rfl, by omega, hm⟩
  ·rw [if_neg h2, if_pos (by omega), if_pos (by omega)]
   have hm2 : rd l i ∈ l := by
    have : i.toNat < l.length := by omega
    simp [rd, List.getD, this]
   obtain ⟨r, h3, h4, h5⟩ := around_ok (rd l i) most (hl _ hm2) hm
   exact ⟨r, by rw [h3]; rfl, h4, h5⟩
/-- A bid as the reference draws it. -/
def GoodBid (n : Int) (b : S85) : Prop := 1 ≤ b.f0 ∧ b.f0 ≤ 6 ∧ 1 ≤ b.f1 ∧ b.f1 ≤ 450 ∧ b.f2.length ≠ 0 ∧ lotsOk n (-1) b.f2 = true ∧ b.f2.length ≤ 8
theorem lotsOk_snoc (n j : Int) (hj : j < n) : ∀ (ks : List Int) (last : Int), lotsOk n last ks = true → (∀ k ∈ ks, k < j) → last < j → lotsOk n last (ks ++ [j]) = true
 | [], last, _, _, h => by
  simp only [List.nil_append, lotsOk]
  simp [hj, h]
 | k :: ks, last, h, hk, _ => by
  simp only [List.cons_append, lotsOk] at h ⊢
  split at h
  ·simp at h
  ·rename_i hc
   rw [if_neg hc]
   exact lotsOk_snoc n j hj ks k h (fun x hx => hk x (by simp [hx])) (hk k (by simp))
set_option maxHeartbeats 1000000 in
theorem bids_l1 (n : Int) (l : List Int) (most : Int) (x7 : List S85) (x8 f0 f1 : Int) (hn1 : 1 ≤ n) (hn8 : n ≤ 8) (hx7 : x7.length < 3518437208883) (L : List S85)
  (hnext : ∀ ks : List Int, ks.length ≠ 0 → lotsOk n (-1) ks = true → ks.length ≤ 8 → ∃ L, Ev (fun k => worldmintref27_Bids.l0 k n l most (x7 ++ [⟨f0, f1, ks⟩]) (wrap64 (x8 + 1))) L ∧ (L.length : Int) ≤ most ∧ ∀ b ∈ L, GoodBid n b) :
  ∀ (d : Nat) (j : Int) (bs : Int) (ks : List Int), (n - j).toNat = d → 0 ≤ j → j ≤ n → lotsOk n (-1) ks = true → (∀ k ∈ ks, k < j) → (ks.length : Int) ≤ j → (j = n → ks.length ≠ 0) →
  ∃ L, Ev (fun k => worldmintref27_Bids.l1 k n l most x7 x8 bs j f0 f1 ks) L ∧ (L.length : Int) ≤ most ∧ ∀ b ∈ L, GoodBid n b
 | 0, j, bs, ks, hd, h0, hjn, hk, hkj, hkl, hne => by
  obtain ⟨L, h1, h2⟩ := hnext ks (hne (by omega)) hk (by omega)
  refine ⟨L, Ev.succ ?_, h2⟩
  simp only [worldmintref27_Bids.l1]
  simp only [if_neg (show ¬ j < n by omega), if_pos hx7]
  exact h1
 | d + 1, j, bs, ks, hd, h0, hjn, hk, hkj, hkl, hne => by
  have hw : wrap64 (j + 1) = j + 1 := w64 _ (by omega) (by omega)
  have hw2 : wrap64 (n - 1) = n - 1 := w64 _ (by omega) (by omega)
  have happ := fun bs' => bids_l1 n l most x7 x8 f0 f1 hn1 hn8 hx7 L hnext d (j + 1) bs' (ks ++ [j]) (by omega) (by omega) (by omega) (lotsOk_snoc n j (by omega) ks (-1) hk hkj (by omega)) (fun k hk' => by
   rcases List.mem_append.1 hk' with h | h
   ·have := hkj k h; omega
   ·simp at h; omega) (by simp; omega) (fun _ => by simp)
  have hnot := fun bs' (hh : j + 1 = n → ks.length ≠ 0) => bids_l1 n l most x7 x8 f0 f1 hn1 hn8 hx7 L hnext d (j + 1) bs' ks (by omega) (by omega) (by omega) hk (fun k hk' => by have := hkj k hk'; omega) (by omega) hh
  by_cases c1 : Int.tmod bs 2 = 1
  ·obtain ⟨L, h1, h2⟩ := happ (wrap64 (Int.tdiv bs 2))
   refine ⟨L, Ev.succ ?_, h2⟩
   simp only [worldmintref27_Bids.l1]
   simp only [if_pos (show j < n by omega), if_pos c1, if_pos (show ks.length < 17592186044416 by omega), hw]
   exact h1
  ·by_cases c2 : j = n - 1
   ·by_cases c3 : (ks.length : Int) = 0
    ·obtain ⟨L, h1, h2⟩ := happ (wrap64 (Int.tdiv bs 2))
     refine ⟨L, Ev.succ ?_, h2⟩
     simp only [worldmintref27_Bids.l1]
     simp only [if_pos (show j < n by omega), if_neg c1, hw2, if_pos c2, if_pos c3, if_pos (show ks.length < 17592186044416 by omega), hw]
     exact h1
    ·obtain ⟨L, h1, h2⟩ := hnot (wrap64 (Int.tdiv bs 2)) (fun _ => by omega)
     refine ⟨L, Ev.succ ?_, h2⟩
     simp only [worldmintref27_Bids.l1]
     simp only [if_pos (show j < n by omega), if_neg c1, hw2, if_pos c2, if_neg c3, hw]
     exact h1
   ·obtain ⟨L, h1, h2⟩ := hnot (wrap64 (Int.tdiv bs 2)) (fun _ => by omega)
    refine ⟨L, Ev.succ ?_, h2⟩
    simp only [worldmintref27_Bids.l1]
    simp only [if_pos (show j < n by omega), if_neg c1, hw2, if_neg c2, hw]
    exact h1
set_option maxHeartbeats 1000000 in
theorem bids_l0 (n : Int) (l : List Int) (hl : ∀ x ∈ l, (Lit.int .i64 x).wf = true) (most : Int) (hn1 : 1 ≤ n) (hn8 : n ≤ 8) (hm0 : 0 ≤ most) (hm1 : most ≤ 1000) :
  ∀ (d : Nat) (x7 : List S85), (most - x7.length).toNat = d → (x7.length : Int) ≤ most → (∀ b ∈ x7, GoodBid n b) →
  ∃ L, Ev (fun k => worldmintref27_Bids.l0 k n l most x7 x7.length) L ∧ (L.length : Int) ≤ most ∧ ∀ b ∈ L, GoodBid n b := by
 intro d
 induction d with
 | zero =>
  intro x7 hd hx hb
  obtain ⟨r, hr, hr0, hr1⟩ := pick_ok l 0 (most + 1) hl (by omega)
  refine ⟨x7, Ev.succ ?_, hx, hb⟩
  simp only [worldmintref27_Bids.l0, w64 (most + 1) (by omega) (by omega), hr, Option.bind_some]
  simp only [if_neg (show ¬ (x7.length : Int) < r by omega)]
  exact Ev.some_
 | succ d ih =>
  intro x7 hd hx hb
  obtain ⟨r, hr, hr0, hr1⟩ := pick_ok l 0 (most + 1) hl (by omega)
  by_cases hlt : (x7.length : Int) < r
  ·obtain ⟨t, ht, ht0, ht1⟩ := pick_ok l (wrap64 (1 + wrap64 (3 * (x7.length : Int)))) 1000000 hl (by omega)
   obtain ⟨u, hu, hu0, hu1⟩ := pick_ok l (wrap64 (2 + wrap64 (3 * (x7.length : Int)))) 255 hl (by omega)
   obtain ⟨v, hv, hv0, hv1⟩ := pick_ok l (wrap64 (3 + wrap64 (3 * (x7.length : Int)))) 255 hl (by omega)
   have e0 : 0 ≤ Int.tmod t 6 ∧ Int.tmod t 6 < 6 := ⟨Int.tmod_nonneg _ ht0, Int.tmod_lt_of_pos _ (by omega)⟩
   have hq : 0 ≤ Int.tdiv t 6 ∧ Int.tdiv t 6 ≤ t := ⟨Int.tdiv_nonneg ht0 (by omega), Int.tdiv_le_self _ ht0⟩
   have hq2 : 0 ≤ Int.tdiv t 216 ∧ Int.tdiv t 216 ≤ t := ⟨Int.tdiv_nonneg ht0 (by omega), Int.tdiv_le_self _ ht0⟩
   have hw1 : wrap64 (Int.tdiv t 6) = Int.tdiv t 6 := w64 _ (by omega) (by omega)
   have hw2 : wrap64 (Int.tdiv t 216) = Int.tdiv t 216 := w64 _ (by omega) (by omega)
   have e1 : 0 ≤ Int.tmod (Int.tdiv t 6) 9 ∧ Int.tmod (Int.tdiv t 6) 9 < 9 := ⟨Int.tmod_nonneg _ hq.1, Int.tmod_lt_of_pos _ (by omega)⟩
   have e2 : 0 ≤ Int.tmod (Int.tdiv t 216) 50 ∧ Int.tmod (Int.tdiv t 216) 50 < 50 := ⟨Int.tmod_nonneg _ hq2.1, Int.tmod_lt_of_pos _ (by omega)⟩
   have g0 : wrap64 (1 + Int.tmod t 6) = 1 + Int.tmod t 6 := w64 _ (by omega) (by omega)
   have g1 : wrap64 (1 + Int.tmod (Int.tdiv t 6) 9) = 1 + Int.tmod (Int.tdiv t 6) 9 := w64 _ (by omega) (by omega)
   have g2 : wrap64 (1 + Int.tmod (Int.tdiv t 216) 50) = 1 + Int.tmod (Int.tdiv t 216) 50 := w64 _ (by omega) (by omega)
   have hpr : ∀ a b : Int, 1 ≤ a → a ≤ 9 → 1 ≤ b → b ≤ 50 → 1 ≤ a * b ∧ a * b ≤ 450 := fun a b a1 a2 b1 b2 => by
    have h1 : 1 * 1 ≤ a * b := Int.mul_le_mul a1 b1 (by omega) (by omega)
    have h2 : a * b ≤ 9 * 50 := Int.mul_le_mul a2 b2 (by omega) (by omega)
    omega
   have hp := hpr (1 + Int.tmod (Int.tdiv t 6) 9) (1 + Int.tmod (Int.tdiv t 216) 50) (by omega) (by omega) (by omega) (by omega)
   have g3 : wrap64 ((1 + Int.tmod (Int.tdiv t 6) 9) * (1 + Int.tmod (Int.tdiv t 216) 50)) = (1 + Int.tmod (Int.tdiv t 6) 9) * (1 + Int.tmod (Int.tdiv t 216) 50) := w64 _ (by omega) (by omega)
   have hstep : ∀ p : Int, 1 ≤ p → p ≤ 450 → ∃ L, Ev (fun k => worldmintref27_Bids.j1 k n l most x7 (x7.length : Int) (1 + Int.tmod t 6) p) L ∧ (L.length : Int) ≤ most ∧ ∀ b ∈ L, GoodBid n b := fun p hp1 hp2 => by
    obtain ⟨L, h1, h2⟩ := bids_l1 n l most x7 (x7.length : Int) (1 + Int.tmod t 6) p hn1 hn8 (by omega) [] (fun ks hk0 hk1 hk2 => by
     obtain ⟨L, h1, h2⟩ := ih (x7 ++ [⟨1 + Int.tmod t 6, p, ks⟩]) (by simp; omega) (by simp; omega) (fun b hb' => by
      rcases List.mem_append.1 hb' with h | h
      ·exact hb b h
      ·rw [List.mem_singleton] at h; subst h; exact ⟨by show 1 ≤ 1 + _; omega, by show 1 + _ ≤ 6; omega, hp1, hp2, hk0, hk1, hk2⟩)
     refine ⟨L, ?_, h2⟩
     rw [w64 _ (by omega) (by omega)]
     simpa using h1) n.toNat 0 (Go.bits .and .i64 u (Go.bits .or .i64 v 17)) [] (by omega) (by omega) (by omega) rfl (by simp) (by simp) (by omega)
    refine ⟨L, Ev.succ ?_, h2⟩
    simp only [worldmintref27_Bids.j1, hu, hv, Option.bind_some]
    exact h1
   by_cases c : Int.tmod (wrap64 (Int.tdiv t 54)) 4 = 0
   ·obtain ⟨L, h1, h2⟩ := hstep _ hp.1 hp.2
    refine ⟨L, Ev.succ ?_, h2⟩
    simp only [worldmintref27_Bids.l0, w64 (most + 1) (by omega) (by omega), hr, ht, Option.bind_some, if_pos hlt, if_pos c, hw1, hw2, g0, g1, g2, g3]
    exact h1
   ·obtain ⟨L, h1, h2⟩ := hstep (1 + Int.tmod (Int.tdiv t 6) 9) (by omega) (by omega)
    refine ⟨L, Ev.succ ?_, h2⟩
    simp only [worldmintref27_Bids.l0, w64 (most + 1) (by omega) (by omega), hr, ht, Option.bind_some, if_pos hlt, if_neg c, hw1, g0, g1]
    exact h1
  ·refine ⟨x7, Ev.succ ?_, hx, hb⟩
   simp only [worldmintref27_Bids.l0, w64 (most + 1) (by omega) (by omega), hr, Option.bind_some]
   simp only [if_neg hlt]
   exact Ev.some_
theorem bids_ok (n : Int) (l : List Int) (hl : ∀ x ∈ l, (Lit.int .i64 x).wf = true) (most : Int) (hn1 : 1 ≤ n) (hn8 : n ≤ 8) (hm0 : 0 ≤ most) (hm1 : most ≤ 1000) :
  ∃ L, Ev (fun k => worldmintref27_Bids.f k n l most) L ∧ (L.length : Int) ≤ most ∧ ∀ b ∈ L, GoodBid n b := by
 have := bids_l0 n l hl most hn1 hn8 hm0 hm1 _ [] rfl (by simpa using hm0) (by simp)
 simpa [worldmintref27_Bids.f] using this
end Go.Proofs.Ytdamibblnjeooaa.H

/- The search's answer: the best choice, and of equals the least. Plain. -/
namespace Go.Proofs.Ytdamibblnjeooaa.H
open Go.RowKit
set_option linter.unusedVariables false
set_option linter.unusedSimpArgs false
/-- Do places a and b conflict? -/
def cf (l : List S82) (a b : Int) : Bool := conf (l.getD a.toNat z82) (l.getD b.toNat z82)
/-- The places from i on, n of them, whose bit is set. -/
def choiceP : Nat → Nat → Nat → List Int
 | 0, _, _ => []
 | n + 1, bits, i => if bits % 2 = 1 then (i : Int) :: choiceP n (bits / 2) (i + 1) else choiceP n (bits / 2) (i + 1)
/-- Places that go with those taken, and among each other. -/
def okS (U : S82 → Bool) (l : List S82) : List Int → List Int → Bool
 | _, [] => true
 | win, k :: s => U (l.getD k.toNat z82) && !(win.any fun w => cf l w k) && okS U l (win ++ [k]) s
def valP (l : List S82) (s : List Int) : Int := (s.map fun k => (l.getD k.toNat z82).f1).sum
def lessP : List Int → List Int → Bool
 | [], [] => false
 | [], _ :: _ => true
 | _ :: _, [] => false
 | a :: s, b :: t => if a = b then lessP s t else decide (a < b)
/-- The best extension. -/
def ext (U : S82 → Bool) (l : List S82) : List S82 → Nat → List Int → List Int × Int
 | [], _, _ => ([], 0)
 | b :: left, i, win =>
  if U b && !(win.any fun w => conf (l.getD w.toNat z82) b) then
   if (ext U l left (i + 1) (win ++ [(i : Int)])).2 + b.f1 < (ext U l left (i + 1) win).2 then ext U l left (i + 1) win
   else ((i : Int) :: (ext U l left (i + 1) (win ++ [(i : Int)])).1, (ext U l left (i + 1) (win ++ [(i : Int)])).2 + b.f1)
  else ext U l left (i + 1) win
section
variable {U : S82 → Bool} {l : List S82}
theorem ext_bounds : ∀ (left : List S82) (i : Nat) (win : List Int), (∀ b ∈ left, 1 ≤ b.f1) → 0 ≤ (ext U l left i win).2 ∧ (ext U l left i win).2 ≤ restOf U left
 | [], _, _, _ => by simp [ext, restOf]
 | b :: left, i, win, h => by
  have hb := h b (by simp)
  have h1 := ext_bounds left (i + 1) win (fun x hx => h x (by simp [hx]))
  have h2 := ext_bounds left (i + 1) (win ++ [(i : Int)]) (fun x hx => h x (by simp [hx]))
  unfold ext restOf
  cases hU : U b
  ·simp only [Bool.false_and, Bool.false_eq_true, if_false]; omega
  ·simp only [Bool.true_and, if_true]
   split
   ·split
    ·constructor <;> omega
    ·constructor <;> (simp only; omega)
   ·constructor <;> omega
theorem try_ext : ∀ (left : List S82) (i : Nat) (value : Int) (win : List Int) (best : Int) (out : List Int) (val : Int), (∀ b ∈ left, 1 ≤ b.f1) →
  tryP U l left i value win (best, out, val) = if best < value + (ext U l left i win).2 then (value + (ext U l left i win).2, win ++ (ext U l left i win).1, value + (ext U l left i win).2) else (best, out, val)
 | [], i, value, win, best, out, val, _ => by
  simp only [tryP, ext, Int.add_zero, List.append_nil]
  by_cases h : value ≤ best
  ·rw [if_pos h, if_neg (by omega)]
  ·rw [if_neg h, if_pos (by omega)]
 | b :: left, i, value, win, best, out, val, h => by
  have hl : ∀ x ∈ left, 1 ≤ x.f1 := fun x hx => h x (by simp [hx])
  have hb := h b (by simp)
  have hbd := ext_bounds (U := U) (l := l) (b :: left) i win h
  simp only [tryP]
  by_cases hp : value + restOf U (b :: left) ≤ best
  ·rw [if_pos hp, if_neg (by omega)]
  ·rw [if_neg hp]
   have ht := try_ext left (i + 1) (value + b.f1) (win ++ [(i : Int)]) best out val hl
   have hs := fun B O V => try_ext left (i + 1) value win B O V hl
   unfold ext
   by_cases hc : (U b && !(win.any fun w => conf (l.getD w.toNat z82) b)) = true
   ·rw [if_pos hc, if_pos hc, ht]
    generalize ext U l left (i + 1) (win ++ [(i : Int)]) = T at *
    generalize ext U l left (i + 1) win = S at *
    by_cases h1 : best < value + b.f1 + T.2
    ·rw [if_pos h1, hs]
     by_cases h2 : T.2 + b.f1 < S.2
     ·rw [if_pos h2, if_pos (by omega), if_pos (by omega)]
     ·rw [if_neg h2, if_neg (by omega)]
      simp only
      rw [if_pos (by omega)]
      rw [show value + b.f1 + T.2 = value + (T.2 + b.f1) from by omega]
      simp
    ·rw [if_neg h1, hs]
     by_cases h2 : T.2 + b.f1 < S.2
     ·rw [if_pos h2]
     ·rw [if_neg h2, if_neg (by omega)]
      simp only
      rw [if_neg (by omega)]
   ·rw [if_neg hc, if_neg hc, hs]
theorem search_ext (h : ∀ b ∈ l, 1 ≤ b.f1) : searchP U l = ext U l l 0 [] := by
 have hb := ext_bounds (U := U) (l := l) l 0 [] h
 unfold searchP
 rw [try_ext l 0 0 [] (-1) [] 0 h, if_pos (by omega)]
 simp
theorem choice_ge : ∀ (n bits i : Nat), ∀ k ∈ choiceP n bits i, (i : Int) ≤ k ∧ k < (i : Int) + n
 | 0, _, _ => by simp [choiceP]
 | n + 1, bits, i => by
  intro k hk
  have ih := choice_ge n (bits / 2) (i + 1)
  unfold choiceP at hk
  split at hk
  ·rcases List.mem_cons.1 hk with rfl | hk
   ·constructor <;> omega
   ·have := ih k hk; constructor <;> omega
  ·have := ih k hk; constructor <;> omega
theorem drop_getD (i : Nat) (b : S82) (left : List S82) (h : l.drop i = b :: left) : l.getD (i : Int).toNat z82 = b ∧ l.drop (i + 1) = left := by
 have h1 : l[i]? = some b := by
  have := congrArg (fun t => t[0]?) h
  simpa using this
 refine ⟨by simp [List.getD, h1], ?_⟩
 have := congrArg List.tail h
 simpa using this
theorem ext_valid : ∀ (left : List S82) (i : Nat) (win : List Int), l.drop i = left →
  okS U l win (ext U l left i win).1 = true ∧ valP l (ext U l left i win).1 = (ext U l left i win).2 ∧ ∃ bits, bits < 2 ^ left.length ∧ choiceP left.length bits i = (ext U l left i win).1
 | [], i, win, _ => ⟨by simp [ext, okS], by simp [ext, valP], 0, by simp, by simp [ext, choiceP]⟩
 | b :: left, i, win, h => by
  obtain ⟨hg, hd⟩ := drop_getD i b left h
  obtain ⟨s1, s2, sb, s3, s4⟩ := ext_valid left (i + 1) win hd
  obtain ⟨t1, t2, tb, t3, t4⟩ := ext_valid left (i + 1) (win ++ [(i : Int)]) hd
  have hskip : okS U l win (ext U l left (i + 1) win).1 = true ∧ valP l (ext U l left (i + 1) win).1 = (ext U l left (i + 1) win).2 ∧ ∃ bits, bits < 2 ^ (b :: left).length ∧ choiceP (b :: left).length bits i = (ext U l left (i + 1) win).1 := by
   refine ⟨s1, s2, 2 * sb, by simp only [List.length_cons, Nat.pow_succ]; omega, ?_⟩
   simp only [List.length_cons, choiceP]
   rw [if_neg (by omega), show 2 * sb / 2 = sb from by omega, s4]
  unfold ext
  by_cases hc : (U b && !(win.any fun w => conf (l.getD w.toNat z82) b)) = true
  ·rw [if_pos hc]
   split
   ·exact hskip
   ·refine ⟨?_, ?_, 2 * tb + 1, by simp only [List.length_cons, Nat.pow_succ]; omega, ?_⟩
    ·simp only [okS, cf, hg, t1, Bool.and_true]
     exact hc
    ·simp only [valP, List.map_cons, List.sum_cons, hg] at t2 ⊢
     omega
    ·simp only [List.length_cons, choiceP]
     rw [if_pos (by omega), show (2 * tb + 1) / 2 = tb from by omega, t4]
  ·rw [if_neg hc]
   exact hskip
theorem ext_best : ∀ (left : List S82) (i : Nat) (win : List Int), l.drop i = left → (∀ b ∈ left, 1 ≤ b.f1) → ∀ bits, okS U l win (choiceP left.length bits i) = true →
  valP l (choiceP left.length bits i) ≤ (ext U l left i win).2 ∧ (valP l (choiceP left.length bits i) = (ext U l left i win).2 → choiceP left.length bits i = (ext U l left i win).1 ∨ lessP (ext U l left i win).1 (choiceP left.length bits i) = true)
 | [], i, win, _, _, bits, _ => ⟨by simp [choiceP, ext, valP], fun _ => .inl (by simp [choiceP, ext])⟩
 | b :: left, i, win, h, hp, bits, hok => by
  obtain ⟨hg, hd⟩ := drop_getD i b left h
  have hb := hp b (by simp)
  have hl : ∀ x ∈ left, 1 ≤ x.f1 := fun x hx => hp x (by simp [hx])
  have hs := ext_best left (i + 1) win hd hl (bits / 2)
  have ht := ext_best left (i + 1) (win ++ [(i : Int)]) hd hl (bits / 2)
  have hge := choice_ge left.length (bits / 2) (i + 1)
  have htb := ext_bounds (U := U) (l := l) left (i + 1) (win ++ [(i : Int)]) hl
  simp only [List.length_cons, choiceP] at hok ⊢
  by_cases hbit : bits % 2 = 1
  ·rw [if_pos hbit] at hok ⊢
   simp only [okS, cf, hg, Bool.and_eq_true] at hok
   obtain ⟨⟨hU, hnc⟩, hrest⟩ := hok
   obtain ⟨h1, h2⟩ := ht hrest
   unfold ext
   rw [if_pos (by simp only [Bool.and_eq_true]; exact ⟨hU, hnc⟩)]
   have hv : valP l ((i : Int) :: choiceP left.length (bits / 2) (i + 1)) = b.f1 + valP l (choiceP left.length (bits / 2) (i + 1)) := by
    simp only [valP, List.map_cons, List.sum_cons, hg]
   rw [hv]
   split
   ·exact ⟨by omega, fun e => by omega⟩
   ·refine ⟨by show _ ≤ (_, _).2; simp only; omega, fun e => ?_⟩
    simp only at e ⊢
    rcases h2 (by omega) with h3 | h3
    ·exact .inl (by rw [h3])
    ·exact .inr (by simp only [lessP, if_true]; exact h3)
  ·rw [if_neg hbit] at hok ⊢
   obtain ⟨h1, h2⟩ := hs hok
   unfold ext
   split
   ·split
    ·exact ⟨h1, h2⟩
    ·refine ⟨by show _ ≤ (_, _).2; simp only; omega, fun e => .inr ?_⟩
     simp only at e ⊢
     cases hc : choiceP left.length (bits / 2) (i + 1) with
     | nil =>
      rw [hc] at e
      simp only [valP, List.map_nil, List.sum_nil] at e
      omega
     | cons k s =>
      have := hge k (by rw [hc]; simp)
      simp only [lessP]
      rw [if_neg (by omega)]
      simp
      omega
   ·exact ⟨h1, h2⟩
theorem less_irrefl : ∀ s, lessP s s = false
 | [] => rfl
 | a :: s => by simp [lessP, less_irrefl s]
theorem less_trans : ∀ a b c, lessP a b = true → lessP b c = true → lessP a c = true
 | [], [], _, h, _ => by simp [lessP] at h
 | [], _ :: _, [], _, h => by simp [lessP] at h
 | [], _ :: _, _ :: _, _, _ => rfl
 | _ :: _, [], _, h, _ => by simp [lessP] at h
 | _ :: _, _ :: _, [], _, h => by simp [lessP] at h
 | x :: a, y :: b, z :: c, h1, h2 => by
  simp only [lessP] at h1 h2 ⊢
  by_cases e1 : x = y
  ·subst e1
   rw [if_pos rfl] at h1
   by_cases e2 : x = z
   ·subst e2
    rw [if_pos rfl] at h2 ⊢
    exact less_trans a b c h1 h2
   ·rw [if_neg e2] at h2 ⊢
    exact h2
  ·rw [if_neg e1] at h1
   simp only [decide_eq_true_eq] at h1
   by_cases e2 : y = z
   ·subst e2
    rw [if_neg e1]
    simpa using h1
   ·rw [if_neg e2] at h2
    simp only [decide_eq_true_eq] at h2
    rw [if_neg (by omega)]
    simp only [decide_eq_true_eq]
    omega
end
end Go.Proofs.Ytdamibblnjeooaa.H

/- What the reference of bids computes: by the same plain words. -/
namespace Go.Proofs.Ytdamibblnjeooaa.H
open Go.RowKit Go.Proofs.YtdamibblnjeooaaW.PrintWords Go.Proofs.YtdamibblnjeooaaW.PrintLast
set_option linter.unusedVariables false
set_option linter.unusedSimpArgs false
/-- A bid of the reference as a bid of the program. -/
def cv (b : S85) : S82 := ⟨b.f0, b.f1, b.f2⟩
theorem drop_cons {α : Type} (l : List α) (p : Nat) (x : α) (d : List α) (h : l.drop p = x :: d) : l[p]? = some x ∧ l.drop (p + 1) = d ∧ p < l.length := by
 have h1 : l[p]? = some x := by
  have := congrArg (fun t => t[0]?) h
  simpa using this
 refine ⟨h1, ?_, ?_⟩
 ·have := congrArg List.tail h
  simpa using this
 ·have := congrArg List.length h
  simp at this
  omega
theorem drop_nil {α : Type} (l : List α) (p : Nat) (hp : p ≤ l.length) (h : l.drop p = []) : p = l.length := by
 have := congrArg List.length h
 simp at this
 omega
theorem rdR_at (l : List S85) (i : Nat) (x : S85) (h : l[i]? = some x) : rd_T85 l (i : Int) = x := by
 simp [rd_T85, List.getD, h]
/-! ### given -/
theorem given_ok (l : List S85) (hl : l.length < 3518437208883) : Ev (fun k => worldmintlaw29_given.f k l) (l.map cv) := by
 have : ∀ (d : List S85) (p : Nat), l.drop p = d → p ≤ l.length → Ev (fun k => worldmintlaw29_given.l0 k l ((l.take p).map cv) (p : Int)) (l.map cv) := by
  intro d
  induction d with
  | nil =>
   intro p hd hp
   have := drop_nil l p hp hd
   subst this
   refine Ev.succ ?_
   simp only [worldmintlaw29_given.l0, if_neg (show ¬ (l.length : Int) < (l.length : Int) by omega), List.take_length]
   exact Ev.some_
  | cons x d ih =>
   intro p hd hp
   obtain ⟨hx, hd', hlt⟩ := drop_cons l p x d hd
   have hw : wrap64 ((p : Int) + 1) = ((p + 1 : Nat) : Int) := by rw [w64 _ (by omega) (by omega)]; omega
   have h1 := ih (p + 1) hd' (by omega)
   refine Ev.succ ?_
   simp only [worldmintlaw29_given.l0, if_pos (show (p : Int) < (l.length : Int) by omega), if_pos (show (0 : Int) ≤ (p : Int) by omega), rdR_at l p x hx, hw, List.length_map, List.length_take]
   simp only [if_pos (show min p l.length < 3518437208883 by omega)]
   have e : (l.take p).map cv ++ [⟨x.f0, x.f1, x.f2⟩] = (l.take (p + 1)).map cv := by
    have hg : l[p] = x := by
     have := List.getElem?_eq_getElem hlt
     rw [hx] at this
     injection this with this
     exact this.symm
    rw [List.take_succ_eq_append_getElem hlt, List.map_append, hg]
    rfl
   rw [e]
   exact h1
 exact this l 0 rfl (Nat.zero_le _)
/-! ### Conflict, Feasible, Value, Less, Choice -/
theorem has_ok (xs : List Int) (x : Int) (hl : xs.length ≤ 9223372036854775807) : Ev (fun k => worldmintref01_Has.f k xs x) (xs.contains x) := by
 have : ∀ (d : List Int) (p : Nat), xs.drop p = d → p ≤ xs.length → Ev (fun k => worldmintref01_Has.l0 k xs x (p : Int)) (d.contains x) := by
  intro d
  induction d with
  | nil =>
   intro p hd hp
   have := drop_nil xs p hp hd
   refine Ev.succ ?_
   simp only [worldmintref01_Has.l0, if_neg (show ¬ (p : Int) < (xs.length : Int) by omega)]
   exact Ev.some_
  | cons y d ih =>
   intro p hd hp
   obtain ⟨hx, hd', hlt⟩ := drop_cons xs p y d hd
   have hw : wrap64 ((p : Int) + 1) = ((p + 1 : Nat) : Int) := by rw [w64 _ (by omega) (by omega)]; omega
   have h1 := ih (p + 1) hd' (by omega)
   refine Ev.succ ?_
   simp only [worldmintref01_Has.l0, if_pos (show (p : Int) < (xs.length : Int) by omega), if_pos (show (0 : Int) ≤ (p : Int) by omega), rd_at xs p y hx, hw]
   by_cases c : y = x
   ·subst c
    simp only [if_true]
    simpa using Ev.some_
   ·simp only [if_neg c]
    have e : (y :: d).contains x = d.contains x := by rw [List.contains_cons, beq_false_of_ne (fun e : x = y => c e.symm), Bool.false_or]
    rw [e]
    exact h1
 exact this xs 0 rfl (Nat.zero_le _)
theorem value_ok (l : List S82) (c : List Int) (hc : ∀ k ∈ c, 0 ≤ k ∧ k < l.length) (hl : c.length ≤ 1000) (hp : ∀ b ∈ l, 0 ≤ b.f1 ∧ b.f1 ≤ 1099511627776) : Ev (fun k => bids_Value.f k l c) (valP l c) := by
 have : ∀ (d : List Int) (p : Nat) (s : Int), c.drop p = d → p ≤ c.length → 0 ≤ s → s ≤ p * 1099511627776 → Ev (fun k => bids_Value.l0 k l s c (c.length : Int) (p : Int)) (s + valP l d) := by
  intro d
  induction d with
  | nil =>
   intro p s hd hpl hs0 hs1
   have := drop_nil c p hpl hd
   refine Ev.succ ?_
   simp only [bids_Value.l0, if_neg (show ¬ (p : Int) < (c.length : Int) by omega), valP, List.map_nil, List.sum_nil, Int.add_zero]
   exact Ev.some_
  | cons y d ih =>
   intro p s hd hpl hs0 hs1
   obtain ⟨hx, hd', hlt⟩ := drop_cons c p y d hd
   obtain ⟨hy0, hy1⟩ := hc y (List.mem_of_getElem? hx)
   have hw : wrap64 ((p : Int) + 1) = ((p + 1 : Nat) : Int) := by rw [w64 _ (by omega) (by omega)]; omega
   have hyl : y.toNat < l.length := by omega
   have hm : l.getD y.toNat z82 ∈ l := by simp [List.getD, hyl]
   have hb := hp _ hm
   have hrd : rd_T82 l y = l.getD y.toNat z82 := rfl
   have hw2 : wrap64 (s + (l.getD y.toNat z82).f1) = s + (l.getD y.toNat z82).f1 := w64 _ (by omega) (by omega)
   have h1 := ih (p + 1) (s + (l.getD y.toNat z82).f1) hd' (by omega) (by omega) (by omega)
   refine Ev.succ ?_
   simp only [bids_Value.l0, if_pos (show (p : Int) < (c.length : Int) by omega), if_pos (show (0 : Int) ≤ (p : Int) by omega), rd_at c p y hx, hw, if_pos (show y ≥ 0 by omega), if_pos (show y < (l.length : Int) by omega), if_pos (show (0 : Int) ≤ y by omega), hrd, hw2]
   have e : s + valP l (y :: d) = s + (l.getD y.toNat z82).f1 + valP l d := by
    simp only [valP, List.map_cons, List.sum_cons]
    omega
   rw [e]
   exact h1
 have h := this c 0 0 rfl (Nat.zero_le _) (by omega) (by omega)
 simpa [bids_Value.f] using h
end Go.Proofs.Ytdamibblnjeooaa.H

/- proof.Check. -/
namespace Go.Proofs.Ytdamibblnjeooaa.H
open Go.RowKit Go.Proofs.YtdamibblnjeooaaW.PrintWords Go.Proofs.YtdamibblnjeooaaW.PrintLast Go.Proofs.YtdamibblnjeooaaW.PrintMore
set_option linter.unusedVariables false
set_option linter.unusedSimpArgs false
/-- The certificate as a whole. -/
def rootP (n : Int) (l : List S82) (v : Int) (nodes : List S55) : Bool × List Bool := nodeP n l v nodes nodes.length 0 (List.replicate l.length 0) (List.replicate nodes.length false)
def checkP (n : Int) (l : List S82) (win : List Int) (v : Int) (nodes : List S55) : Int :=
 if validP n l ≠ 0 then validP n l else if feasP l [] win = false then 1 else if 2047 < nodes.length then 4 else if nodes.length = 0 ∨ v ≠ valP l win then 20 else
 if (rootP n l v nodes).1 = true ∧ (rootP n l v nodes).2.all id = true then 0 else 20
def proof_Check.f (a0 : Int) (l1 : List S82) (l2 : List Int) (a3_0 : Int) (l3_1 : List S55) : Option Int := some (checkP a0 l1 l2 a3_0 l3_1)
def lastP (pre : List Int) (w : Int) : Bool := match pre.getLast? with | some p => decide (w ≤ p) | none => false
theorem feasP_facts (l : List S82) : ∀ (ws pre : List Int), feasP l pre ws = true → (∀ k ∈ ws, 0 ≤ k ∧ k < l.length) ∧ ws.Pairwise (· < ·) ∧ (∀ p, pre.getLast? = some p → ∀ k ∈ ws, p < k)
 | [], _, _ => ⟨by simp, List.Pairwise.nil, by simp⟩
 | w :: ws, pre, h => by
  have h0 : feasP l pre (w :: ws) = if (w < 0 || (l.length : Int) ≤ w || lastP pre w) = true then false else if (pre.any fun v => conf (l.getD v.toNat z82) (l.getD w.toNat z82)) = true then false else feasP l (pre ++ [w]) ws := rfl
  rw [h0] at h
  by_cases c1 : (w < 0 || (l.length : Int) ≤ w || lastP pre w) = true
  ·rw [if_pos c1] at h; cases h
  ·rw [if_neg c1] at h
   by_cases c2 : (pre.any fun v => conf (l.getD v.toNat z82) (l.getD w.toNat z82)) = true
   ·rw [if_pos c2] at h; cases h
   ·rw [if_neg c2] at h
    obtain ⟨h1, h2, h3⟩ := feasP_facts l ws (pre ++ [w]) h
    have h4 := h3 w (by simp)
    simp only [Bool.or_eq_true, decide_eq_true_eq, not_or] at c1
    refine ⟨fun k hk => ?_, List.pairwise_cons.2 ⟨h4, h2⟩, fun p hp k hk => ?_⟩
    ·rcases List.mem_cons.1 hk with rfl | hk
     ·omega
     ·exact h1 k hk
    ·have h5 : ¬ w ≤ p := by
      have h6 := c1.2
      unfold lastP at h6
      rw [hp] at h6
      simpa using h6
     rcases List.mem_cons.1 hk with rfl | hk
     ·omega
     ·have := h4 k hk; omega
theorem rise_len : ∀ (s : List Int) (a : Int) (n : Nat), s.Pairwise (· < ·) → (∀ k ∈ s, a ≤ k ∧ k < a + n) → s.length ≤ n
 | [], _, _, _, _ => Nat.zero_le _
 | x :: s, a, n, hr, h => by
  obtain ⟨h1, h2⟩ := List.pairwise_cons.1 hr
  have hx := h x (by simp)
  obtain ⟨m, rfl⟩ : ∃ m, n = m + 1 := ⟨n - 1, by omega⟩
  have := rise_len s (a + 1) m h2 (fun k hk => by
   have h3 := h1 k hk
   have h4 := h k (by simp [hk])
   omega)
  simp only [List.length_cons]; omega
theorem feas_len (l : List S82) (win : List Int) (h : feasP l [] win = true) : win.length ≤ l.length := by
 obtain ⟨h1, h2, _⟩ := feasP_facts l win [] h
 exact rise_len win 0 l.length h2 (fun k hk => by have := h1 k hk; omega)
theorem made_boolsC (n : Nat) : madeCells #[Value.bool false] n = (bools (List.replicate n false)).toArray := by
 apply Array.ext
 ·simp [bools, madeCells]
 ·intro i h1 h2
  simp [bools, madeCells, Nat.mod_one]
theorem infoBo : (Try.prog.info? 4).map (fun i => (i.zero, i.size, i.bytes)) = some (some (.bool false), 1, 1) := by kernel_rfl
set_option maxHeartbeats 8000000 in
set_option maxRecDepth 100000 in
theorem proof_Check.calls (a0 : Int) (A1 : Option Addr) (c1 : Nat) (l1 : List S82) (A2 : Option Addr) (c2 : Nat) (l2 : List Int) (a3_0 : Int) (A3_1 : Option Addr) (c3_1 : Nat) (l3_1 : List S55) (r : Int) (w : World)
  (hr1 : Kd.C k82 w A1 l1.length l1) (hc1 : l1.length ≤ c1) (hr2 : Kd.C (Kd.int .i64) w A2 l2.length l2) (hc2 : l2.length ≤ c2) (hr3_1 : Kd.C k55 w A3_1 l3_1.length l3_1) (hc3_1 : l3_1.length ≤ c3_1) (h : proof_Check.f a0 l1 l2 a3_0 l3_1 = some r) :
  Calls Try.prog 18 #[.int .i64 a0, .slice A1 l1.length c1, .slice A2 l2.length c2, .agg #[.int .i64 a3_0, .slice A3_1 l3_1.length c3_1]] w fun e w' => e = .returned (.int .i64 r) ∧ Below w.heap.size w w' := by
 obtain rfl : checkP a0 l1 l2 a3_0 l3_1 = r := Option.some.inj h
 clear h
 obtain ⟨k, hk⟩ := bids_Valid_f a0 l1 (lots_short hr1)
 obtain ⟨wA, hwA⟩ : ∃ wA, wA = w.alloc (.cells #[.int .i64 a3_0, .slice A3_1 l3_1.length c3_1] 44) := ⟨_, rfl⟩
 have hbA : Below w.heap.size w wA := by rw [hwA]; exact (Below.refl _ w).alloc (Nat.le_refl _) _
 have hPA : wA.heap[w.heap.size]? = some (.cells #[.int .i64 a3_0, .slice A3_1 l3_1.length c3_1] 44 (0, 0)) := by rw [hwA]; exact heap_alloc_new w _
 have hv := bids_Valid.calls k a0 A1 c1 l1 _ wA (Kd.C_below hr1 hbA) hc1 hk
 have Hv := Aside0.mk hv
 have Hr1 := Aside0.mk hr1
 have Hr2 := Aside0.mk hr2
 have Hr3 := Aside0.mk hr3_1
 have HbA := Aside0.mk hbA
 have HPA := Aside0.mk hPA
 clear hr1 hr2 hr3_1 hbA hPA hv hk
 by_cases hz : validP a0 l1 = 0
 ·rw [hz] at Hv
  obtain ⟨hn1, hn2, hl10, hbb⟩ := validP_bids a0 l1 hz
  have Hbb := Aside0.mk hbb
  have Hz := Aside0.mk hz
  clear hbb hz
  have hfc := fun W (hW : Below w.heap.size w W) => bids_Feasible.calls A1 c1 l1 A2 c2 l2 _ W (Kd.C_below Hr1.out hW) hc1 (Kd.C_below Hr2.out hW) hc2 rfl
  have Hfc := Aside0.mk hfc
  clear hfc
  go_enter Try.func18, Try.ntmps18
  go_upto_region 1 with (fail)
  rw [← hwA]
  clear hwA
  go_wp2_with fail
  refine Hv.out.mono ?_
  rintro e w1 ⟨rfl, hb1⟩
  have hW1 := HbA.out.trans (hb1.mono HbA.out.size)
  have hP1 := (hb1.block _ (Array.getElem?_eq_some_iff.1 HPA.out).1).trans HPA.out
  have hf1 := Hfc.out w1 hW1
  have HW1 := Aside0.mk hW1
  have HP1 := Aside0.mk hP1
  have Hf1 := Aside0.mk hf1
  clear hb1 hW1 hP1 hf1 Hfc HPA HbA Hv
  cases hfe : feasP l1 [] l2
  ·have hres : checkP a0 l1 l2 a3_0 l3_1 = 1 := by unfold checkP; rw [if_neg (by rw [Hz.out]; simp), if_pos hfe]
   rw [hfe] at Hf1
   have Hres := Aside0.mk hres
   clear hres hfe
   go_wp2_with fail
   refine Hf1.out.mono ?_
   rintro e w2 ⟨rfl, hb2⟩
   have hW2 := HW1.out.trans (hb2.mono HW1.out.size)
   clear hb2 Hf1
   go_wp2
   go_ret
   exact ⟨by rw [Hres.out]; rfl, hW2⟩
  ·rw [hfe] at Hf1
   have Hfe := Aside0.mk hfe
   clear hfe
   go_wp2_with fail
   refine Hf1.out.mono ?_
   rintro e w2 ⟨rfl, hb2⟩
   have hW2 := HW1.out.trans (hb2.mono HW1.out.size)
   have hP2 := (hb2.block _ (Array.getElem?_eq_some_iff.1 HP1.out).1).trans HP1.out
   have hcp0 : w2.cell? ⟨w.heap.size, 0, none⟩ = some (.int .i64 a3_0) := (blk_cell hP2 0).trans rfl
   have hcp1 : w2.cell? ⟨w.heap.size, 1, none⟩ = some (.slice A3_1 l3_1.length c3_1) := (blk_cell hP2 1).trans rfl
   have HW2 := Aside0.mk hW2
   have HP2 := Aside0.mk hP2
   clear hb2 hW2 hP2 Hf1 HW1 HP1
   have hnb := (show l3_1.length ≤ 9223372036854775807 from Hr3.out.2.1)
   by_cases hbig : 2047 < l3_1.length
   ·have hres : checkP a0 l1 l2 a3_0 l3_1 = 4 := by unfold checkP; rw [if_neg (by rw [Hz.out]; simp), if_neg (by rw [Hfe.out]; simp), if_pos hbig]
    have Hres := Aside0.mk hres
    have hd1 : decide ((2047 : Int) < (l3_1.length : Int)) = true := decide_eq_true (by omega)
    have hd2 : decide (2047 < l3_1.length) = true := decide_eq_true hbig
    clear hres
    go_wp2
    go_ret
    exact ⟨by rw [Hres.out]; rfl, HW2.out⟩
   ·have hd1 : decide ((2047 : Int) < (l3_1.length : Int)) = false := decide_eq_false (by omega)
    have hd2 : decide (2047 < l3_1.length) = false := decide_eq_false hbig
    have Hbig := Aside0.mk hbig
    clear hbig
    by_cases hz0 : l3_1.length = 0
    ·have hres : checkP a0 l1 l2 a3_0 l3_1 = 20 := by unfold checkP; rw [if_neg (by rw [Hz.out]; simp), if_neg (by rw [Hfe.out]; simp), if_neg Hbig.out, if_pos (.inl hz0)]
     have Hres := Aside0.mk hres
     rw [hz0] at hcp1
     clear hres hz0
     go_upto_region 8 with (fail)
     go_quiet (fail)
     have hW3 : Below w.heap.size w (w2.drewN nq) := HW2.out.trans ((pw_below_drewN (Below.refl w2.heap.size w2) nq).mono HW2.out.size)
     go_wp2
     go_ret
     exact ⟨by rw [Hres.out]; rfl, hW3⟩
    ·have hd3 : ((l3_1.length : Int) == 0) = false := by simpa using hz0
     obtain ⟨hr, hp, _⟩ := feasP_facts l1 l2 [] Hfe.out
     have hfl := feas_len l1 l2 Hfe.out
     obtain ⟨kv, hkv⟩ := (value_ok l1 l2 hr (by omega) (fun b hb => by have := (Hbb.out b hb).1; omega)).ex
     have hva := bids_Value.calls kv A1 c1 l1 A2 c2 l2 _ w2.drew (Kd.C_below Hr1.out (HW2.out.trans ((below_drew0 w2).mono HW2.out.size))) hc1 (Kd.C_below Hr2.out (HW2.out.trans ((below_drew0 w2).mono HW2.out.size))) hc2 hkv
     have Hva := Aside0.mk hva
     have Hz0 := Aside0.mk hz0
     clear hva hkv hr hp hfl hz0
     have hkeep : ∀ w', Below w2.heap.size w2 w' → w'.cell? ⟨w.heap.size, 0, none⟩ = some (.int .i64 a3_0) ∧ w'.cell? ⟨w.heap.size, 1, none⟩ = some (.slice A3_1 l3_1.length c3_1) := fun w' hb =>
      ⟨(hb.cell (World.block_lt_of_cell? w2 _ hcp0)).trans hcp0, (hb.cell (World.block_lt_of_cell? w2 _ hcp1)).trans hcp1⟩
     have Hkeep := Aside0.mk hkeep
     clear hkeep
     by_cases hvv : a3_0 = valP l1 l2
     ·have hd4 : (a3_0 != valP l1 l2) = false := by simpa using hvv
      have hres : checkP a0 l1 l2 a3_0 l3_1 = if (rootP a0 l1 a3_0 l3_1).1 = true ∧ (rootP a0 l1 a3_0 l3_1).2.all id = true then 0 else 20 := by
       unfold checkP
       rw [if_neg (by rw [Hz.out]; simp), if_neg (by rw [Hfe.out]; simp), if_neg Hbig.out, if_neg (by
        rintro (h | h)
        ·exact Hz0.out h
        ·exact h hvv)]
      have Hres := Aside0.mk hres
      clear hvv hres
      generalize valP l1 l2 = vv at *
      go_upto_region 8 with (fail)
      refine wp_region_held_drew (S := fun w' => w'.cell? ⟨w.heap.size, 0, none⟩ = some (.int .i64 a3_0) ∧ w'.cell? ⟨w.heap.size, 1, none⟩ = some (.slice A3_1 l3_1.length c3_1)) (by kernel_rfl) (Hkeep.out w2.drew (below_drew0 w2)) ?_
      intro hS0
      refine wpAnyH_take (i := 0) (v := ?_) rfl (by kernel_rfl) (by kernel_rfl) (by kernel_rfl) (fun _ _ _ h => h) (Or.inl ⟨by rfl, ?_⟩) (by assumption) ?_
      rotate_left
      ·(intro w_ hSw_; (try dsimp only at hSw_); go_simp; try with_reducible rfl)
      try simp only [Act.put, List.getElem_toArray, List.getElem_cons_zero, List.getElem_cons_succ, List.setIfInBounds_toArray, List.set_cons_zero, List.set_cons_succ]
      refine wpAnyH_take (i := 1) (v := ?_) rfl (by kernel_rfl) (by kernel_rfl) (by kernel_rfl) (fun _ _ _ h => h) (Or.inl ⟨by rfl, ?_⟩) (by assumption) ?_
      rotate_left
      ·(intro w_ hSw_; (try dsimp only at hSw_); go_simp; try with_reducible rfl)
      try simp only [Act.put, List.getElem_toArray, List.getElem_cons_zero, List.getElem_cons_succ, List.setIfInBounds_toArray, List.set_cons_zero, List.set_cons_succ]
      refine wpAnyH_take (i := 2) (v := ?_) rfl (by kernel_rfl) (by kernel_rfl) (by kernel_rfl) (fun _ _ _ h => h) (Or.inl ⟨by rfl, ?_⟩) (by assumption) ?_
      rotate_left
      ·(intro w_ hSw_; (try dsimp only at hSw_); go_simp; try with_reducible rfl)
      try simp only [Act.put, List.getElem_toArray, List.getElem_cons_zero, List.getElem_cons_succ, List.setIfInBounds_toArray, List.set_cons_zero, List.set_cons_succ]
      refine wpAnyH_take (i := 3) (v := ?_) rfl (by kernel_rfl) (by kernel_rfl) (by kernel_rfl) (fun _ _ _ h => h) (Or.inl ⟨by rfl, ?_⟩) (by assumption) ?_
      rotate_left
      ·(intro w_ hSw_; (try dsimp only at hSw_); go_simp; try with_reducible rfl)
      try simp only [Act.put, List.getElem_toArray, List.getElem_cons_zero, List.getElem_cons_succ, List.setIfInBounds_toArray, List.set_cons_zero, List.set_cons_succ]
      refine wpAnyH_take (i := 4) (v := ?_) rfl (by kernel_rfl) (by kernel_rfl) (by kernel_rfl) (fun _ _ _ h => h) (Or.inl ⟨by rfl, ?_⟩) (by assumption) ?_
      rotate_left
      ·(intro w_ hSw_; (try dsimp only at hSw_); go_simp; try with_reducible rfl)
      try simp only [Act.put, List.getElem_toArray, List.getElem_cons_zero, List.getElem_cons_succ, List.setIfInBounds_toArray, List.set_cons_zero, List.set_cons_succ]
      refine wpAnyH_take (i := 5) (v := ?_) rfl (by kernel_rfl) (by kernel_rfl) (by kernel_rfl) (fun _ _ _ h => h) (Or.inl ⟨by rfl, ?_⟩) (by assumption) ?_
      rotate_left
      ·(intro w_ hSw_; (try dsimp only at hSw_); go_simp; try with_reducible rfl)
      try simp only [Act.put, List.getElem_toArray, List.getElem_cons_zero, List.getElem_cons_succ, List.setIfInBounds_toArray, List.set_cons_zero, List.set_cons_succ]
      refine wpAnyH_take (i := 6) (v := ?_) rfl (by kernel_rfl) (by kernel_rfl) (by kernel_rfl) (fun _ _ _ h => h) (Or.inl ⟨by rfl, ?_⟩) (by assumption) ?_
      rotate_left
      ·(intro w_ hSw_; (try dsimp only at hSw_); go_simp; try with_reducible rfl)
      try simp only [Act.put, List.getElem_toArray, List.getElem_cons_zero, List.getElem_cons_succ, List.setIfInBounds_toArray, List.set_cons_zero, List.set_cons_succ]
      refine wpAnyH_take (i := 7) (v := ?_) rfl (by kernel_rfl) (by kernel_rfl) (by kernel_rfl) (fun _ _ _ h => h) (Or.inl ⟨by rfl, ?_⟩) (by assumption) ?_
      rotate_left
      ·(intro w_ hSw_; (try dsimp only at hSw_); go_simp; try with_reducible rfl)
      try simp only [Act.put, List.getElem_toArray, List.getElem_cons_zero, List.getElem_cons_succ, List.setIfInBounds_toArray, List.set_cons_zero, List.set_cons_succ]
      refine wpAnyH_take (i := 8) (v := ?_) rfl (by kernel_rfl) (by kernel_rfl) (by kernel_rfl) (fun _ _ _ h => h) (Or.inl ⟨by rfl, ?_⟩) (by assumption) ?_
      rotate_left
      ·(intro w_ hSw_; (try dsimp only at hSw_); go_simp; try with_reducible rfl)
      try simp only [Act.put, List.getElem_toArray, List.getElem_cons_zero, List.getElem_cons_succ, List.setIfInBounds_toArray, List.set_cons_zero, List.set_cons_succ]
      refine wpAnyH_ready (rs := [9]) (by kernel_rfl) (by simp) ?_
      refine AllReadyH.cons rfl (fun K hK => ?_) AllReadyH.nil
      go_simp
      refine Hva.out.mono ?_
      rintro e w3 ⟨rfl, hd_⟩
      have hb3 := hd_.below
      refine hK.out _ _ (Hkeep.out w3 ⟨hb3.os, hb3.tape, hb3.output, hb3.size, hb3.block⟩) (fun hSn_ => ?_)
      clear hK K
      try simp only [Act.put, List.getElem_toArray, List.getElem_cons_zero, List.getElem_cons_succ, List.setIfInBounds_toArray, List.set_cons_zero, List.set_cons_succ]
      refine wpAnyH_take (i := 10) (v := ?_) rfl (by kernel_rfl) (by kernel_rfl) (by kernel_rfl) (fun _ _ _ h => h) (Or.inl ⟨by rfl, ?_⟩) (by assumption) ?_
      rotate_left
      ·(intro w_ hSw_; (try dsimp only at hSw_); go_simp; try with_reducible rfl)
      try simp only [Act.put, List.getElem_toArray, List.getElem_cons_zero, List.getElem_cons_succ, List.setIfInBounds_toArray, List.set_cons_zero, List.set_cons_succ]
      refine wpAnyH_take (i := 11) (v := ?_) rfl (by kernel_rfl) (by kernel_rfl) (by kernel_rfl) (fun _ _ _ h => h) (Or.inl ⟨by rfl, ?_⟩) (by assumption) ?_
      rotate_left
      ·(intro w_ hSw_; (try dsimp only at hSw_); go_simp; try with_reducible rfl)
      try simp only [Act.put, List.getElem_toArray, List.getElem_cons_zero, List.getElem_cons_succ, List.setIfInBounds_toArray, List.set_cons_zero, List.set_cons_succ]
      refine wpAnyH_take (i := 12) (v := ?_) rfl (by kernel_rfl) (by kernel_rfl) (by kernel_rfl) (fun _ _ _ h => h) (Or.inl ⟨by rfl, ?_⟩) (by assumption) ?_
      rotate_left
      ·(intro w_ hSw_; (try dsimp only at hSw_); go_simp; try with_reducible rfl)
      try simp only [Act.put, List.getElem_toArray, List.getElem_cons_zero, List.getElem_cons_succ, List.setIfInBounds_toArray, List.set_cons_zero, List.set_cons_succ]
      refine wpAnyH_done (by kernel_rfl) ?_ _
      have hb3' : Below w2.heap.size w2 w3 := ⟨hb3.os, hb3.tape, hb3.output, hb3.size, hb3.block⟩
      have hW3 : Below w.heap.size w w3 := HW2.out.trans (hb3'.mono HW2.out.size)
      have hP3 := (hb3'.block _ (Array.getElem?_eq_some_iff.1 HP2.out).1).trans HP2.out
      clear hb3 hb3' hd_ hSn_ hS0 Hva Hkeep HW2 HP2 hcp0 hcp1
      have hcp0 : w3.cell? ⟨w.heap.size, 0, none⟩ = some (.int .i64 a3_0) := (blk_cell hP3 0).trans rfl
      have hcp1 : w3.cell? ⟨w.heap.size, 1, none⟩ = some (.slice A3_1 l3_1.length c3_1) := (blk_cell hP3 1).trans rfl
      have hal : ∀ (w : World) (o : Obj) (p : Addr) (v : Value), w.cell? p = some v → (w.alloc o).cell? p = some v := fun w o p v hp => (((Below.refl _ w).alloc (Nat.le_refl _) o).cell (p := p) (World.block_lt_of_cell? w _ hp)).trans hp
      have k0 := fun o => hal w3 o _ _ hcp0
      have k1 := fun o => hal w3 o _ _ hcp1
      have hmk := print_make_of (P := Try.prog) 91 4 (.bool false) 1 Try.underlying91 infoBo rfl (by decide) l3_1.length (by have := Hbig.out; omega)
      have HW3 := Aside0.mk hW3
      clear hal hP3 hW3
      go_upto_region 10 with (fail)
      go_region
      obtain ⟨W5, hW5⟩ : ∃ W5, W5 = ((w3.alloc (.cells (madeCells #[.bool false] l3_1.length) 4)).alloc (.cells #[.int .i64 a0, .slice A1 l1.length c1, .int .i64 a3_0, .slice A3_1 l3_1.length c3_1, .slice (some ⟨w3.heap.size, 0, none⟩) l3_1.length l3_1.length] 93)).drew := ⟨_, rfl⟩
      rw [← hW5]
      obtain ⟨s, hs⟩ : ∃ s : PCx, s = ⟨w, w3.heap.size + 1, w3.heap.size, a0, A1, c1, l1, a3_0, A3_1, c3_1, l3_1⟩ := ⟨_, rfl⟩
      have hb5 : Below w3.heap.size w3 W5 := by
       rw [hW5]
       exact below_drew (((Below.refl _ w3).alloc (Nat.le_refl _) _).alloc (by simp) _)
      have hSt : NSt s W5 (List.replicate l3_1.length false) := by
       rw [hs]
       refine ⟨HW3.out.trans (hb5.mono HW3.out.size), ?_, ?_⟩
       ·show W5.heap[w3.heap.size + 1]? = _
        have h_ := heap_alloc_new (w3.alloc (.cells (madeCells #[.bool false] l3_1.length) 4)) (.cells #[.int .i64 a0, .slice A1 l1.length c1, .int .i64 a3_0, .slice A3_1 l3_1.length c3_1, .slice (some ⟨w3.heap.size, 0, none⟩) l3_1.length l3_1.length] 93)
        rw [World.size_alloc] at h_
        rw [hW5]
        exact h_
       ·show W5.heap[w3.heap.size]? = _
        rw [← made_boolsC, hW5]
        exact (Below.heap_alloc _ _ _ (by simp)).trans (heap_alloc_new w3 _)
      have hok : POk s := by
       rw [hs]
       exact ⟨Hr1.out, Hr3.out, hl10, ⟨hn1, hn2⟩, Hbb.out, by have := Hbig.out; show l3_1.length ≤ 2047; omega, Nat.le_succ_of_le HW3.out.size, HW3.out.size, Nat.succ_ne_self _⟩
      have hmk2 := print_make (P := Try.prog) 22 3 .i64 8 Try.underlying22 infoW (by decide) l1.length (by omega)
      rw [made_zerosW] at hmk2
      obtain ⟨W6, hW6⟩ : ∃ W6, W6 = W5.alloc (.cells (List.replicate l1.length (Value.int .i64 0)).toArray 3) := ⟨_, rfl⟩
      have hmk3 := hmk2 W5
      rw [← hW6] at hmk3
      have hb6 : Below W5.heap.size W5 W6 := by rw [hW6]; exact (Below.refl _ W5).alloc (Nat.le_refl _) _
      have hD6 : W6.heap[W5.heap.size]? = some (.cells ((List.replicate l1.length (0 : Int)).map (Value.int .i64)).toArray 3 (0, 0)) := by
       rw [hW6, List.map_replicate]
       exact heap_alloc_new W5 _
      have hsb5 := (Array.getElem?_eq_some_iff.1 hSt.hS).1
      have hn := node_calls s hok l3_1.length 0 (List.replicate l1.length 0) W5.heap.size (List.replicate l3_1.length false) W6 (by have := Hz0.out; rw [hs]; show 0 < l3_1.length; omega) (by rw [hs]; show l3_1.length ≤ 0 + l3_1.length; omega) (by rw [hs, List.length_replicate]) (by rw [hs, List.length_replicate]) (hSt.step hb6) hD6 (by omega)
      rw [List.length_replicate, show ((0 : Nat) : Int) = 0 from rfl] at hn
      have hroot : nodeP s.n s.l s.v s.nodes l3_1.length 0 (List.replicate l1.length 0) (List.replicate l3_1.length false) = rootP a0 l1 a3_0 l3_1 := by rw [hs]; rfl
      rw [hroot] at hn
      have hrl : (rootP a0 l1 a3_0 l3_1).2.length = l3_1.length := by unfold rootP; rw [nodeP_len, List.length_replicate]
      have hcb : s.cb = w3.heap.size + 1 := by rw [hs]
      have hsbs : s.sb = w3.heap.size := by rw [hs]
      have hsn : s.nodes.length = l3_1.length := by rw [hs]
      have hsw : s.w0 = w := by rw [hs]
      rw [hcb] at hn
      have Hn := Aside0.mk hn
      have Hrl := Aside0.mk hrl
      have Hcb := Aside0.mk hcb
      have Hsbs := Aside0.mk hsbs
      have Hsn := Aside0.mk hsn
      have Hsw := Aside0.mk hsw
      clear hW5 hs hb5 hSt hok hmk hmk2 hW6 hb6 hD6 hsb5 hn hroot hrl hcb hsbs hsn hsw k0 k1 hcp0 hcp1 HW3 hd1 hd2 hd3 hd4
      generalize rootP a0 l1 a3_0 l3_1 = rt at *
      go_wp2_with fail
      refine Hn.out.mono ?_
      rintro e w7 ⟨rfl, hS7, hT7⟩
      have hW7 : Below w.heap.size w w7 := by have := hS7.below; rwa [Hsw.out] at this
      cases hr1 : rt.1
      ·have hfin : checkP a0 l1 l2 a3_0 l3_1 = 20 := by rw [Hres.out, hr1, if_neg (by simp)]
       have Hfin := Aside0.mk hfin
       clear hfin hS7 hT7 hr1 Hn
       go_wp2
       go_ret
       exact ⟨by rw [Hfin.out]; rfl, hW7⟩
      ·have hc4 : w7.cell? ⟨w3.heap.size + 1, 4, none⟩ = some (.slice (some ⟨w3.heap.size, 0, none⟩) l3_1.length l3_1.length) := by
        have h := hS7.hC
        rw [Hcb.out, Hsbs.out, Hsn.out] at h
        exact (blk_cell h 4).trans rfl
       have hcn := containsB_calls w3.heap.size rt.2 l3_1.length w7 (by have h := hS7.hS; rwa [Hsbs.out] at h) (by rw [Hrl.out]; have := Hbig.out; omega)
       rw [Hrl.out] at hcn
       have Hcn := Aside0.mk hcn
       have Hr1' := Aside0.mk hr1
       clear hS7 hT7 hcn hr1 Hn
       cases hall : rt.2.all id
       ·rw [hall] at Hcn
        have hfin : checkP a0 l1 l2 a3_0 l3_1 = 20 := by rw [Hres.out, hall, if_neg (by simp)]
        have Hfin := Aside0.mk hfin
        clear hfin hall
        go_wp2_with fail
        refine Hcn.out.mono ?_
        rintro e w8 ⟨rfl, hb8⟩
        have hW8 := hW7.trans (hb8.mono hW7.size)
        clear hb8 Hcn
        go_wp2
        go_ret
        exact ⟨by rw [Hfin.out]; rfl, hW8⟩
       ·rw [hall] at Hcn
        have hfin : checkP a0 l1 l2 a3_0 l3_1 = 0 := by rw [Hres.out, hall, Hr1'.out, if_pos ⟨rfl, rfl⟩]
        have Hfin := Aside0.mk hfin
        clear hfin hall
        go_wp2_with fail
        refine Hcn.out.mono ?_
        rintro e w8 ⟨rfl, hb8⟩
        have hW8 := hW7.trans (hb8.mono hW7.size)
        clear hb8 Hcn
        go_wp2
        go_ret
        exact ⟨by rw [Hfin.out]; rfl, hW8⟩
     ·have hres : checkP a0 l1 l2 a3_0 l3_1 = 20 := by unfold checkP; rw [if_neg (by rw [Hz.out]; simp), if_neg (by rw [Hfe.out]; simp), if_neg Hbig.out, if_pos (.inr hvv)]
      have Hres := Aside0.mk hres
      have hd4 : (a3_0 != valP l1 l2) = true := by simpa using hvv
      clear hres hvv
      generalize valP l1 l2 = vv at *
      go_upto_region 8 with (fail)
      refine wp_region_held_drew (S := fun w' => w'.cell? ⟨w.heap.size, 0, none⟩ = some (.int .i64 a3_0) ∧ w'.cell? ⟨w.heap.size, 1, none⟩ = some (.slice A3_1 l3_1.length c3_1)) (by kernel_rfl) (Hkeep.out w2.drew (below_drew0 w2)) ?_
      intro hS0
      refine wpAnyH_take (i := 0) (v := ?_) rfl (by kernel_rfl) (by kernel_rfl) (by kernel_rfl) (fun _ _ _ h => h) (Or.inl ⟨by rfl, ?_⟩) (by assumption) ?_
      rotate_left
      ·(intro w_ hSw_; (try dsimp only at hSw_); go_simp; try with_reducible rfl)
      try simp only [Act.put, List.getElem_toArray, List.getElem_cons_zero, List.getElem_cons_succ, List.setIfInBounds_toArray, List.set_cons_zero, List.set_cons_succ]
      refine wpAnyH_take (i := 1) (v := ?_) rfl (by kernel_rfl) (by kernel_rfl) (by kernel_rfl) (fun _ _ _ h => h) (Or.inl ⟨by rfl, ?_⟩) (by assumption) ?_
      rotate_left
      ·(intro w_ hSw_; (try dsimp only at hSw_); go_simp; try with_reducible rfl)
      try simp only [Act.put, List.getElem_toArray, List.getElem_cons_zero, List.getElem_cons_succ, List.setIfInBounds_toArray, List.set_cons_zero, List.set_cons_succ]
      refine wpAnyH_take (i := 2) (v := ?_) rfl (by kernel_rfl) (by kernel_rfl) (by kernel_rfl) (fun _ _ _ h => h) (Or.inl ⟨by rfl, ?_⟩) (by assumption) ?_
      rotate_left
      ·(intro w_ hSw_; (try dsimp only at hSw_); go_simp; try with_reducible rfl)
      try simp only [Act.put, List.getElem_toArray, List.getElem_cons_zero, List.getElem_cons_succ, List.setIfInBounds_toArray, List.set_cons_zero, List.set_cons_succ]
      refine wpAnyH_take (i := 3) (v := ?_) rfl (by kernel_rfl) (by kernel_rfl) (by kernel_rfl) (fun _ _ _ h => h) (Or.inl ⟨by rfl, ?_⟩) (by assumption) ?_
      rotate_left
      ·(intro w_ hSw_; (try dsimp only at hSw_); go_simp; try with_reducible rfl)
      try simp only [Act.put, List.getElem_toArray, List.getElem_cons_zero, List.getElem_cons_succ, List.setIfInBounds_toArray, List.set_cons_zero, List.set_cons_succ]
      refine wpAnyH_take (i := 4) (v := ?_) rfl (by kernel_rfl) (by kernel_rfl) (by kernel_rfl) (fun _ _ _ h => h) (Or.inl ⟨by rfl, ?_⟩) (by assumption) ?_
      rotate_left
      ·(intro w_ hSw_; (try dsimp only at hSw_); go_simp; try with_reducible rfl)
      try simp only [Act.put, List.getElem_toArray, List.getElem_cons_zero, List.getElem_cons_succ, List.setIfInBounds_toArray, List.set_cons_zero, List.set_cons_succ]
      refine wpAnyH_take (i := 5) (v := ?_) rfl (by kernel_rfl) (by kernel_rfl) (by kernel_rfl) (fun _ _ _ h => h) (Or.inl ⟨by rfl, ?_⟩) (by assumption) ?_
      rotate_left
      ·(intro w_ hSw_; (try dsimp only at hSw_); go_simp; try with_reducible rfl)
      try simp only [Act.put, List.getElem_toArray, List.getElem_cons_zero, List.getElem_cons_succ, List.setIfInBounds_toArray, List.set_cons_zero, List.set_cons_succ]
      refine wpAnyH_take (i := 6) (v := ?_) rfl (by kernel_rfl) (by kernel_rfl) (by kernel_rfl) (fun _ _ _ h => h) (Or.inl ⟨by rfl, ?_⟩) (by assumption) ?_
      rotate_left
      ·(intro w_ hSw_; (try dsimp only at hSw_); go_simp; try with_reducible rfl)
      try simp only [Act.put, List.getElem_toArray, List.getElem_cons_zero, List.getElem_cons_succ, List.setIfInBounds_toArray, List.set_cons_zero, List.set_cons_succ]
      refine wpAnyH_take (i := 7) (v := ?_) rfl (by kernel_rfl) (by kernel_rfl) (by kernel_rfl) (fun _ _ _ h => h) (Or.inl ⟨by rfl, ?_⟩) (by assumption) ?_
      rotate_left
      ·(intro w_ hSw_; (try dsimp only at hSw_); go_simp; try with_reducible rfl)
      try simp only [Act.put, List.getElem_toArray, List.getElem_cons_zero, List.getElem_cons_succ, List.setIfInBounds_toArray, List.set_cons_zero, List.set_cons_succ]
      refine wpAnyH_take (i := 8) (v := ?_) rfl (by kernel_rfl) (by kernel_rfl) (by kernel_rfl) (fun _ _ _ h => h) (Or.inl ⟨by rfl, ?_⟩) (by assumption) ?_
      rotate_left
      ·(intro w_ hSw_; (try dsimp only at hSw_); go_simp; try with_reducible rfl)
      try simp only [Act.put, List.getElem_toArray, List.getElem_cons_zero, List.getElem_cons_succ, List.setIfInBounds_toArray, List.set_cons_zero, List.set_cons_succ]
      refine wpAnyH_ready (rs := [9]) (by kernel_rfl) (by simp) ?_
      refine AllReadyH.cons rfl (fun K hK => ?_) AllReadyH.nil
      go_simp
      refine Hva.out.mono ?_
      rintro e w3 ⟨rfl, hd_⟩
      have hb3 := hd_.below
      refine hK.out _ _ (Hkeep.out w3 ⟨hb3.os, hb3.tape, hb3.output, hb3.size, hb3.block⟩) (fun hSn_ => ?_)
      clear hK K
      try simp only [Act.put, List.getElem_toArray, List.getElem_cons_zero, List.getElem_cons_succ, List.setIfInBounds_toArray, List.set_cons_zero, List.set_cons_succ]
      refine wpAnyH_take (i := 10) (v := ?_) rfl (by kernel_rfl) (by kernel_rfl) (by kernel_rfl) (fun _ _ _ h => h) (Or.inl ⟨by rfl, ?_⟩) (by assumption) ?_
      rotate_left
      ·(intro w_ hSw_; (try dsimp only at hSw_); go_simp; try with_reducible rfl)
      try simp only [Act.put, List.getElem_toArray, List.getElem_cons_zero, List.getElem_cons_succ, List.setIfInBounds_toArray, List.set_cons_zero, List.set_cons_succ]
      refine wpAnyH_take (i := 11) (v := ?_) rfl (by kernel_rfl) (by kernel_rfl) (by kernel_rfl) (fun _ _ _ h => h) (Or.inl ⟨by rfl, ?_⟩) (by assumption) ?_
      rotate_left
      ·(intro w_ hSw_; (try dsimp only at hSw_); go_simp; try with_reducible rfl)
      try simp only [Act.put, List.getElem_toArray, List.getElem_cons_zero, List.getElem_cons_succ, List.setIfInBounds_toArray, List.set_cons_zero, List.set_cons_succ]
      refine wpAnyH_take (i := 12) (v := ?_) rfl (by kernel_rfl) (by kernel_rfl) (by kernel_rfl) (fun _ _ _ h => h) (Or.inl ⟨by rfl, ?_⟩) (by assumption) ?_
      rotate_left
      ·(intro w_ hSw_; (try dsimp only at hSw_); go_simp; try with_reducible rfl)
      try simp only [Act.put, List.getElem_toArray, List.getElem_cons_zero, List.getElem_cons_succ, List.setIfInBounds_toArray, List.set_cons_zero, List.set_cons_succ]
      refine wpAnyH_done (by kernel_rfl) ?_ _
      have hW3 : Below w.heap.size w w3 := HW2.out.trans (Below.mono (w := w2) ⟨hb3.os, hb3.tape, hb3.output, hb3.size, hb3.block⟩ HW2.out.size)
      go_wp2
      go_ret
      exact ⟨by rw [Hres.out]; rfl, hW3⟩
 ·have hres : checkP a0 l1 l2 a3_0 l3_1 = validP a0 l1 := by unfold checkP; rw [if_pos hz]
  rw [hres]
  generalize validP a0 l1 = z at *
  have hz' : (z != 0) = true := by simpa using hz
  clear hz hres
  go_enter Try.func18, Try.ntmps18
  go_upto_region 1 with (fail)
  rw [← hwA]
  clear hwA
  go_wp2_with fail
  refine Hv.out.mono ?_
  rintro e w1 ⟨rfl, hb1⟩
  have hW1 := HbA.out.trans (hb1.mono HbA.out.size)
  clear hb1 Hv
  go_wp2
  go_ret
  exact ⟨rfl, hW1⟩
def worldmintlaw29_lives.f : Option Bool := some true
def livesB : List S82 := [⟨1, 6, [0, 1]⟩, ⟨2, 4, [0]⟩, ⟨3, 4, [1]⟩]
def alls (w : World) (os : List Obj) : World := os.foldl (fun w o => w.alloc o) w
theorem alls_size : ∀ (os : List Obj) (w : World), (alls w os).heap.size = w.heap.size + os.length
 | [], _ => rfl
 | o :: os, w => by
  have h := alls_size os (w.alloc o)
  rw [World.size_alloc] at h
  show (alls (w.alloc o) os).heap.size = _
  rw [h, List.length_cons]; omega
theorem alls_below : ∀ (os : List Obj) (w : World), Below w.heap.size w (alls w os)
 | [], w => Below.refl _ w
 | o :: os, w => by
  have h := alls_below os (w.alloc o)
  exact ((Below.refl _ w).alloc (Nat.le_refl _) o).trans (h.mono (by rw [World.size_alloc]; omega))
theorem alls_at : ∀ (os : List Obj) (w : World) (k : Nat) (o : Obj), os[k]? = some o → (alls w os).heap[w.heap.size + k]? = some o
 | [], _, _, _, h => by simp at h
 | x :: os, w, 0, o, h => by
  simp only [List.getElem?_cons_zero, Option.some.injEq] at h
  subst h
  have hb := alls_below os (w.alloc x)
  exact (hb.block _ (by rw [World.size_alloc]; omega)).trans (heap_alloc_new w x)
 | x :: os, w, k + 1, o, h => by
  simp only [List.getElem?_cons_succ] at h
  have h2 := alls_at os (w.alloc x) k o h
  rw [World.size_alloc] at h2
  rw [show w.heap.size + (k + 1) = w.heap.size + 1 + k by omega]
  exact h2
theorem C_lit {α : Type} (d : Kd α) {W : World} {b : Nat} {inner : List Value} {t : TypeId} {xs : List α} (h : W.heap[b]? = some (.cells inner.toArray t (0, 0))) (hr : Reps (d.K W) d.sz xs inner) (hn : xs.length ≤ 1000000) : d.C W (some ⟨b, 0, none⟩) xs.length xs := by
 refine ⟨rfl, by omega, fun _ => ⟨_, rfl, fun j p hj => ?_⟩⟩
 have hjl := (List.getElem?_eq_some_iff.1 hj).1
 refine ⟨(inner.drop (j * d.sz)).take d.sz, ?_, hr.2 j p hj, fun i u hi => ?_⟩
 ·rw [List.length_take, List.length_drop, hr.1]
  have : (j + 1) * d.sz ≤ xs.length * d.sz := Nat.mul_le_mul_right _ hjl
  rw [Nat.add_mul, Nat.one_mul] at this
  omega
 ·rw [show (⟨b, 0, none⟩ : Addr).add (j * d.sz + i) = ⟨b, j * d.sz + i, none⟩ by unfold Addr.add; split <;> simp_all]
  refine (blk_cell h _).trans ?_
  have hil : i < d.sz := by
   have := (List.getElem?_eq_some_iff.1 hi).1
   rw [List.length_take] at this
   omega
  rw [List.getElem?_take, if_pos hil, List.getElem?_drop] at hi
  rw [List.getElem?_toArray]
  exact hi
set_option maxHeartbeats 2000000 in
set_option maxRecDepth 100000 in
theorem worldmintlaw29_lives.calls (r : Bool) (w : World) (h : worldmintlaw29_lives.f = some r) : Calls Try.prog 22 #[] w fun e w' => e = .returned (.bool r) ∧ Below w.heap.size w w' := by
 obtain rfl := Option.some.inj h
 obtain ⟨n, hn⟩ : ∃ n, n = w.heap.size := ⟨_, rfl⟩
 obtain ⟨os, hos⟩ : ∃ os : List Obj, os = [.cells #[.int .i64 0, .int .i64 1] 3, .cells #[.int .i64 0] 3, .cells #[.int .i64 1] 3,
  .cells #[.int .i64 1, .int .i64 6, .slice (some ⟨n, 0, none⟩) 2 2, .int .i64 2, .int .i64 4, .slice (some ⟨n + 1, 0, none⟩) 1 1, .int .i64 3, .int .i64 4, .slice (some ⟨n + 2, 0, none⟩) 1 1] 82,
  .cells #[.int .i64 3, .int .i64 3] 3, .cells #[.int .i64 (-1), .int .i64 0, .int .i64 0, .slice (some ⟨n + 4, 0, none⟩) 2 2] 55, .cells #[.int .i64 8, .slice (some ⟨n + 5, 0, none⟩) 1 1] 44,
  .cells #[.int .i64 0, .int .i64 0] 3, .cells #[.int .i64 (-1), .int .i64 0, .int .i64 0, .slice (some ⟨n + 7, 0, none⟩) 2 2] 55, .cells #[.int .i64 8, .slice (some ⟨n + 8, 0, none⟩) 1 1] 44] := ⟨_, rfl⟩
 obtain ⟨W, hW⟩ : ∃ W, W = alls w os := ⟨_, rfl⟩
 have hB : Below n w W := by rw [hW, hn]; exact alls_below os w
 have hat : ∀ k o, os[k]? = some o → W.heap[n + k]? = some o := fun k o h => by rw [hW, hn]; exact alls_at os w k o h
 have hsz : W.heap.size = n + 10 := by rw [hW, alls_size, hn, hos]; rfl
 have h0 : Kd.C (Kd.int .i64) W (some ⟨n, 0, none⟩) 2 [0, 1] := C_blk (xs := [0, 1]) (hat 0 _ (by rw [hos]; rfl)) (by decide)
 have h1 : Kd.C (Kd.int .i64) W (some ⟨n + 1, 0, none⟩) 1 [0] := C_blk (xs := [0]) (hat 1 _ (by rw [hos]; rfl)) (by decide)
 have h2 : Kd.C (Kd.int .i64) W (some ⟨n + 2, 0, none⟩) 1 [1] := C_blk (xs := [1]) (hat 2 _ (by rw [hos]; rfl)) (by decide)
 have h4 : Kd.C (Kd.int .i64) W (some ⟨n + 4, 0, none⟩) 2 [3, 3] := C_blk (xs := [3, 3]) (hat 4 _ (by rw [hos]; rfl)) (by decide)
 have h7 : Kd.C (Kd.int .i64) W (some ⟨n + 7, 0, none⟩) 2 [0, 0] := C_blk (xs := [0, 0]) (hat 7 _ (by rw [hos]; rfl)) (by decide)
 have hb : Kd.C k82 W (some ⟨n + 3, 0, none⟩) 3 livesB := C_lit k82 (xs := livesB) (inner := [.int .i64 1, .int .i64 6, .slice (some ⟨n, 0, none⟩) 2 2, .int .i64 2, .int .i64 4, .slice (some ⟨n + 1, 0, none⟩) 1 1, .int .i64 3, .int .i64 4, .slice (some ⟨n + 2, 0, none⟩) 1 1]) (hat 3 _ (by rw [hos]; rfl))
  (Reps.c3 (k82_mk W ⟨1, 6, [0, 1]⟩ (Nat.le_refl _) h0) (Reps.c3 (k82_mk W ⟨2, 4, [0]⟩ (Nat.le_refl _) h1) (Reps.c3 (k82_mk W ⟨3, 4, [1]⟩ (Nat.le_refl _) h2) (Reps.none _ _)))) (by decide)
 have hp : Kd.C k55 W (some ⟨n + 5, 0, none⟩) 1 [⟨-1, 0, 0, [3, 3]⟩] := C_lit k55 (xs := [⟨-1, 0, 0, [3, 3]⟩]) (inner := [.int .i64 (-1), .int .i64 0, .int .i64 0, .slice (some ⟨n + 4, 0, none⟩) 2 2]) (hat 5 _ (by rw [hos]; rfl)) (Reps.c4 (k55_mk W ⟨-1, 0, 0, [3, 3]⟩ (Nat.le_refl _) h4) (Reps.none _ _)) (by decide)
 have hq : Kd.C k55 W (some ⟨n + 8, 0, none⟩) 1 [⟨-1, 0, 0, [0, 0]⟩] := C_lit k55 (xs := [⟨-1, 0, 0, [0, 0]⟩]) (inner := [.int .i64 (-1), .int .i64 0, .int .i64 0, .slice (some ⟨n + 7, 0, none⟩) 2 2]) (hat 8 _ (by rw [hos]; rfl)) (Reps.c4 (k55_mk W ⟨-1, 0, 0, [0, 0]⟩ (Nat.le_refl _) h7) (Reps.none _ _)) (by decide)
 have hb6 := hat 6 _ (show os[6]? = _ by rw [hos]; rfl)
 have hb9 := hat 9 _ (show os[9]? = _ by rw [hos]; rfl)
 have hcells : ∀ W', Below W.heap.size W W' → W'.cell? ⟨n + 6, 0, none⟩ = some (.int .i64 8) ∧ W'.cell? ⟨n + 6, 1, none⟩ = some (.slice (some ⟨n + 5, 0, none⟩) 1 1) ∧ W'.cell? ⟨n + 9, 0, none⟩ = some (.int .i64 8) ∧ W'.cell? ⟨n + 9, 1, none⟩ = some (.slice (some ⟨n + 8, 0, none⟩) 1 1) := fun W' hW' => by
  have g6 := (hW'.block _ (by omega)).trans hb6
  have g9 := (hW'.block _ (by omega)).trans hb9
  exact ⟨(blk_cell g6 0).trans rfl, (blk_cell g6 1).trans rfl, (blk_cell g9 0).trans rfl, (blk_cell g9 1).trans rfl⟩
 have hcall : ∀ (V : World), Below W.heap.size W V → ∀ (a b : Int) (P : S55) (x : Nat), Kd.C k55 W (some ⟨x, 0, none⟩) 1 [P] → ∀ z : Int, checkP 2 livesB [a, b] 8 [P] = z →
   Calls Try.prog 18 #[.int .i64 2, .slice (some ⟨n + 3, 0, none⟩) 3 3, .slice (some ⟨V.heap.size, 0, none⟩) 2 2, .agg #[.int .i64 8, .slice (some ⟨x, 0, none⟩) 1 1]] (V.alloc (.cells #[.int .i64 a, .int .i64 b] 3)) fun e w' => e = .returned (.int .i64 z) ∧ Below (V.alloc (.cells #[.int .i64 a, .int .i64 b] 3)).heap.size (V.alloc (.cells #[.int .i64 a, .int .i64 b] 3)) w' := fun V hV a b P x hP z hz =>
  proof_Check.calls 2 (some ⟨n + 3, 0, none⟩) 3 livesB (some ⟨V.heap.size, 0, none⟩) 2 [a, b] 8 (some ⟨x, 0, none⟩) 1 [P] z (V.alloc (.cells #[.int .i64 a, .int .i64 b] 3)) (Kd.C_alloc (Kd.C_below hb hV) _) (Nat.le_refl _) (C_blk (xs := [a, b]) (heap_alloc_new V _) (by show 2 ≤ _; omega)) (Nat.le_refl _) (Kd.C_alloc (Kd.C_below hP hV) _) (Nat.le_refl _) (by unfold proof_Check.f; rw [hz])
 have Hcall := Aside0.mk hcall
 have Hcells := Aside0.mk hcells
 have HB := Aside0.mk hB
 have Hp := Aside0.mk hp
 have Hq := Aside0.mk hq
 clear h0 h1 h2 h4 h7 hb hb6 hb9 hcells hcall hat hB hp hq
 go_enter Try.func22, Try.ntmps22
 go_upto_region 4 with (fail)
 generalize hX : World.alloc _ _ = X
 have hXW : X = W := by rw [← hX, hW, hos, hn]; rfl
 subst hXW
 rw [← hn]
 simp only [Nat.add_assoc, Nat.reduceAdd]
 have Hn := Aside0.mk hn
 clear hn hsz hX hW hos
 obtain ⟨z0, z1, _⟩ := Hcells.out X (Below.refl _ _)
 have hal : ∀ (o : Obj) (V : World), Below X.heap.size X V → Below X.heap.size X (V.alloc o) := fun o V hV => hV.alloc hV.size o
 have c1 := Hcall.out X (Below.refl _ _) 1 2 ⟨-1, 0, 0, [3, 3]⟩ (n + 5) Hp.out 0 (by kernel_rfl)
 obtain ⟨y0, y1, _⟩ := Hcells.out (X.alloc (.cells #[.int .i64 1, .int .i64 2] 3)) (hal _ _ (Below.refl _ _))
 have C1 := Aside0.mk c1
 clear c1
 go_wp2_with fail
 refine C1.out.mono ?_
 rintro e w1 ⟨rfl, hb1⟩
 have hB1 : Below X.heap.size X w1 := (hal _ _ (Below.refl _ _)).trans (hb1.mono (by rw [World.size_alloc]; omega))
 have c2 := Hcall.out w1 hB1 1 2 ⟨-1, 0, 0, [0, 0]⟩ (n + 8) Hq.out 20 (by kernel_rfl)
 have C2 := Aside0.mk c2
 clear y0 y1 c2 hb1 z0 z1 C1
 obtain ⟨_, _, y0, y1⟩ := Hcells.out (w1.alloc (.cells #[.int .i64 1, .int .i64 2] 3)) (hal _ _ hB1)
 go_wp2_with fail
 refine C2.out.mono ?_
 rintro e w2 ⟨rfl, hb2⟩
 have hB2 : Below X.heap.size X w2 := (hal _ _ hB1).trans (hb2.mono (by rw [World.size_alloc]; have := hB1.size; omega))
 have c3 := Hcall.out w2 hB2 0 1 ⟨-1, 0, 0, [3, 3]⟩ (n + 5) Hp.out 1 (by kernel_rfl)
 have C3 := Aside0.mk c3
 clear y0 y1 c3 hb2 hB1 C2
 obtain ⟨y0, y1, _⟩ := Hcells.out (w2.alloc (.cells #[.int .i64 0, .int .i64 1] 3)) (hal _ _ hB2)
 go_wp2_with fail
 refine C3.out.mono ?_
 rintro e w3 ⟨rfl, hb3⟩
 have hB3 : Below X.heap.size X w3 := (hal _ _ hB2).trans (hb3.mono (by rw [World.size_alloc]; have := hB2.size; omega))
 clear y0 y1 hb3 hB2 C3
 obtain ⟨y0, y1, _⟩ := Hcells.out w3 hB3
 have c4 := proof_Size.calls 8 (some ⟨n + 5, 0, none⟩) 1 [⟨-1, 0, 0, [3, 3]⟩] 1 w3 (Kd.C_below Hp.out hB3) (Nat.le_refl _) rfl
 have C4 := Aside0.mk c4
 clear c4
 go_wp2_with fail
 refine C4.out.mono ?_
 rintro e w4 ⟨rfl, hd4⟩
 have hB4 := hd4
 have hnX : n ≤ X.heap.size := by rw [Hn.out]; exact HB.out.size
 have hfin : Below w.heap.size w w4 := by
  rw [← Hn.out]
  exact HB.out.trans ((hB3.mono hnX).trans (hB4.mono (Nat.le_trans hnX hB3.size)))
 clear hd4 hB4 C4 hB3 y0 y1
 go_wp2
 go_ret
 exact ⟨rfl, hfin⟩
end Go.Proofs.Ytdamibblnjeooaa.H

/- The checker's walk over a certificate: each node once, against the count of parents. Plain. -/
namespace Go.Proofs.Ytdamibblnjeooaa.H
open Go.RowKit
set_option linter.unusedVariables false
set_option linter.unusedSimpArgs false
section
variable (n : Int) (l : List S82) (v : Int) (nodes : List S55)
def stepR (go : Nat → List Int → Bool) (len i : Nat) (dec : List Int) (b : Nat) (k d : Int) : Bool := if (i : Int) < k ∧ k < len then go k.toNat (dec.set b d) else false
def stepV (go : Nat → List Nat) (len i : Nat) (k : Int) : List Nat := if (i : Int) < k ∧ k < len then go k.toNat else []
/-- Is the certificate right from node i on? -/
def rightP : Nat → Nat → List Int → Bool
 | 0, _, _ => false
 | f + 1, i, dec =>
  if (nodes.getD i z55).f0 = -1 then leafP n l v dec (nodes.getD i z55) else
  if (nodes.getD i z55).f0 < 0 ∨ (l.length : Int) ≤ (nodes.getD i z55).f0 ∨ possP l dec (nodes.getD i z55).f0.toNat = false ∨ 0 < (nodes.getD i z55).f3.length then false else
  stepR (rightP f) nodes.length i dec (nodes.getD i z55).f0.toNat (nodes.getD i z55).f1 1 && stepR (rightP f) nodes.length i dec (nodes.getD i z55).f0.toNat (nodes.getD i z55).f2 2
/-- The nodes that are met from node i on. -/
def visP : Nat → Nat → List Nat
 | 0, _ => []
 | f + 1, i => i :: (if (nodes.getD i z55).f0 = -1 then [] else stepV (visP f) nodes.length i (nodes.getD i z55).f1 ++ stepV (visP f) nodes.length i (nodes.getD i z55).f2)
end
section
variable {n : Int} {l : List S82} {v : Int} {nodes : List S55}
theorem getD_set_true (st : List Bool) (i j : Nat) : (st.set i true).getD j true = (st.getD j true || decide (j = i)) := by
 simp only [List.getD, List.getElem?_set]
 by_cases h : i = j
 ·subst h
  by_cases h2 : i < st.length <;> simp [h2]
 ·rw [if_neg h]
  simp [show ¬ j = i from fun e => h e.symm]
def NR (n : Int) (l : List S82) (v : Int) (nodes : List S55) (f : Nat) : Prop := ∀ i dec st,
 ((nodeP n l v nodes f i dec st).1 = true ↔ rightP n l v nodes f i dec = true ∧ (visP nodes f i).Nodup ∧ ∀ j ∈ visP nodes f i, st.getD j true = false) ∧
 ((nodeP n l v nodes f i dec st).1 = true → ∀ j, (nodeP n l v nodes f i dec st).2.getD j true = (st.getD j true || decide (j ∈ visP nodes f i)))
theorem step_right {f : Nat} (ih : NR n l v nodes f) (i : Nat) (dec : List Int) (b : Nat) (k d : Int) (st : List Bool) :
  ((stepP (nodeP n l v nodes f) nodes.length i dec b k d st).1 = true ↔ stepR (rightP n l v nodes f) nodes.length i dec b k d = true ∧ (stepV (visP nodes f) nodes.length i k).Nodup ∧ ∀ j ∈ stepV (visP nodes f) nodes.length i k, st.getD j true = false) ∧
  ((stepP (nodeP n l v nodes f) nodes.length i dec b k d st).1 = true → ∀ j, (stepP (nodeP n l v nodes f) nodes.length i dec b k d st).2.getD j true = (st.getD j true || decide (j ∈ stepV (visP nodes f) nodes.length i k))) := by
 unfold stepP stepR stepV
 by_cases h : (i : Int) < k ∧ k < (nodes.length : Int)
 ·simp only [if_pos h]
  exact ih _ _ _
 ·simp only [if_neg h]
  simp
theorem node_right : ∀ f, NR n l v nodes f
 | 0 => by intro i dec st; simp [nodeP, rightP]
 | f + 1 => by
  have ih := node_right f
  intro i dec st
  unfold nodeP rightP visP
  by_cases h0 : st.getD i true = true
  ·simp only [if_pos h0]
   constructor
   ·constructor
    ·intro h; simp at h
    ·rintro ⟨_, _, h⟩
     have := h i (by simp)
     rw [h0] at this
     cases this
   ·intro h; simp at h
  ·have h0' : st.getD i true = false := by simpa using h0
   simp only [if_neg h0]
   by_cases h1 : (nodes.getD i z55).f0 = -1
   ·simp only [if_pos h1]
    constructor
    ·constructor
     ·intro h; exact ⟨h, by simp, by simpa using h0'⟩
     ·intro h; exact h.1
    ·intro _ j
     rw [getD_set_true]
     simp
   ·simp only [if_neg h1]
    by_cases h2 : (nodes.getD i z55).f0 < 0 ∨ (l.length : Int) ≤ (nodes.getD i z55).f0 ∨ possP l dec (nodes.getD i z55).f0.toNat = false ∨ 0 < (nodes.getD i z55).f3.length
    ·simp only [if_pos h2]
     simp
    ·simp only [if_neg h2]
     generalize nodes.getD i z55 = x at *
     obtain ⟨a1, a2⟩ := step_right ih i dec x.f0.toNat x.f1 1 (st.set i true)
     unfold bothP
     generalize stepP (nodeP n l v nodes f) nodes.length i dec x.f0.toNat x.f1 1 (st.set i true) = A at *
     obtain ⟨b1, b2⟩ := step_right ih i dec x.f0.toNat x.f2 2 A.2
     generalize stepP (nodeP n l v nodes f) nodes.length i dec x.f0.toNat x.f2 2 A.2 = B at *
     generalize stepR (rightP n l v nodes f) nodes.length i dec x.f0.toNat x.f1 1 = r1 at *
     generalize stepR (rightP n l v nodes f) nodes.length i dec x.f0.toNat x.f2 2 = r2 at *
     generalize stepV (visP nodes f) nodes.length i x.f1 = va at *
     generalize stepV (visP nodes f) nodes.length i x.f2 = vb at *
     have hset : ∀ j, (st.set i true).getD j true = false ↔ st.getD j true = false ∧ j ≠ i := by
      intro j
      rw [getD_set_true]
      simp
     cases hA : A.1
     ·simp only [Bool.false_eq_true, if_false, hA]
      constructor
      ·constructor
       ·intro h; cases h
       ·rintro ⟨h3, h4, h5⟩
        simp only [Bool.and_eq_true] at h3
        rw [List.nodup_cons, List.nodup_append] at h4
        have : A.1 = true := a1.2 ⟨h3.1, h4.2.1, fun j hj => (hset j).2 ⟨h5 j (by simp [hj]), fun e => h4.1 (by rw [← e]; simp [hj])⟩⟩
        rw [hA] at this
        cases this
      ·intro h; cases h
     ·simp only [if_true]
      have ha := a1.1 hA
      have hA2 := a2 hA
      have hA2' : ∀ j, A.2.getD j true = false ↔ st.getD j true = false ∧ j ≠ i ∧ ¬ j ∈ va := by
       intro j
       rw [hA2 j]
       simp only [Bool.or_eq_false_iff, decide_eq_false_iff_not, hset j, and_assoc]
      constructor
      ·rw [b1]
       simp only [Bool.and_eq_true, List.nodup_cons, List.nodup_append, List.mem_append, List.mem_cons, not_or]
       constructor
       ·rintro ⟨h3, h4, h5⟩
        refine ⟨⟨ha.1, h3⟩, ⟨⟨fun h => ((hset i).1 (ha.2.2 i h)).2 rfl, fun h => ((hA2' i).1 (h5 i h)).2.1 rfl⟩, ha.2.1, h4, fun a h6 b h7 e => ((hA2' b).1 (h5 b h7)).2.2 (e ▸ h6)⟩, ?_⟩
        rintro j (rfl | h | h)
        ·exact h0'
        ·exact ((hset j).1 (ha.2.2 j h)).1
        ·exact ((hA2' j).1 (h5 j h)).1
       ·rintro ⟨⟨h3, h4⟩, ⟨⟨h5, h6⟩, h7, h8, h9⟩, h10⟩
        exact ⟨h4, h8, fun j hj => (hA2' j).2 ⟨h10 j (.inr (.inr hj)), fun e => h6 (e ▸ hj), fun h => h9 j h j hj rfl⟩⟩
      ·intro hB j
       rw [b2 hB j, hA2 j, getD_set_true]
       simp only [List.mem_cons, List.mem_append]
       by_cases e1 : j = i <;> by_cases e2 : j ∈ va <;> by_cases e3 : j ∈ vb <;> simp [e1, e2, e3]
/-- How many times node k names node j as one below it. -/
def ptrP (nodes : List S55) (j k : Nat) : Nat := if (nodes.getD k z55).f0 = -1 then 0 else (if (nodes.getD k z55).f1 = (j : Int) then 1 else 0) + (if (nodes.getD k z55).f2 = (j : Int) then 1 else 0)
def parP (nodes : List S55) (j : Nat) : Nat := ((List.range nodes.length).map (ptrP nodes j)).sum
theorem stepR_true {go : Nat → List Int → Bool} {len i : Nat} {dec : List Int} {b : Nat} {k d : Int} (h : stepR go len i dec b k d = true) : (i : Int) < k ∧ k < len ∧ go k.toNat (dec.set b d) = true := by
 unfold stepR at h
 split at h
 ·rename_i c; exact ⟨c.1, c.2, h⟩
 ·cases h
theorem vis_count (j : Nat) : ∀ f i dec, rightP n l v nodes f i dec = true → (visP nodes f i).count j = (if j = i then 1 else 0) + ((visP nodes f i).map (ptrP nodes j)).sum
 | 0, _, _, h => by simp [rightP] at h
 | f + 1, i, dec, h => by
  unfold rightP at h
  unfold visP
  by_cases h1 : (nodes.getD i z55).f0 = -1
  ·simp only [if_pos h1]
   have hp : ptrP nodes j i = 0 := by unfold ptrP; rw [if_pos h1]
   simp only [List.map_cons, List.map_nil, List.sum_cons, List.sum_nil, hp, List.count_cons, List.count_nil]
   by_cases e : j = i
   ·simp [e]
   ·simp [e, show ¬ i = j from fun x => e x.symm]
  ·simp only [if_neg h1] at h ⊢
   split at h
   ·cases h
   ·simp only [Bool.and_eq_true] at h
    obtain ⟨ha0, ha1, ha⟩ := stepR_true h.1
    obtain ⟨hb0, hb1, hb⟩ := stepR_true h.2
    have iha := vis_count j f _ _ ha
    have ihb := vis_count j f _ _ hb
    have hp : ptrP nodes j i = (if j = (nodes.getD i z55).f1.toNat then 1 else 0) + (if j = (nodes.getD i z55).f2.toNat then 1 else 0) := by
     unfold ptrP
     rw [if_neg h1]
     congr 1
     ·by_cases e : j = (nodes.getD i z55).f1.toNat
      ·rw [if_pos e, if_pos (by omega)]
      ·rw [if_neg e, if_neg (by omega)]
     ·by_cases e : j = (nodes.getD i z55).f2.toNat
      ·rw [if_pos e, if_pos (by omega)]
      ·rw [if_neg e, if_neg (by omega)]
    unfold stepV
    rw [if_pos ⟨ha0, ha1⟩, if_pos ⟨hb0, hb1⟩]
    simp only [List.count_cons, List.count_append, List.map_cons, List.sum_cons, List.map_append, List.sum_append, hp, iha, ihb]
    have hbe : (if (i == j) = true then 1 else 0) = (if j = i then 1 else 0) := by
     by_cases e : j = i
     ·simp [e]
     ·simp [e, show ¬ i = j from fun x => e x.symm]
    rw [hbe]
    omega
theorem vis_lt : ∀ f i dec, i < nodes.length → rightP n l v nodes f i dec = true → ∀ k ∈ visP nodes f i, k < nodes.length ∧ ((nodes.getD k z55).f0 ≠ -1 → (k : Int) < (nodes.getD k z55).f1 ∧ (k : Int) < (nodes.getD k z55).f2)
 | 0, _, _, _, h => by simp [rightP] at h
 | f + 1, i, dec, hi, h => by
  unfold rightP at h
  unfold visP
  by_cases h1 : (nodes.getD i z55).f0 = -1
  ·simp only [if_pos h1]
   intro k hk
   rw [List.mem_singleton] at hk
   subst hk
   exact ⟨hi, fun e => absurd h1 e⟩
  ·simp only [if_neg h1] at h ⊢
   split at h
   ·cases h
   ·simp only [Bool.and_eq_true] at h
    obtain ⟨ha0, ha1, ha⟩ := stepR_true h.1
    obtain ⟨hb0, hb1, hb⟩ := stepR_true h.2
    have iha := vis_lt f _ _ (by omega) ha
    have ihb := vis_lt f _ _ (by omega) hb
    unfold stepV
    rw [if_pos ⟨ha0, ha1⟩, if_pos ⟨hb0, hb1⟩]
    intro k hk
    rcases List.mem_cons.1 hk with rfl | hk
    ·exact ⟨hi, fun _ => ⟨ha0, hb0⟩⟩
    ·rcases List.mem_append.1 hk with hk | hk
     ·exact iha k hk
     ·exact ihb k hk
theorem sum_map_add (g h : Nat → Nat) : ∀ L : List Nat, (L.map fun k => g k + h k).sum = (L.map g).sum + (L.map h).sum
 | [] => rfl
 | x :: L => by simp only [List.map_cons, List.sum_cons, sum_map_add g h L]; omega
theorem sum_one (g : Nat → Nat) (a : Nat) : ∀ m, ((List.range m).map fun k => (if k = a then 1 else 0) * g k).sum = if a < m then g a else 0
 | 0 => by simp
 | m + 1 => by
  rw [List.range_succ, List.map_append, List.sum_append, sum_one g a m]
  simp only [List.map_cons, List.map_nil, List.sum_cons, List.sum_nil]
  by_cases h : m = a
  ·subst h; simp
  ·by_cases h2 : a < m
   ·have h3 : a < m + 1 := by omega
    simp [h2, h, h3]
   ·have h3 : ¬ a < m + 1 := by omega
    simp [h2, h, h3]
/-- A sum over what is met, as a sum over all nodes. -/
theorem sum_count (g : Nat → Nat) (m : Nat) : ∀ L : List Nat, (∀ k ∈ L, k < m) → (L.map g).sum = ((List.range m).map fun k => L.count k * g k).sum
 | [], _ => by
  have : ∀ L : List Nat, (L.map fun k => ([] : List Nat).count k * g k).sum = 0 := by
   intro L
   induction L with
   | nil => rfl
   | cons x L ih => simp only [List.map_cons, List.sum_cons, ih]; simp
  rw [this]; rfl
 | x :: L, h => by
  have ih := sum_count g m L (fun k hk => h k (by simp [hk]))
  have hx := h x (by simp)
  have e : (fun k => (x :: L).count k * g k) = fun k => (if k = x then 1 else 0) * g k + L.count k * g k := by
   funext k
   rw [List.count_cons, Nat.add_mul, Nat.add_comm]
   congr 2
   by_cases e : k = x
   ·simp [e]
   ·simp [e, show ¬ x = k from fun y => e y.symm]
  rw [List.map_cons, List.sum_cons, ih, e, sum_map_add, sum_one, if_pos hx]
theorem sum_le_of (g h : Nat → Nat) : ∀ L : List Nat, (∀ k ∈ L, g k ≤ h k) → (L.map g).sum ≤ (L.map h).sum
 | [], _ => by simp
 | x :: L, hh => by
  have h1 := sum_le_of g h L (fun k hk => hh k (by simp [hk]))
  have h2 := hh x (by simp)
  simp only [List.map_cons, List.sum_cons]
  omega
theorem sum_ge_of (g : Nat → Nat) : ∀ (L : List Nat) (a : Nat), a ∈ L → g a ≤ (L.map g).sum
 | x :: L, a, h => by
  simp only [List.map_cons, List.sum_cons]
  rcases List.mem_cons.1 h with rfl | h
  ·omega
  ·have := sum_ge_of g L a h; omega
theorem sum_pos (g : Nat → Nat) : ∀ (L : List Nat), 0 < (L.map g).sum → ∃ a ∈ L, 0 < g a
 | [], h => by simp at h
 | x :: L, h => by
  simp only [List.map_cons, List.sum_cons] at h
  by_cases hx : 0 < g x
  ·exact ⟨x, by simp, hx⟩
  ·obtain ⟨a, ha, h2⟩ := sum_pos g L (by omega)
   exact ⟨a, by simp [ha], h2⟩
theorem ptr_pos {j k : Nat} (h : 0 < ptrP nodes j k) : (nodes.getD k z55).f0 ≠ -1 ∧ ((nodes.getD k z55).f1 = (j : Int) ∨ (nodes.getD k z55).f2 = (j : Int)) := by
 unfold ptrP at h
 split at h
 ·omega
 ·rename_i c
  refine ⟨c, ?_⟩
  by_cases e1 : (nodes.getD k z55).f1 = (j : Int)
  ·exact .inl e1
  ·by_cases e2 : (nodes.getD k z55).f2 = (j : Int)
   ·exact .inr e2
   ·rw [if_neg e1, if_neg e2] at h; omega
/-- The reference's two looks ahead: each node but the first has one parent, and names later nodes. -/
def OnePar (nodes : List S55) : Prop := ∀ j, j < nodes.length → parP nodes j = if j = 0 then 0 else 1
def Later (nodes : List S55) : Prop := ∀ k, k < nodes.length → (nodes.getD k z55).f0 ≠ -1 → (k : Int) < (nodes.getD k z55).f1 ∧ (k : Int) < (nodes.getD k z55).f2
theorem count_eq (f : Nat) (dec : List Int) (h0 : 0 < nodes.length) (h : rightP n l v nodes f 0 dec = true) (j : Nat) : (visP nodes f 0).count j = (if j = 0 then 1 else 0) + ((List.range nodes.length).map fun k => (visP nodes f 0).count k * ptrP nodes j k).sum := by
 rw [vis_count j f 0 dec h, sum_count (ptrP nodes j) nodes.length _ (fun k hk => (vis_lt f 0 dec h0 h k hk).1)]
theorem tree_of_seen (f : Nat) (dec : List Int) (h0 : 0 < nodes.length) (h : rightP n l v nodes f 0 dec = true) (hn : (visP nodes f 0).Nodup) (ha : ∀ j, j < nodes.length → j ∈ visP nodes f 0) : OnePar nodes ∧ Later nodes := by
 refine ⟨fun j hj => ?_, fun k hk => (vis_lt f 0 dec h0 h k (ha k hk)).2⟩
 have hc : ∀ k, k < nodes.length → (visP nodes f 0).count k = 1 := fun k hk => by rw [hn.count, if_pos (ha k hk)]
 have he := count_eq f dec h0 h j
 have e : (List.range nodes.length).map (fun k => (visP nodes f 0).count k * ptrP nodes j k) = (List.range nodes.length).map (ptrP nodes j) := List.map_congr_left (fun k hk => by rw [hc k (List.mem_range.1 hk), Nat.one_mul])
 rw [e, hc j hj] at he
 unfold parP
 by_cases e : j = 0
 ·rw [if_pos e] at he ⊢; omega
 ·rw [if_neg e] at he ⊢; omega
theorem seen_of_tree (f : Nat) (dec : List Int) (h0 : 0 < nodes.length) (h : rightP n l v nodes f 0 dec = true) (hp : OnePar nodes) (hl : Later nodes) : (visP nodes f 0).Nodup ∧ ∀ j, j < nodes.length → j ∈ visP nodes f 0 := by
 have hlt : ∀ j k, k < nodes.length → 0 < ptrP nodes j k → k < j := by
  intro j k hk hpos
  obtain ⟨h1, h2⟩ := ptr_pos hpos
  have h3 := hl k hk h1
  omega
 have hle : ∀ j, j < nodes.length → (visP nodes f 0).count j ≤ 1 := by
  intro j
  induction j using Nat.strongRecOn with
  | _ j ih =>
   intro hj
   have he := count_eq f dec h0 h j
   have hs : ((List.range nodes.length).map fun k => (visP nodes f 0).count k * ptrP nodes j k).sum ≤ parP nodes j := by
    refine sum_le_of _ _ _ (fun k hk => ?_)
    have hk := List.mem_range.1 hk
    by_cases hz : 0 < ptrP nodes j k
    ·have := ih k (hlt j k hk hz) hk
     have h1 : (visP nodes f 0).count k * ptrP nodes j k ≤ 1 * ptrP nodes j k := Nat.mul_le_mul_right _ this
     omega
    ·rw [show ptrP nodes j k = 0 by omega]; simp
   rw [hp j hj] at hs
   by_cases e : j = 0
   ·rw [if_pos e] at he hs; omega
   ·rw [if_neg e] at he hs; omega
 have hge : ∀ j, j < nodes.length → 1 ≤ (visP nodes f 0).count j := by
  intro j
  induction j using Nat.strongRecOn with
  | _ j ih =>
   intro hj
   have he := count_eq f dec h0 h j
   by_cases e : j = 0
   ·rw [if_pos e] at he; omega
   ·have h1 := hp j hj
    rw [if_neg e] at h1
    obtain ⟨k, hk, hk2⟩ := sum_pos (ptrP nodes j) (List.range nodes.length) (by unfold parP at h1; omega)
    have hkl := List.mem_range.1 hk
    have h3 := ih k (hlt j k hkl hk2) hkl
    have h4 := sum_ge_of (fun k => (visP nodes f 0).count k * ptrP nodes j k) (List.range nodes.length) k hk
    have h5 : 1 * 1 ≤ (visP nodes f 0).count k * ptrP nodes j k := Nat.mul_le_mul h3 hk2
    have h6 : (visP nodes f 0).count k * ptrP nodes j k ≤ ((List.range nodes.length).map fun k => (visP nodes f 0).count k * ptrP nodes j k).sum := h4
    omega
 refine ⟨?_, fun j hj => List.count_pos_iff.1 (hge j hj)⟩
 rw [List.nodup_iff_count]
 intro a
 by_cases ha : a ∈ visP nodes f 0
 ·exact hle a (vis_lt f 0 dec h0 h a ha).1
 ·rw [List.count_eq_zero_of_not_mem ha]; omega
/-- The checker accepts exactly where the reference does. -/
theorem root_tree (f : Nat) (dec : List Int) (h0 : 0 < nodes.length) :
  ((nodeP n l v nodes f 0 dec (List.replicate nodes.length false)).1 = true ∧ (nodeP n l v nodes f 0 dec (List.replicate nodes.length false)).2.all id = true) ↔ (OnePar nodes ∧ Later nodes ∧ rightP n l v nodes f 0 dec = true) := by
 obtain ⟨h1, h2⟩ := node_right (n := n) (l := l) (v := v) (nodes := nodes) f 0 dec (List.replicate nodes.length false)
 have hlen := nodeP_len n l v nodes f 0 dec (List.replicate nodes.length false)
 rw [List.length_replicate] at hlen
 have hrep : ∀ j, j < nodes.length → (List.replicate nodes.length false).getD j true = false := by
  intro j hj
  simp [List.getD, List.getElem?_replicate, hj]
 constructor
 ·rintro ⟨ha, hb⟩
  obtain ⟨h3, h4, h5⟩ := h1.1 ha
  have h6 := h2 ha
  obtain ⟨t1, t2⟩ := tree_of_seen f dec h0 h3 h4 (fun j hj => by
   have h7 := h6 j
   rw [hrep j hj, Bool.false_or] at h7
   have h8 : (nodeP n l v nodes f 0 dec (List.replicate nodes.length false)).2.getD j true = true := by
    rw [List.all_eq_true] at hb
    have hjl : j < (nodeP n l v nodes f 0 dec (List.replicate nodes.length false)).2.length := by omega
    rw [List.getD, List.getElem?_eq_getElem hjl]
    exact hb _ (List.getElem_mem hjl)
   rw [h8] at h7
   exact of_decide_eq_true h7.symm)
  exact ⟨t1, t2, h3⟩
 ·rintro ⟨hp, hl, hr⟩
  obtain ⟨h3, h4⟩ := seen_of_tree f dec h0 hr hp hl
  have ha := h1.2 ⟨hr, h3, fun j hj => hrep j (vis_lt f 0 dec h0 hr j hj).1⟩
  refine ⟨ha, ?_⟩
  rw [List.all_eq_true]
  intro x hx
  obtain ⟨j, hj, rfl⟩ := List.mem_iff_getElem.1 hx
  have h6 := h2 ha j
  rw [List.getD, List.getElem?_eq_getElem hj, Option.getD_some] at h6
  rw [h6, decide_eq_true (h4 j (by omega))]
  simp
end
/-- The places from i on, n of them, at which p holds. -/
def sel (p : Nat → Bool) : Nat → Nat → List Int
 | 0, _ => []
 | n + 1, i => if p i then (i : Int) :: sel p n (i + 1) else sel p n (i + 1)
def sumF (f : Nat → Int) : Nat → Nat → Int
 | 0, _ => 0
 | n + 1, i => f i + sumF f n (i + 1)
theorem mem_sel (p : Nat → Bool) (x : Int) : ∀ n i, x ∈ sel p n i ↔ ∃ k, i ≤ k ∧ k < i + n ∧ p k = true ∧ x = (k : Int)
 | 0, i => by simp [sel]; intro k h1 h2; omega
 | n + 1, i => by
  have ih := mem_sel p x n (i + 1)
  unfold sel
  by_cases h : p i = true
  ·rw [if_pos h, List.mem_cons, ih]
   constructor
   ·rintro (rfl | ⟨k, h1, h2, h3, h4⟩)
    ·exact ⟨i, by omega, by omega, h, rfl⟩
    ·exact ⟨k, by omega, by omega, h3, h4⟩
   ·rintro ⟨k, h1, h2, h3, h4⟩
    by_cases e : k = i
    ·subst e; exact .inl h4
    ·exact .inr ⟨k, by omega, by omega, h3, h4⟩
  ·rw [if_neg h, ih]
   constructor
   ·rintro ⟨k, h1, h2, h3, h4⟩
    exact ⟨k, by omega, by omega, h3, h4⟩
   ·rintro ⟨k, h1, h2, h3, h4⟩
    by_cases e : k = i
    ·subst e; exact absurd h3 h
    ·exact ⟨k, by omega, by omega, h3, h4⟩
theorem mem_sel0 (p : Nat → Bool) (n : Nat) (x : Int) : x ∈ sel p n 0 ↔ ∃ k, k < n ∧ p k = true ∧ x = (k : Int) := by
 rw [mem_sel]
 constructor
 ·rintro ⟨k, h1, h2, h3, h4⟩; exact ⟨k, by omega, h3, h4⟩
 ·rintro ⟨k, h2, h3, h4⟩; exact ⟨k, by omega, by omega, h3, h4⟩
theorem rise_sel (p : Nat → Bool) : ∀ n i, (sel p n i).Pairwise (· < ·)
 | 0, _ => List.Pairwise.nil
 | n + 1, i => by
  unfold sel
  split
  ·refine List.pairwise_cons.2 ⟨fun x hx => ?_, rise_sel p n (i + 1)⟩
   obtain ⟨k, h1, h2, h3, rfl⟩ := (mem_sel p x n (i + 1)).1 hx
   omega
  ·exact rise_sel p n (i + 1)
theorem rise_ext : ∀ (s t : List Int), s.Pairwise (· < ·) → t.Pairwise (· < ·) → (∀ x, x ∈ s ↔ x ∈ t) → s = t
 | [], [], _, _, _ => rfl
 | [], y :: t, _, _, h => by have := (h y).2 (by simp); simp at this
 | x :: s, [], _, _, h => by have := (h x).1 (by simp); simp at this
 | x :: s, y :: t, hs, ht, h => by
  obtain ⟨s1, s2⟩ := List.pairwise_cons.1 hs
  obtain ⟨t1, t2⟩ := List.pairwise_cons.1 ht
  have e : x = y := by
   rcases List.mem_cons.1 ((h x).1 (by simp)) with e | e
   ·exact e
   ·rcases List.mem_cons.1 ((h y).2 (by simp)) with e2 | e2
    ·exact e2.symm
    ·have := t1 x e; have := s1 y e2; omega
  subst e
  rw [rise_ext s t s2 t2 (fun z => by
   constructor
   ·intro hz
    rcases List.mem_cons.1 ((h z).1 (by simp [hz])) with e | e
    ·subst e; exact absurd (s1 z hz) (Int.lt_irrefl _)
    ·exact e
   ·intro hz
    rcases List.mem_cons.1 ((h z).2 (by simp [hz])) with e | e
    ·subst e; exact absurd (t1 z hz) (Int.lt_irrefl _)
    ·exact e)]
theorem sel_of (n : Nat) (s : List Int) (h0 : ∀ k ∈ s, 0 ≤ k ∧ k < n) (h1 : s.Pairwise (· < ·)) : s = sel (fun k => decide ((k : Int) ∈ s)) n 0 := by
 refine rise_ext _ _ h1 (rise_sel _ _ _) (fun x => ?_)
 rw [mem_sel0]
 constructor
 ·intro hx
  obtain ⟨a, b⟩ := h0 x hx
  obtain ⟨k, rfl⟩ := Int.eq_ofNat_of_zero_le a
  exact ⟨k, by omega, by simpa using hx, rfl⟩
 ·rintro ⟨k, h2, h3, rfl⟩; simpa using h3
theorem choice_sel (p : Nat → Bool) : ∀ n i, ∃ bits, bits < 2 ^ n ∧ choiceP n bits i = sel p n i
 | 0, i => ⟨0, by simp, rfl⟩
 | n + 1, i => by
  obtain ⟨b, h1, h2⟩ := choice_sel p n (i + 1)
  by_cases h : p i = true
  ·refine ⟨2 * b + 1, by rw [Nat.pow_succ]; omega, ?_⟩
   unfold choiceP sel
   rw [if_pos (by omega), if_pos h, show (2 * b + 1) / 2 = b from by omega, h2]
  ·refine ⟨2 * b, by rw [Nat.pow_succ]; omega, ?_⟩
   unfold choiceP sel
   rw [if_neg (by omega), if_neg h, show 2 * b / 2 = b from by omega, h2]
/-- The price of the bid at a place; the value of a set of places. -/
def prc (l : List S82) (k : Nat) : Int := (l.getD k z82).f1
def valB (l : List S82) (p : Nat → Bool) : Int := sumF (fun k => if p k then prc l k else 0) l.length 0
def cj (l : List S82) (a b : Nat) : Bool := conf (l.getD a z82) (l.getD b z82)
theorem conf_comm (a b : S82) : conf a b = conf b a := by
 unfold conf
 have h1 : (a.f0 == b.f0) = (b.f0 == a.f0) := by rw [Bool.eq_iff_iff]; simp; exact ⟨fun h => h.symm, fun h => h.symm⟩
 have h2 : (b.f2.any fun k => a.f2.contains k) = (a.f2.any fun k => b.f2.contains k) := by
  rw [Bool.eq_iff_iff, List.any_eq_true, List.any_eq_true]
  constructor <;> (rintro ⟨x, h1, h2⟩; exact ⟨x, by simpa using h2, by simpa using h1⟩)
 rw [h1, h2]
theorem cj_comm (l : List S82) (a b : Nat) : cj l a b = cj l b a := conf_comm _ _
theorem prc_pos (l : List S82) (hp : ∀ b ∈ l, 1 ≤ b.f1) (k : Nat) (hk : k < l.length) : 1 ≤ prc l k := by
 unfold prc
 exact hp _ (by simp [List.getD, hk])
theorem val_sel (l : List S82) (p : Nat → Bool) : ∀ n i, valP l (sel p n i) = sumF (fun k => if p k then prc l k else 0) n i
 | 0, _ => rfl
 | n + 1, i => by
  have ih := val_sel l p n (i + 1)
  unfold sel sumF
  by_cases h : p i = true
  ·rw [if_pos h, if_pos h, ← ih]; rfl
  ·rw [if_neg h, if_neg h, ← ih]; omega
theorem valB_sel (l : List S82) (p : Nat → Bool) : valP l (sel p l.length 0) = valB l p := val_sel l p _ _
/-- A set of places that may win together. -/
def FeasU (U : S82 → Bool) (l : List S82) (p : Nat → Bool) : Prop :=
 (∀ a, a < l.length → p a = true → U (l.getD a z82) = true) ∧ ∀ a b, a < l.length → b < l.length → a ≠ b → p a = true → p b = true → cj l a b = false
/-- q has the first place at which they differ. -/
def dlt (n : Nat) (q p : Nat → Bool) : Prop := ∃ d, d < n ∧ q d = true ∧ p d = false ∧ ∀ x, x < d → q x = p x
structure IsBest (U : S82 → Bool) (l : List S82) (p : Nat → Bool) : Prop where
 feas : FeasU U l p
 max : ∀ q, FeasU U l q → valB l q ≤ valB l p
 first : ∀ q, FeasU U l q → valB l q = valB l p → ¬ dlt l.length q p
theorem ok_of_pairs (U : S82 → Bool) (l : List S82) : ∀ (s win : List Int), okS U l win s = true ↔ ((∀ k ∈ s, U (l.getD k.toNat z82) = true) ∧ (∀ w ∈ win, ∀ k ∈ s, cf l w k = false) ∧ s.Pairwise (fun a b => cf l a b = false))
 | [], win => by simp [okS]
 | k :: s, win => by
  have ih := ok_of_pairs U l s (win ++ [k])
  simp only [okS, Bool.and_eq_true, ih, Bool.not_eq_true']
  constructor
  ·rintro ⟨⟨h1, h2⟩, h3, h4, h5⟩
   have h2' : ∀ w ∈ win, cf l w k = false := fun w hw => by simpa using List.any_eq_false.1 h2 w hw
   refine ⟨fun x hx => ?_, fun w hw x hx => ?_, List.pairwise_cons.2 ⟨fun x hx => h4 k (by simp) x hx, h5⟩⟩
   ·rcases List.mem_cons.1 hx with rfl | hx
    ·exact h1
    ·exact h3 x hx
   ·rcases List.mem_cons.1 hx with rfl | hx
    ·exact h2' w hw
    ·exact h4 w (by simp [hw]) x hx
  ·rintro ⟨h1, h2, h3⟩
   obtain ⟨h4, h5⟩ := List.pairwise_cons.1 h3
   refine ⟨⟨h1 k (by simp), List.any_eq_false.2 (fun w hw => by simpa using h2 w hw k (by simp))⟩, fun x hx => h1 x (by simp [hx]), fun w hw x hx => ?_, h5⟩
   rcases List.mem_append.1 hw with hw | hw
   ·exact h2 w hw x (by simp [hx])
   ·rw [List.mem_singleton] at hw; subst hw; exact h4 x hx
theorem ok_sel (U : S82 → Bool) (l : List S82) (p : Nat → Bool) : okS U l [] (sel p l.length 0) = true ↔ FeasU U l p := by
 rw [ok_of_pairs]
 constructor
 ·rintro ⟨h1, _, h3⟩
  refine ⟨fun a ha hp => ?_, ?_⟩
  ·have := h1 (a : Int) ((mem_sel0 p _ _).2 ⟨a, ha, hp, rfl⟩)
   simpa using this
  ·have key : ∀ a b, a < l.length → b < l.length → a < b → p a = true → p b = true → cj l a b = false := by
    intro a b ha hb hab hpa hpb
    have hm : (a : Int) ∈ sel p l.length 0 := (mem_sel0 p _ _).2 ⟨a, ha, hpa, rfl⟩
    have hn : (b : Int) ∈ sel p l.length 0 := (mem_sel0 p _ _).2 ⟨b, hb, hpb, rfl⟩
    have hr := rise_sel p l.length 0
    generalize sel p l.length 0 = s at *
    induction s with
    | nil => simp at hm
    | cons x s ih =>
     obtain ⟨r1, r2⟩ := List.pairwise_cons.1 hr
     obtain ⟨c1, c2⟩ := List.pairwise_cons.1 h3
     rcases List.mem_cons.1 hm with e1 | e1
     ·rcases List.mem_cons.1 hn with e2 | e2
      ·omega
      ·subst e1; exact c1 _ e2
     ·rcases List.mem_cons.1 hn with e2 | e2
      ·have := r1 _ e1; omega
      ·exact ih (fun k hk => h1 k (by simp [hk])) (by simp) c2 e1 e2 r2
   intro a b ha hb hab hpa hpb
   rcases Nat.lt_or_gt_of_ne hab with h | h
   ·exact key a b ha hb h hpa hpb
   ·rw [cj_comm]; exact key b a hb ha h hpb hpa
 ·rintro ⟨h1, h2⟩
  refine ⟨fun k hk => ?_, by simp, ?_⟩
  ·obtain ⟨a, ha, hp, rfl⟩ := (mem_sel0 p _ _).1 hk
   exact h1 a ha hp
  ·refine (rise_sel p l.length 0).imp_of_mem (fun {a b} ha hb hab => ?_)
   obtain ⟨x, hx, hpx, rfl⟩ := (mem_sel0 p _ _).1 ha
   obtain ⟨y, hy, hpy, rfl⟩ := (mem_sel0 p _ _).1 hb
   exact h2 x y hx hy (by omega) hpx hpy
theorem dlt_less (q p : Nat → Bool) : ∀ n i, (∃ d, i ≤ d ∧ d < i + n ∧ q d = true ∧ p d = false ∧ ∀ x, i ≤ x → x < d → q x = p x) → lessP (sel q n i) (sel p n i) = true ∨ ∃ t, t ≠ [] ∧ sel q n i = sel p n i ++ t
 | 0, i, ⟨d, h1, h2, _⟩ => by omega
 | n + 1, i, ⟨d, h1, h2, h3, h4, h5⟩ => by
  by_cases e : d = i
  ·subst e
   unfold sel
   rw [if_pos h3, if_neg (by simp [h4])]
   cases hs : sel p n (d + 1) with
   | nil => exact .inr ⟨_, by simp, rfl⟩
   | cons y t =>
    have : (d : Int) < y := by
     obtain ⟨k, a, b, c, e⟩ := (mem_sel p y n (d + 1)).1 (by rw [hs]; simp)
     omega
    refine .inl ?_
    simp only [lessP]
    rw [if_neg (by omega)]
    simpa using this
  ·have ih := dlt_less q p n (i + 1) ⟨d, by omega, by omega, h3, h4, fun x a b => h5 x (by omega) b⟩
   have hi := h5 i (by omega) (by omega)
   unfold sel
   by_cases hp : p i = true
   ·rw [if_pos (by rw [hi]; exact hp), if_pos hp]
    rcases ih with ih | ⟨t, a, b⟩
    ·exact .inl (by simp only [lessP, if_true]; exact ih)
    ·exact .inr ⟨t, a, by rw [b]; rfl⟩
   ·rw [if_neg (by rw [hi]; exact hp), if_neg hp]
    exact ih
theorem valP_append (l : List S82) (a b : List Int) : valP l (a ++ b) = valP l a + valP l b := by
 unfold valP
 rw [List.map_append, List.sum_append]
theorem valP_pos (l : List S82) (hp : ∀ b ∈ l, 1 ≤ b.f1) (t : List Int) (ht : t ≠ []) (h : ∀ k ∈ t, 0 ≤ k ∧ k < l.length) : 1 ≤ valP l t := by
 have h1 : ∀ s : List Int, (∀ k ∈ s, 0 ≤ k ∧ k < l.length) → 0 ≤ valP l s := by
  intro s
  induction s with
  | nil => intro _; exact Int.le_refl _
  | cons k s ih =>
   intro h
   have h2 := ih (fun x hx => h x (by simp [hx]))
   have h3 := h k (by simp)
   have h4 : 1 ≤ (l.getD k.toNat z82).f1 := prc_pos l hp k.toNat (by omega)
   simp only [valP, List.map_cons, List.sum_cons] at h2 ⊢
   omega
 cases t with
 | nil => exact absurd rfl ht
 | cons k s =>
  have h2 := h1 s (fun x hx => h x (by simp [hx]))
  have h3 := h k (by simp)
  have h4 : 1 ≤ (l.getD k.toNat z82).f1 := prc_pos l hp k.toNat (by omega)
  simp only [valP, List.map_cons, List.sum_cons] at h2 ⊢
  omega
/-- Of two of one value the one that has the first difference is the less. -/
theorem dlt_same (l : List S82) (hp : ∀ b ∈ l, 1 ≤ b.f1) (q p : Nat → Bool) (h : dlt l.length q p) (hv : valB l q ≤ valB l p) : lessP (sel q l.length 0) (sel p l.length 0) = true := by
 obtain ⟨d, h1, h2, h3, h4⟩ := h
 rcases dlt_less q p l.length 0 ⟨d, by omega, by omega, h2, h3, fun x _ hx => h4 x hx⟩ with h5 | ⟨t, h5, h6⟩
 ·exact h5
 ·exfalso
  have h7 := valP_pos l hp t h5 (fun k hk => by
   obtain ⟨a, ha, _, rfl⟩ := (mem_sel0 q l.length k).1 (by rw [h6]; simp [hk])
   omega)
  rw [← valB_sel, ← valB_sel, h6, valP_append] at hv
  omega
theorem search_best (U : S82 → Bool) (l : List S82) (hp : ∀ b ∈ l, 1 ≤ b.f1) : ∃ p, IsBest U l p ∧ searchP U l = (sel p l.length 0, valB l p) := by
 obtain ⟨e1, e2, be, e3, e4⟩ := ext_valid (U := U) l 0 [] (l := l) rfl
 have hb := ext_best (U := U) (l := l) l 0 [] rfl hp
 rw [← search_ext hp] at e1 e2 e4 hb
 have hr := choice_ge l.length be 0
 have hs : (searchP U l).1 = sel (fun k => decide ((k : Int) ∈ (searchP U l).1)) l.length 0 := sel_of l.length _ (fun k hk => by
  rw [← e4] at hk
  have := hr k hk
  omega) (by
  rw [← e4]
  have : ∀ (n bits i : Nat), (choiceP n bits i).Pairwise (· < ·) := by
   intro n
   induction n with
   | zero => intro _ _; exact List.Pairwise.nil
   | succ n ih =>
    intro bits i
    unfold choiceP
    split
    ·refine List.pairwise_cons.2 ⟨fun x hx => ?_, ih _ _⟩
     have := choice_ge n (bits / 2) (i + 1) x hx
     omega
    ·exact ih _ _
  exact this _ _ _)
 generalize hpp : (fun k : Nat => decide ((k : Int) ∈ (searchP U l).1)) = p at hs
 have hv : (searchP U l).2 = valB l p := by rw [← e2, hs, valB_sel]
 refine ⟨p, ⟨?_, ?_, ?_⟩, by rw [← hs, ← hv]⟩
 ·rw [← ok_sel, ← hs]; exact e1
 ·intro q hq
  obtain ⟨bits, b1, b2⟩ := choice_sel q l.length 0
  have := (hb bits (by rw [b2]; exact (ok_sel U l q).2 hq)).1
  rw [b2, valB_sel] at this
  omega
 ·intro q hq hvq hd
  obtain ⟨bits, b1, b2⟩ := choice_sel q l.length 0
  have h1 := (hb bits (by rw [b2]; exact (ok_sel U l q).2 hq)).2 (by rw [b2, valB_sel]; omega)
  have h2 := dlt_same l hp q p hd (by omega)
  rw [b2, hs] at h1
  rcases h1 with h1 | h1
  ·rw [h1, less_irrefl] at h2; cases h2
  ·have := less_trans _ _ _ h1 h2
   rw [less_irrefl] at this
   cases this
end Go.Proofs.Ytdamibblnjeooaa.H

/- The certificate that Make grows is accepted. Plain. -/
namespace Go.Proofs.Ytdamibblnjeooaa.H
open Go.RowKit Go.Proofs.YtdamibblnjeooaaW.PrintWords Go.Proofs.YtdamibblnjeooaaW.PrintLast
set_option linter.unusedVariables false
set_option linter.unusedSimpArgs false
theorem sumF_range' (f : Nat → Int) : ∀ n i, sumF f n i = ((List.range' i n).map f).sum
 | 0, i => by simp [sumF]
 | n + 1, i => by
  rw [List.range'_succ, List.map_cons, List.sum_cons, ← sumF_range' f n (i + 1)]
  rfl
def inB (dec : List Int) (i : Nat) : Bool := decide (dec.getD i 0 = 1)
theorem inS_valB (l : List S82) (dec : List Int) : inS l dec l.length = valB l (inB dec) := by
 unfold inS valB
 rw [sumF_range', List.range_eq_range']
 congr 1
 refine List.map_congr_left (fun k _ => ?_)
 unfold inB prc
 by_cases h : dec.getD k 0 = 1
 ·rw [if_pos h, if_pos (decide_eq_true h)]
 ·rw [if_neg h, if_neg (by simpa using h)]
theorem frS_zero (ks : List Int) (n : Nat) : ∀ m, frS ks (List.replicate n 0) m = 0
 | 0 => rfl
 | m + 1 => by
  rw [frS_succ, frS_zero ks n m]
  have : (List.replicate n (0 : Int)).getD m 0 = 0 := by
   by_cases h : m < n
   ·simp [List.getD, h]
   ·simp [List.getD, h]
  rw [this]
  split <;> rfl
theorem spS_none (l : List S82) (dec ps : List Int) (h : ∀ b, b < l.length → possP l dec b = false) : ∀ m, m ≤ l.length → spS l dec ps m = []
 | 0, _ => rfl
 | m + 1, hm => by rw [spS_succ, h m (by omega), spS_none l dec ps h m (by omega)]; rfl
/-- Decisions whose winners are feasible. -/
def DIn (l : List S82) (dec : List Int) : Prop := dec.length = l.length ∧ FeasU (fun _ => true) l (inB dec)
theorem getD_setne (dec : List Int) (b i : Nat) (d : Int) (h : ¬ b = i) : (dec.set b d).getD i 0 = dec.getD i 0 := by
 simp only [List.getD, List.getElem?_set, if_neg h]
theorem getD_seteq (dec : List Int) (b : Nat) (d : Int) (hb : b < dec.length) : (dec.set b d).getD b 0 = d := by
 simp [List.getD, List.getElem?_set, hb]
theorem inB_set1 (dec : List Int) (b i : Nat) (hb : b < dec.length) : inB (dec.set b 1) i = (decide (i = b) || inB dec i) := by
 unfold inB
 by_cases h : b = i
 ·subst h
  rw [getD_seteq dec b 1 hb]
  simp
 ·rw [getD_setne dec b i 1 h, show decide (i = b) = false from decide_eq_false (fun e => h e.symm), Bool.false_or]
theorem inB_set2 (dec : List Int) (b i : Nat) (hb : b < dec.length) (h0 : dec.getD b 0 = 0) : inB (dec.set b 2) i = inB dec i := by
 unfold inB
 by_cases h : b = i
 ·subst h
  rw [h0, getD_seteq dec b 2 hb]
  rfl
 ·rw [getD_setne dec b i 2 h]
theorem poss_conf {l : List S82} {dec : List Int} {b : Nat} (h : possP l dec b = true) (k : Nat) (hk : k < dec.length) (hi : inB dec k = true) : cj l k b = false := by
 unfold possP at h
 simp only [Bool.and_eq_true, Bool.not_eq_true'] at h
 have h2 := h.2
 cases hc : cj l k b
 ·rfl
 ·have : (List.range dec.length).any (oddsP l dec b) = true := List.any_eq_true.2 ⟨k, List.mem_range.2 hk, by
   unfold oddsP
   unfold inB at hi
   rw [hi]
   exact hc⟩
  rw [this] at h2
  cases h2
theorem mhyp_ok (n : Nat) (l : List S82) (hV : validP (n : Int) l = 0) : MHyp n l (searchP (fun _ => true) l).2 (DIn l) := by
 obtain ⟨hn1, hn2, hl10, hbb⟩ := validP_bids (n : Int) l hV
 refine ⟨hl10, by omega, by omega, hbb, ?_, fun dec h => h.1, ?_, ?_⟩
 ·refine ⟨List.length_replicate .., fun a ha h => rfl, fun a b ha hb hne h1 h2 => ?_⟩
  unfold inB at h1
  have : (List.replicate l.length (0 : Int)).getD a 0 = 0 := by simp [List.getD, ha]
  rw [this] at h1
  simp at h1
 ·intro dec b hd hb hp
  obtain ⟨hdl, hf⟩ := hd
  have h0 := poss_zero hp
  refine ⟨⟨by rw [List.length_set]; exact hdl, fun _ _ _ => rfl, fun a c ha hc hne h1 h2 => ?_⟩, ⟨by rw [List.length_set]; exact hdl, fun _ _ _ => rfl, fun a c ha hc hne h1 h2 => ?_⟩⟩
  ·rw [inB_set1 dec b _ (by omega)] at h1 h2
   by_cases ea : a = b
   ·subst ea
    have hc2 : inB dec c = true := by
     rw [decide_eq_false (fun e => hne e.symm)] at h2
     exact h2
    rw [cj_comm]
    exact poss_conf hp c (by omega) hc2
   ·rw [decide_eq_false ea] at h1
    by_cases ec : c = b
    ·subst ec
     exact poss_conf hp a (by omega) h1
    ·rw [decide_eq_false ec] at h2
     exact hf.2 a c ha hc hne h1 h2
  ·rw [inB_set2 dec b _ (by omega) h0] at h1 h2
   exact hf.2 a c ha hc hne h1 h2
 ·intro dec hd hno
  obtain ⟨hdl, hf⟩ := hd
  obtain ⟨p, hb, hs⟩ := search_best (fun _ => true) l (fun b hb => (hbb b hb).1.1)
  rw [hs]
  unfold boundD
  rw [frS_zero, spS_none l dec _ hno l.length (Nat.le_refl _), hdl, inS_valB]
  have := hb.max (inB dec) hf
  simp only [List.map_nil, List.sum_nil]
  omega
/-- A tree is right, and its nodes are met in their order. -/
theorem gtree_right {n : Nat} {l : List S82} {v : Int} {ns : List S55} {i j : Nat} {dec : List Int} (h : GTree n l v ns i j dec) : ∀ f, j ≤ i + f → j ≤ ns.length → rightP (n : Int) l v ns f i dec = true ∧ visP ns f i = List.range' i (j - i) := by
 induction h with
 | leaf i dec ps h hl hr hb =>
  intro f hf hj
  obtain ⟨f', rfl⟩ : ∃ f', f = f' + 1 := ⟨f - 1, by omega⟩
  have hg : ns.getD i z55 = ⟨-1, 0, 0, ps⟩ := by simp [List.getD, h]
  unfold rightP visP
  rw [hg, if_pos rfl, if_pos rfl]
  refine ⟨?_, by rw [show i + 1 - i = 1 by omega]; rfl⟩
  unfold leafP
  simp only [Bool.and_eq_true, decide_eq_true_eq, Bool.not_eq_true']
  refine ⟨⟨⟨⟨by first | rfl | trivial, by first | rfl | trivial⟩, by show (ps.length : Int) = n; omega⟩, ?_⟩, hb⟩
  show ps.any badPrice = false
  rw [List.any_eq_false]
  intro x hx
  have := hr x hx
  unfold badPrice
  simp only [Bool.or_eq_true, decide_eq_true_eq, not_or]
  omega
 | node i m j b dec h hb hp h1 h2 ih1 ih2 =>
  intro f hf hj
  have hl1 := h1.lt
  have hl2 := h2.lt
  obtain ⟨f', rfl⟩ : ∃ f', f = f' + 1 := ⟨f - 1, by omega⟩
  have hg : ns.getD i z55 = ⟨(b : Int), (i : Int) + 1, (m : Int), []⟩ := by simp [List.getD, h]
  obtain ⟨r1, v1⟩ := ih1 f' (by omega) (by omega)
  obtain ⟨r2, v2⟩ := ih2 f' (by omega) hj
  unfold rightP visP
  rw [hg]
  have e1 : ¬ ((b : Int) = -1) := by omega
  simp only [if_neg e1, Int.toNat_natCast]
  rw [if_neg (by
   rintro (h | h | h | h)
   ·omega
   ·omega
   ·rw [hp] at h; cases h
   ·simp at h)]
  unfold stepR stepV
  rw [if_pos ⟨by omega, by omega⟩, if_pos ⟨by omega, by omega⟩, if_pos ⟨by omega, by omega⟩, if_pos ⟨by omega, by omega⟩]
  rw [show ((i : Int) + 1).toNat = i + 1 by omega, Int.toNat_natCast, r1, r2, v1, v2]
  refine ⟨rfl, ?_⟩
  have e2 : j - i = (m - (i + 1)) + (j - m) + 1 := by omega
  rw [e2, List.range'_succ]
  congr 1
  have e3 := List.range'_append_1 (s := i + 1) (m := m - (i + 1)) (n := j - m)
  rw [show i + 1 + (m - (i + 1)) = m by omega] at e3
  exact e3
theorem check_grown {n : Nat} {l : List S82} {v : Int} {ns : List S55} (h : GTree n l v ns 0 ns.length (List.replicate l.length 0)) (hV : validP (n : Int) l = 0) (win : List Int) (hfe : feasP l [] win = true) (hv : v = valP l win) (hlen : ns.length ≤ 2047) : checkP (n : Int) l win v ns = 0 := by
 have h0 := h.lt
 obtain ⟨hr, hvis⟩ := gtree_right h ns.length (by omega) (Nat.le_refl _)
 rw [Nat.sub_zero, ← List.range_eq_range'] at hvis
 obtain ⟨ho, hla⟩ := tree_of_seen (n := (n : Int)) (l := l) (v := v) (nodes := ns) ns.length (List.replicate l.length 0) h0 hr (by rw [hvis]; exact List.nodup_range) (fun j hj => by rw [hvis]; exact List.mem_range.2 hj)
 unfold checkP
 rw [if_neg (by rw [hV]; simp), if_neg (by rw [hfe]; simp), if_neg (by omega), if_neg (by
  rintro (h | h)
  ·omega
  ·exact h hv)]
 rw [if_pos]
 unfold rootP
 exact (root_tree ns.length (List.replicate l.length 0) h0).2 ⟨ho, hla, hr⟩
theorem feas_ok (l : List S82) : ∀ (s pre : List Int), (∀ k ∈ s, 0 ≤ k ∧ k < l.length) → s.Pairwise (· < ·) → (∀ p, pre.getLast? = some p → ∀ k ∈ s, p < k) → feasP l pre s = okS (fun _ => true) l pre s
 | [], _, _, _, _ => rfl
 | w :: s, pre, h0, hs, hp => by
  obtain ⟨h1, h2⟩ := List.pairwise_cons.1 hs
  obtain ⟨hw0, hw1⟩ := h0 w (by simp)
  have ih := feas_ok l s (pre ++ [w]) (fun k hk => h0 k (by simp [hk])) h2 (fun p e k hk => by
   rw [List.getLast?_append] at e
   simp at e
   subst e
   exact h1 k hk)
  have key : feasP l pre (w :: s) = (if (pre.any fun v => cf l v w) = true then false else feasP l (pre ++ [w]) s) := by
   simp only [feasP]
   cases hl : pre.getLast? with
   | none => rw [if_neg (by simp; omega)]; rfl
   | some p =>
    have := hp p hl w (by simp)
    rw [if_neg (by simp; omega)]
    rfl
  rw [key, ih]
  simp only [okS, Bool.true_and]
  cases pre.any fun v => cf l v w <;> simp
end Go.Proofs.Ytdamibblnjeooaa.H

/- Bids that are fine. Plain. -/
namespace Go.Proofs.Ytdamibblnjeooaa.H
open Go.RowKit
set_option linter.unusedVariables false
set_option linter.unusedSimpArgs false
end Go.Proofs.Ytdamibblnjeooaa.H

/- Win: a feasible choice. A leaf at the root. Plain. -/
namespace Go.Proofs.Ytdamibblnjeooaa.H
open Go.RowKit Go.Proofs.YtdamibblnjeooaaW.PrintWords Go.Proofs.YtdamibblnjeooaaW.PrintLast
set_option linter.unusedVariables false
set_option linter.unusedSimpArgs false
theorem feas_sel (l : List S82) (s : List Int) (h0 : ∀ k ∈ s, 0 ≤ k ∧ k < l.length) (h1 : s.Pairwise (· < ·)) (h : okS (fun _ => true) l [] s = true) : feasP l [] s = true := by
 rw [feas_ok l s [] h0 h1 (by simp)]; exact h
/-- Decisions, as a row and as two lists. -/
structure DecR (n : Nat) (dec ins outs : List Int) : Prop where
 len : dec.length = n
 li : ins.length ≤ 1000
 lo : outs.length ≤ 1000
 ri : ∀ k ∈ ins, 0 ≤ k ∧ k < n
 i1 : ∀ k : Nat, k < n → (dec.getD k 0 = 1 ↔ (k : Int) ∈ ins)
 i0 : ∀ k : Nat, k < n → (dec.getD k 0 = 0 ↔ ¬ (k : Int) ∈ ins ∧ ¬ (k : Int) ∈ outs)
/-- Is bid i possible, given the two lists? -/
def posL (l : List S82) (ins outs : List Int) (i : Nat) : Bool := (!ins.contains (i : Int) && !outs.contains (i : Int) && !ins.any fun k => conf (l.getD k.toNat z82) (l.getD i z82))
end Go.Proofs.Ytdamibblnjeooaa.H

/- The sum of a map of greatest surpluses, as the references reckon it: for each first bid of a bidder the greatest one. Plain. -/
namespace Go.Proofs.Ytdamibblnjeooaa.H
open Go.RowKit
set_option linter.unusedVariables false
set_option linter.unusedSimpArgs false
/-- The map, entry by entry. -/
def spG (can : Nat → Bool) (key sv : Nat → Int) (m : Nat) : List (Int × Int) := (List.range m).foldl (fun s i => if can i then addS s (key i) (sv i) else s) []
/-- The greatest one of a bidder. -/
def gS (can : Nat → Bool) (key sv : Nat → Int) (x : Int) (m : Nat) : Int := (List.range m).foldl (fun t k => if can k = true ∧ key k = x ∧ t < sv k then sv k else t) 0
def firstB (key : Nat → Int) (i : Nat) : Bool := (List.range i).all fun k => decide (key k ≠ key i)
/-- What the references add. -/
def sumG (G : Int → Int) (key : Nat → Int) (m : Nat) : Int := ((List.range m).map fun i => if firstB key i then G (key i) else 0).sum
theorem spG_succ (can : Nat → Bool) (key sv : Nat → Int) (m : Nat) : spG can key sv (m + 1) = if can m then addS (spG can key sv m) (key m) (sv m) else spG can key sv m := by
 unfold spG; rw [List.range_succ, List.foldl_append]; rfl
theorem gS_succ (can : Nat → Bool) (key sv : Nat → Int) (x : Int) (m : Nat) : gS can key sv x (m + 1) = if can m = true ∧ key m = x ∧ gS can key sv x m < sv m then sv m else gS can key sv x m := by
 unfold gS; rw [List.range_succ, List.foldl_append]; rfl
theorem sumG_succ (G : Int → Int) (key : Nat → Int) (m : Nat) : sumG G key (m + 1) = sumG G key m + if firstB key m then G (key m) else 0 := by
 unfold sumG; rw [List.range_succ, List.map_append, List.sum_append]; simp
theorem look_addS (k s x : Int) : ∀ M : List (Int × Int), lookI (addS M k s) x = if x = k then some (if (lookI M k).getD 0 < s then s else (lookI M k).getD 0) else lookI M x
 | [] => by
  by_cases h : x = k
  ·subst h
   simp only [addS, lookI, if_true, Option.getD_none]
   first | rfl | (by_cases g : 0 < s <;> simp [g])
  ·rw [if_neg h]
   simp only [addS, lookI]
   rw [if_neg (fun e => h e.symm)]
 | (j, v) :: M => by
  have ih := look_addS k s x M
  by_cases hj : j = k
  ·subst hj
   simp only [addS, if_true, lookI]
   by_cases h : j = x
   ·subst h; simp
   ·rw [if_neg h, if_neg (fun e => h e.symm), if_neg h]
  ·simp only [addS, if_neg hj, lookI]
   by_cases h : j = x
   ·subst h
    rw [if_pos rfl, if_neg hj, if_pos rfl]
   ·rw [if_neg h, ih, if_neg h]
theorem keys_addS (k s : Int) : ∀ M : List (Int × Int), ∀ y, y ∈ (addS M k s).map (·.1) ↔ y = k ∨ y ∈ M.map (·.1)
 | [], y => by simp [addS]
 | (j, v) :: M, y => by
  have ih := keys_addS k s M y
  by_cases hj : j = k
  ·subst hj; simp [addS]
  ·simp only [addS, if_neg hj, List.map_cons, List.mem_cons, ih]
   constructor
   ·rintro (h | h | h)
    ·exact .inr (.inl h)
    ·exact .inl h
    ·exact .inr (.inr h)
   ·rintro (h | h | h)
    ·exact .inr (.inl h)
    ·exact .inl h
    ·exact .inr (.inr h)
theorem nodup_addS (k s : Int) : ∀ M : List (Int × Int), (M.map (·.1)).Nodup → ((addS M k s).map (·.1)).Nodup
 | [], _ => by simp [addS]
 | (j, v) :: M, h => by
  simp only [List.map_cons, List.nodup_cons] at h
  by_cases hj : j = k
  ·subst hj; simpa [addS] using h
  ·simp only [addS, if_neg hj, List.map_cons, List.nodup_cons]
   refine ⟨fun hm => ?_, nodup_addS k s M h.2⟩
   rcases (keys_addS k s M j).1 hm with e | e
   ·exact hj e
   ·exact h.1 e
theorem spG_nodup (can : Nat → Bool) (key sv : Nat → Int) : ∀ m, ((spG can key sv m).map (·.1)).Nodup
 | 0 => by simp [spG]
 | m + 1 => by
  rw [spG_succ]
  split
  ·exact nodup_addS _ _ _ (spG_nodup can key sv m)
  ·exact spG_nodup can key sv m
theorem spG_look (can : Nat → Bool) (key sv : Nat → Int) (x : Int) : ∀ m, (lookI (spG can key sv m) x).getD 0 = gS can key sv x m
 | 0 => rfl
 | m + 1 => by
  have ih := spG_look can key sv x m
  rw [spG_succ, gS_succ]
  by_cases hc : can m = true
  ·rw [if_pos hc, look_addS]
   by_cases hx : x = key m
   ·subst hx
    rw [if_pos rfl, ih]
    by_cases hlt : gS can key sv (key m) m < sv m
    ·rw [if_pos hlt, if_pos ⟨hc, rfl, hlt⟩]; rfl
    ·rw [if_neg hlt, if_neg (fun h => hlt h.2.2)]; rfl
   ·rw [if_neg hx, ih, if_neg (fun h => hx h.2.1.symm)]
  ·rw [if_neg hc, ih, if_neg (fun h => hc h.1)]
theorem spG_keys (can : Nat → Bool) (key sv : Nat → Int) : ∀ m y, y ∈ (spG can key sv m).map (·.1) → ∃ k, k < m ∧ key k = y
 | 0, y, h => by simp [spG] at h
 | m + 1, y, h => by
  rw [spG_succ] at h
  split at h
  ·rcases (keys_addS _ _ _ y).1 h with e | e
   ·exact ⟨m, by omega, e.symm⟩
   ·obtain ⟨k, hk, e⟩ := spG_keys can key sv m y e
    exact ⟨k, by omega, e⟩
  ·obtain ⟨k, hk, e⟩ := spG_keys can key sv m y h
   exact ⟨k, by omega, e⟩
theorem look_none (x : Int) : ∀ M : List (Int × Int), ¬ x ∈ M.map (·.1) → lookI M x = none
 | [], _ => rfl
 | (j, v) :: M, h => by
  simp only [List.map_cons, List.mem_cons, not_or] at h
  simp only [lookI, if_neg (fun e : j = x => h.1 e.symm)]
  exact look_none x M h.2
theorem vals_sum : ∀ M : List (Int × Int), (M.map (·.1)).Nodup → (M.map (·.2)).sum = ((M.map (·.1)).map fun x => (lookI M x).getD 0).sum
 | [], _ => rfl
 | (j, v) :: M, h => by
  simp only [List.map_cons, List.nodup_cons] at h
  have ih := vals_sum M h.2
  simp only [List.map_cons, List.sum_cons, lookI, if_true, Option.getD_some]
  rw [ih]
  congr 2
  refine List.map_congr_left (fun x hx => ?_)
  rw [if_neg (fun e : j = x => h.1 (e ▸ hx))]
theorem sum_erase (G : Int → Int) (a : Int) : ∀ K : List Int, a ∈ K → (K.map G).sum = G a + ((K.erase a).map G).sum
 | [], h => by cases h
 | b :: K, h => by
  by_cases e : b = a
  ·subst e; simp
  ·have h2 : a ∈ K := by
    rcases List.mem_cons.1 h with h | h
    ·exact absurd h.symm e
    ·exact h
   rw [List.erase_cons_tail (by simpa using e)]
   simp only [List.map_cons, List.sum_cons]
   rw [sum_erase G a K h2]; omega
theorem sumG_congr (G G' : Int → Int) (key : Nat → Int) : ∀ m, (∀ i, i < m → G (key i) = G' (key i)) → sumG G key m = sumG G' key m
 | 0, _ => rfl
 | m + 1, h => by rw [sumG_succ, sumG_succ, sumG_congr G G' key m (fun i hi => h i (by omega)), h m (by omega)]
theorem first_sum (key : Nat → Int) : ∀ (m : Nat) (G : Int → Int) (K : List Int), K.Nodup → (∀ x ∈ K, ∃ k, k < m ∧ key k = x) → (∀ x, ¬ x ∈ K → G x = 0) → sumG G key m = (K.map G).sum
 | 0, G, K, _, hk, _ => by
  have : K = [] := by
   cases K with
   | nil => rfl
   | cons x K => obtain ⟨k, hk, _⟩ := hk x (by simp); omega
  subst this; rfl
 | m + 1, G, K, hn, hk, hz => by
  rw [sumG_succ]
  cases hf : firstB key m
  ·obtain ⟨q, hq, he⟩ : ∃ q, q < m ∧ key q = key m := by
    unfold firstB at hf
    obtain ⟨q, hq, h⟩ := List.all_eq_false.1 hf
    exact ⟨q, List.mem_range.1 hq, by simpa using h⟩
   simp only [Bool.false_eq_true, if_false, Int.add_zero]
   refine first_sum key m G K hn (fun x hx => ?_) hz
   obtain ⟨k, hk1, e⟩ := hk x hx
   rcases Nat.lt_succ_iff_lt_or_eq.1 hk1 with h | rfl
   ·exact ⟨k, h, e⟩
   ·exact ⟨q, hq, he.trans e⟩
  ·have hne : ∀ q, q < m → key q ≠ key m := fun q hq => by
    unfold firstB at hf
    simpa using List.all_eq_true.1 hf q (List.mem_range.2 hq)
   simp only [if_true]
   by_cases hm : key m ∈ K
   ·rw [sum_erase G (key m) K hm]
    have h1 := first_sum key m (fun x => if x = key m then 0 else G x) (K.erase (key m)) (hn.erase _) (fun x hx => by
     obtain ⟨k, hk1, e⟩ := hk x (List.mem_of_mem_erase hx)
     rcases Nat.lt_succ_iff_lt_or_eq.1 hk1 with h | rfl
     ·exact ⟨k, h, e⟩
     ·exact absurd e.symm ((List.Nodup.mem_erase_iff hn).1 hx).1) (fun x hx => by
     by_cases e : x = key m
     ·simp [e]
     ·simp only [if_neg e]
      exact hz x (fun h => hx ((List.Nodup.mem_erase_iff hn).2 ⟨e, h⟩)))
    have h2 : sumG G key m = sumG (fun x => if x = key m then 0 else G x) key m := sumG_congr _ _ key m (fun i hi => by simp [hne i hi])
    have h3 : ((K.erase (key m)).map fun x => if x = key m then 0 else G x) = (K.erase (key m)).map G := List.map_congr_left (fun x hx => if_neg ((List.Nodup.mem_erase_iff hn).1 hx).1)
    rw [h2, h1, h3]; omega
   ·rw [hz _ hm, Int.add_zero]
    refine first_sum key m G K hn (fun x hx => ?_) hz
    obtain ⟨k, hk1, e⟩ := hk x hx
    rcases Nat.lt_succ_iff_lt_or_eq.1 hk1 with h | rfl
    ·exact ⟨k, h, e⟩
    ·exact absurd (e ▸ hx) hm
/-- The sum of the map's values. -/
theorem spG_sum (can : Nat → Bool) (key sv : Nat → Int) (m : Nat) : ((spG can key sv m).map (·.2)).sum = sumG (fun x => gS can key sv x m) key m := by
 rw [vals_sum _ (spG_nodup can key sv m)]
 have h : (fun x => (lookI (spG can key sv m) x).getD 0) = fun x => gS can key sv x m := funext fun x => spG_look can key sv x m
 rw [h]
 refine (first_sum key m _ _ (spG_nodup can key sv m) (fun x hx => spG_keys can key sv m x hx) (fun x hx => ?_)).symm
 rw [← spG_look, look_none x _ hx]; rfl
end Go.Proofs.Ytdamibblnjeooaa.H

/- The reference's Bound (chapter 29) is the checker's. Plain. -/
namespace Go.Proofs.Ytdamibblnjeooaa.H
open Go.RowKit Go.Proofs.YtdamibblnjeooaaW.PrintWords Go.Proofs.YtdamibblnjeooaaW.PrintLast
set_option linter.unusedVariables false
set_option linter.unusedSimpArgs false
/-- What is known of the bids and the prices. -/
structure BOk (L : List S85) (ps : List Int) : Prop where
 l10 : L.length ≤ 10
 p8 : ps.length ≤ 8
 pr : ∀ x ∈ ps, 0 ≤ x ∧ x ≤ 1099511627776
 f1 : ∀ b ∈ L, 1 ≤ b.f1 ∧ b.f1 ≤ 1099511627776
 f2 : ∀ b ∈ L, b.f2.length ≤ 8 ∧ ∀ k ∈ b.f2, 0 ≤ k ∧ k < ps.length
section
variable {L : List S85} {ps : List Int} (ok : BOk L ps) (dec ins outs : List Int) (hd : DecR L.length dec ins outs)
include ok
include hd
omit hd in
omit hd in
omit hd in
omit ok hd in
omit hd in
end
section
variable (L : List S85) (hb : ∀ b ∈ L, b.f2.length ≤ 9223372036854775807)
include hb in
end
/-- Decisions as a row and as two lists without repeats. -/
structure DN (m : Nat) (dec ins outs : List Int) : Prop where
 r : DecR m dec ins outs
 ro : ∀ k ∈ outs, 0 ≤ k ∧ k < (m : Int)
 nd : (ins ++ outs).Nodup
theorem nd_len (m : Nat) : ∀ s : List Int, (∀ k ∈ s, 0 ≤ k ∧ k < (m : Int)) → s.Nodup → s.length ≤ m := by
 induction m with
 | zero =>
  intro s h _
  cases s with
  | nil => simp
  | cons x s => have := h x (by simp); omega
 | succ m ih =>
  intro s h hn
  have h1 := ih (s.erase (m : Int)) (fun k hk => by
   have h2 := h k (List.mem_of_mem_erase hk)
   have h3 := ((List.Nodup.mem_erase_iff hn).1 hk).1
   omega) (hn.erase _)
  by_cases hm : (m : Int) ∈ s
  ·have := List.length_erase_of_mem hm
   have : 0 < s.length := List.length_pos_of_mem hm
   omega
  ·rw [List.erase_of_not_mem hm] at h1; omega
theorem DN.len {m : Nat} {dec ins outs : List Int} (h : DN m dec ins outs) : ins.length + outs.length ≤ m := by
 have := nd_len m (ins ++ outs) (fun k hk => by
  rcases List.mem_append.1 hk with x | x
  ·exact h.r.ri k x
  ·exact h.ro k x) h.nd
 rwa [List.length_append] at this
theorem DN.zero (m : Nat) : DN m (List.replicate m 0) [] [] := by
 refine ⟨⟨List.length_replicate, by simp, by simp, by simp, fun k hk => ?_, fun k hk => ?_⟩, by simp, by simp⟩
 ·simp [List.getD, List.getElem?_replicate, hk]
 ·simp [List.getD, List.getElem?_replicate, hk]
theorem DN.take {m : Nat} {dec ins outs : List Int} (hm : m ≤ 100) (h : DN m dec ins outs) (b : Nat) (hb : b < m) (h0 : dec.getD b 0 = 0) :
  DN m (dec.set b 1) (ins ++ [(b : Int)]) outs ∧ DN m (dec.set b 2) ins (outs ++ [(b : Int)]) := by
 have hl := h.len
 obtain ⟨n1, n2⟩ := (h.r.i0 b hb).1 h0
 have hlen := h.r.len
 have hg : ∀ (d : Int) (k : Nat), (dec.set b d).getD k 0 = if k = b then d else dec.getD k 0 := by
  intro d k
  simp only [List.getD, List.getElem?_set]
  by_cases e : b = k
  ·subst e; simp [hlen, hb]
  ·rw [if_neg e, if_neg (fun x => e x.symm)]
 constructor
 ·refine ⟨⟨by simpa using hlen, by simp; omega, by omega, fun k hk => ?_, fun k hk => ?_, fun k hk => ?_⟩, h.ro, ?_⟩
  ·rcases List.mem_append.1 hk with x | x
   ·exact h.r.ri k x
   ·rw [List.mem_singleton] at x; omega
  ·rw [hg, List.mem_append, List.mem_singleton]
   by_cases e : k = b
   ·simp [e]
   ·rw [if_neg e, h.r.i1 k hk]
    constructor
    ·exact .inl
    ·rintro (x | x)
     ·exact x
     ·omega
  ·rw [hg, List.mem_append, List.mem_singleton]
   by_cases e : k = b
   ·simp [e]
   ·rw [if_neg e, h.r.i0 k hk]
    constructor
    ·rintro ⟨x, y⟩
     exact ⟨fun z => z.elim x (fun w => e (by omega)), y⟩
    ·rintro ⟨x, y⟩
     exact ⟨fun z => x (.inl z), y⟩
  ·have := h.nd
   rw [List.nodup_append] at this ⊢
   refine ⟨?_, this.2.1, ?_⟩
   ·rw [List.nodup_append]
    refine ⟨this.1, by simp, ?_⟩
    intro a ha c hc e
    rw [List.mem_singleton] at hc
    subst hc; subst e
    exact n1 ha
   ·intro a ha c hc e
    rcases List.mem_append.1 ha with x | x
    ·exact this.2.2 a x c hc e
    ·rw [List.mem_singleton] at x
     subst x; subst e
     exact n2 hc
 ·refine ⟨⟨by simpa using hlen, by omega, by simp; omega, h.r.ri, fun k hk => ?_, fun k hk => ?_⟩, fun k hk => ?_, ?_⟩
  ·rw [hg]
   by_cases e : k = b
   ·subst e
    simp [n1]
   ·rw [if_neg e, h.r.i1 k hk]
  ·rw [hg, List.mem_append, List.mem_singleton]
   by_cases e : k = b
   ·simp [e]
   ·rw [if_neg e, h.r.i0 k hk]
    constructor
    ·rintro ⟨x, y⟩
     exact ⟨x, fun z => z.elim y (fun w => e (by omega))⟩
    ·rintro ⟨x, y⟩
     exact ⟨x, fun z => y (.inl z)⟩
  ·rcases List.mem_append.1 hk with x | x
   ·exact h.ro k x
   ·rw [List.mem_singleton] at x; omega
  ·have := h.nd
   rw [← List.append_assoc, List.nodup_append]
   refine ⟨this, by simp, ?_⟩
   intro a ha c hc e
   rw [List.mem_singleton] at hc
   subst hc; subst e
   rcases List.mem_append.1 ha with x | x
   ·exact n1 x
   ·exact n2 x
/-- What is known where Valid found nothing. -/
structure VOk (n : Int) (L : List S85) : Prop where
 n8 : 1 ≤ n ∧ n ≤ 8
 l10 : L.length ≤ 10
 f1 : ∀ b ∈ L, 1 ≤ b.f1 ∧ b.f1 ≤ 1099511627776
 f2 : ∀ b ∈ L, b.f2.length ≤ 8 ∧ ∀ k ∈ b.f2, 0 ≤ k ∧ k < n
theorem VOk.of {n : Int} {L : List S85} (h : validP n (L.map cv) = 0) : VOk n L := by
 obtain ⟨hn1, hn2, hl10, hbb⟩ := validP_bids n (L.map cv) h
 rw [List.length_map] at hl10
 exact ⟨⟨hn1, hn2⟩, hl10, fun b hb => (hbb _ (List.mem_map_of_mem (f := cv) hb)).1, fun b hb => (hbb _ (List.mem_map_of_mem (f := cv) hb)).2⟩
section
variable {n : Int} {L : List S85} (ok : VOk n L) (v : Int) (NS : List S34)
include ok
end
end Go.Proofs.Ytdamibblnjeooaa.H

/- The reference's grow and Full, walked by hand. -/
namespace Go.Proofs.Ytdamibblnjeooaa.H
open Go.RowKit Go.Proofs.YtdamibblnjeooaaW.PrintWords Go.Proofs.YtdamibblnjeooaaW.PrintLast Go.Proofs.YtdamibblnjeooaaW.PrintMore
set_option linter.unusedVariables false
set_option linter.unusedSimpArgs false
/-- What a call of grow is told. -/
structure GCx where
 n : Nat
 v : Int
 Ab : Option Addr
 cb : Nat
 L : List S85
 w0 : World
def GCx.base (s : GCx) : Nat := s.w0.heap.size
/-- The two lists of decisions. -/
structure GDec (s : GCx) (ins outs : List Int) : Prop where
 ri : ∀ k ∈ ins, 0 ≤ k ∧ k < (s.L.length : Int)
 ro : ∀ k ∈ outs, 0 ≤ k ∧ k < (s.L.length : Int)
 nd : (ins ++ outs).Nodup
/-- How the boxes and rows of a call stand in X: vb lies in the box, vs is the list's row. -/
structure GSt (s : GCx) (w : World) (okn P : Nat → Prop) (own : Option Nat) (A4 : Option Addr) (ins : List Int) (A5 : Option Addr) (outs : List Int) (X : World) (vb vs : Value) (ns : List S34) : Prop where
 gr : w.grownBy X own
 sz : w.heap.size + 2 ≤ X.heap.size
 b7 : X.heap[w.heap.size]? = some (.cells #[.int .i64 s.v, vb] 30 (0, 0))
 b10 : X.heap[w.heap.size + 1]? = some (.cells #[.int .i64 0, .slice none 0 0] 30 (0, 0))
 hN : Kd.N k34 34 X s.base (fun k => (okn k ∧ k < w.heap.size) ∨ w.heap.size + 2 ≤ k) vs ns
 hat : vs.ownBlock = own ∨ ∃ b, vs.ownBlock = some b ∧ w.heap.size + 2 ≤ b
 fb : Below s.base s.w0 X
 hbw : s.base ≤ w.heap.size
 f4 : Kd.F (Kd.int .i64) X (fun k => P k ∧ k < w.heap.size) A4 ins.length ins
 f5 : Kd.F (Kd.int .i64) X (fun k => P k ∧ k < w.heap.size) A5 outs.length outs
 hap : ∀ k, P k → some k ≠ own
 hown : ∀ k, own = some k → k < w.heap.size
section
variable {s : GCx} {w : World} {okn P : Nat → Prop} {own : Option Nat} {A4 A5 : Option Addr} {ins outs : List Int} {X X1 : World} {vb vs v1 : Value} {ns ns1 : List S34}
theorem GSt.step (h : GSt s w okn P own A4 ins A5 outs X vb vs ns) (hb : Below X.heap.size X X1) : GSt s w okn P own A4 ins A5 outs X1 vb vs ns := by
 have hsz := h.sz
 exact ⟨⟨hb.os.trans h.gr.os, hb.tape.trans h.gr.tape, hb.output.trans h.gr.output, Nat.le_trans h.gr.size hb.size, fun k hk hne => (hb.block k (by omega)).trans (h.gr.block k hk hne)⟩, Nat.le_trans hsz hb.size, (hb.block _ (by omega)).trans h.b7, (hb.block _ (by omega)).trans h.b10, Kd.N_below h.hN hb, h.hat, h.fb.trans (hb.mono h.fb.size), h.hbw, Kd.F_below h.f4 hb, Kd.F_below h.f5 hb, h.hap, h.hown⟩
/-- The list has been written (its own block, or new ones). -/
theorem GSt.mv (h : GSt s w okn P own A4 ins A5 outs X vb vs ns) (hg : X.grownBy X1 vs.ownBlock) (hN : Kd.N k34 34 X1 s.base (fun k => (okn k ∧ k < w.heap.size) ∨ w.heap.size + 2 ≤ k) v1 ns1) (hat : v1.ownBlock = vs.ownBlock ∨ ∃ b, v1.ownBlock = some b ∧ X.heap.size ≤ b) :
  GSt s w okn P own A4 ins A5 outs X1 vb v1 ns1 := by
 have hsz := h.sz
 have hne : ∀ k, k < w.heap.size + 2 → (k < w.heap.size → some k ≠ own) → some k ≠ vs.ownBlock := by
  intro k hk hko he
  rcases h.hat with e | ⟨b, e, hb⟩
  ·rw [e] at he
   have := h.hown k he.symm
   exact hko this he
  ·rw [e] at he
   injection he with he
   omega
 have hP : ∀ k, P k ∧ k < w.heap.size → some k ≠ vs.ownBlock := fun k hk => hne k (by omega) (fun _ => h.hap k hk.1)
 refine ⟨⟨hg.os.trans h.gr.os, hg.tape.trans h.gr.tape, hg.output.trans h.gr.output, Nat.le_trans h.gr.size hg.size, fun k hk hn => (hg.block k (by omega) (hne k (by omega) (fun _ => hn))).trans (h.gr.block k hk hn)⟩, Nat.le_trans hsz hg.size, (hg.block _ (by omega) (hne _ (by omega) (fun h => by omega))).trans h.b7, (hg.block _ (by omega) (hne _ (by omega) (fun h => by omega))).trans h.b10, hN, ?_, h.fb.trans ⟨hg.os, hg.tape, hg.output, hg.size, fun k hk => hg.block k (Nat.lt_of_lt_of_le hk h.fb.size) (fun e => by have := Kd.N_base h.hN k e.symm; omega)⟩, h.hbw, Kd.F_grown h.f4 hg hP, Kd.F_grown h.f5 hg hP, h.hap, h.hown⟩
 rcases hat with e | ⟨b, e, hb⟩
 ·rw [e]; exact h.hat
 ·exact .inr ⟨b, e, by omega⟩
theorem GSt.apart (h : GSt s w okn P own A4 ins A5 outs X vb vs ns) : ∀ k, (P k ∧ k < w.heap.size) ∨ X.heap.size ≤ k → some k ≠ vs.ownBlock := by
 intro k hk he
 have hlt := Kd.N_lt h.hN k he.symm
 rcases hk with hk | hk
 ·rcases h.hat with e | ⟨b, e, hb⟩
  ·rw [e] at he; exact h.hap k hk.1 he
  ·rw [e] at he
   injection he with he
   omega
 ·omega
theorem GDec.take {s : GCx} {ins outs : List Int} (h : GDec s ins outs) (m : Nat) (hm : m < s.L.length) (hp : posL (s.L.map cv) ins outs m = true) : GDec s (ins ++ [(m : Int)]) outs ∧ GDec s ins (outs ++ [(m : Int)]) := by
 unfold posL at hp
 simp only [Bool.and_eq_true, Bool.not_eq_true', List.contains_eq_mem, decide_eq_false_iff_not] at hp
 obtain ⟨⟨n1, n2⟩, _⟩ := hp
 have hnd := h.nd
 constructor
 ·refine ⟨fun k hk => ?_, h.ro, ?_⟩
  ·rcases List.mem_append.1 hk with x | x
   ·exact h.ri k x
   ·rw [List.mem_singleton] at x; omega
  ·rw [List.nodup_append] at hnd ⊢
   refine ⟨?_, hnd.2.1, ?_⟩
   ·rw [List.nodup_append]
    refine ⟨hnd.1, by simp, ?_⟩
    intro a ha c hc e
    rw [List.mem_singleton] at hc
    subst hc; subst e
    exact n1 ha
   ·intro a ha c hc e
    rcases List.mem_append.1 ha with x | x
    ·exact hnd.2.2 a x c hc e
    ·rw [List.mem_singleton] at x
     subst x; subst e
     exact n2 hc
 ·refine ⟨h.ri, fun k hk => ?_, ?_⟩
  ·rcases List.mem_append.1 hk with x | x
   ·exact h.ro k x
   ·rw [List.mem_singleton] at x; omega
  ·rw [← List.append_assoc, List.nodup_append]
   refine ⟨hnd, by simp, ?_⟩
   intro a ha c hc e
   rw [List.mem_singleton] at hc
   subst hc; subst e
   rcases List.mem_append.1 ha with x | x
   ·exact n1 x
   ·exact n2 x
/-- A store into the box. -/
theorem GSt.put (h : GSt s w okn P own A4 ins A5 outs X vb vs ns) (u : Value) : GSt s w okn P own A4 ins A5 outs (X.setCell ⟨w.heap.size, 1, none⟩ u) u vs ns := by
 have hB : Below w.heap.size X (X.setCell ⟨w.heap.size, 1, none⟩ u) := (Below.refl _ X).setCell (p := ⟨w.heap.size, 1, none⟩) (Nat.le_refl _) u
 have hne : ∀ k, (okn k ∧ k < w.heap.size) ∨ w.heap.size + 2 ≤ k → k ≠ w.heap.size := fun k hk => by omega
 have hP : ∀ k, P k ∧ k < w.heap.size → k ≠ w.heap.size := fun k hk => by omega
 exact ⟨⟨hB.os.trans h.gr.os, hB.tape.trans h.gr.tape, hB.output.trans h.gr.output, Nat.le_trans h.gr.size hB.size, fun k hk hn => (hB.block k hk).trans (h.gr.block k hk hn)⟩, Nat.le_trans h.sz hB.size, blk_put h.b7 1 u rfl, (Below.heap_setCell X ⟨w.heap.size, 1, none⟩ u _ (by show w.heap.size + 1 ≠ w.heap.size; omega)).trans h.b10, Kd.N_far (p := ⟨w.heap.size, 1, none⟩) h.hN hne u, h.hat, h.fb.setCell (p := ⟨w.heap.size, 1, none⟩) h.hbw u, h.hbw, Kd.F_far (p := ⟨w.heap.size, 1, none⟩) h.f4 hP u, Kd.F_far (p := ⟨w.heap.size, 1, none⟩) h.f5 hP u, h.hap, h.hown⟩
theorem GSt.cells (h : GSt s w okn P own A4 ins A5 outs X vb vs ns) : X.cell? ⟨w.heap.size, 0, none⟩ = some (.int .i64 s.v) ∧ X.cell? ⟨w.heap.size, 1, none⟩ = some vb ∧ X.frozen? ⟨w.heap.size, 0, none⟩ = false ∧ X.frozen? ⟨w.heap.size, 1, none⟩ = false :=
 ⟨(blk_cell h.b7 0).trans rfl, (blk_cell h.b7 1).trans rfl, blk_frozen h.b7 0, blk_frozen h.b7 1⟩
end
end Go.Proofs.Ytdamibblnjeooaa.H

/- Certificates as the law hands them over; what Full makes. Plain. -/
namespace Go.Proofs.Ytdamibblnjeooaa.H
open Go.RowKit Go.Proofs.YtdamibblnjeooaaW.PrintWords Go.Proofs.YtdamibblnjeooaaW.PrintLast
set_option linter.unusedVariables false
set_option linter.unusedSimpArgs false
theorem best_feas (n : Int) (l : List S82) (hV : validP n l = 0) : feasP l [] (searchP (fun _ => true) l).1 = true ∧ (searchP (fun _ => true) l).2 = valP l (searchP (fun _ => true) l).1 := by
 obtain ⟨_, _, _, hbb⟩ := validP_bids n l hV
 obtain ⟨p, hib, hse⟩ := search_best (fun _ => true) l (fun b hb => (hbb b hb).1.1)
 have hok := (ok_sel (fun _ => true) l p).2 hib.feas
 have hsr : ∀ k ∈ sel p l.length 0, 0 ≤ k ∧ k < l.length := fun k hk => by
  obtain ⟨q, hq, _, rfl⟩ := (mem_sel0 _ _ _).1 hk
  omega
 rw [hse]
 exact ⟨feas_sel _ _ hsr (rise_sel p l.length 0) hok, (valB_sel l p).symm⟩
theorem best_f (n : Int) (l : List S82) (hV : validP n l = 0) : clear_Best.f n l = some ((searchP (fun _ => true) l).1, (searchP (fun _ => true) l).2, 0) := by
 unfold clear_Best.f
 rw [if_pos hV]
end Go.Proofs.Ytdamibblnjeooaa.H

/- Bound is no less than any feasible choice: plain lemmas. -/
namespace Go.Proofs.Ytdamibblnjeooaa.H
open Go.RowKit
set_option linter.unusedVariables false
set_option linter.unusedSimpArgs false
/-- What a sum loses when one place is set to nothing. -/
theorem sum_set0 (ps : List Int) (x : Nat) (hx : x < ps.length) : ps.sum = ps.getD x 0 + (ps.set x 0).sum := by
 induction ps generalizing x with
 | nil => simp at hx
 | cons p ps ih =>
  cases x with
  | zero => simp [List.getD]
  | succ x =>
   have := ih x (by simpa using hx)
   simp only [List.getD, List.getElem?_cons_succ, List.set_cons_succ, List.sum_cons] at this ⊢
   omega
theorem sum_nonneg_ : ∀ ps : List Int, (∀ p ∈ ps, 0 ≤ p) → 0 ≤ ps.sum
 | [], _ => by simp
 | p :: ps, h => by
  have h1 := h p (by simp)
  have h2 := sum_nonneg_ ps (fun x hx => h x (by simp [hx]))
  simp only [List.sum_cons]
  omega
theorem lots_le : ∀ (X : List Int) (ps : List Int), (∀ p ∈ ps, 0 ≤ p) → X.Nodup → (∀ x ∈ X, 0 ≤ x ∧ x < ps.length) → (X.map fun k => ps.getD k.toNat 0).sum ≤ ps.sum
 | [], ps, hp, _, _ => by
  simp only [List.map_nil, List.sum_nil]
  exact sum_nonneg_ ps hp
 | x :: X, ps, hp, hn, hr => by
  obtain ⟨hx0, hx1⟩ := hr x (by simp)
  obtain ⟨n1, n2⟩ := List.nodup_cons.1 hn
  have hxl : x.toNat < ps.length := by omega
  have ih := lots_le X (ps.set x.toNat 0) (fun p hpm => by
   rcases List.mem_or_eq_of_mem_set hpm with h | h
   ·exact hp p h
   ·omega) n2 (fun y hy => by have := hr y (by simp [hy]); rw [List.length_set]; exact this)
  have he : (X.map fun k => (ps.set x.toNat 0).getD k.toNat 0) = X.map fun k => ps.getD k.toNat 0 := by
   refine List.map_congr_left (fun y hy => ?_)
   have hy0 := (hr y (by simp [hy])).1
   have hne : x.toNat ≠ y.toNat := fun e => n1 (by rw [show x = y from by omega]; exact hy)
   simp only [List.getD, List.getElem?_set, if_neg hne]
  rw [he] at ih
  have := sum_set0 ps x.toNat hxl
  simp only [List.map_cons, List.sum_cons]
  omega
/-- The map without a key. -/
def dropK (m : List (Int × Int)) (k : Int) : List (Int × Int) := m.filter fun e => e.1 != k
theorem look_dropK (k k2 : Int) (h : k2 ≠ k) : ∀ m, lookI (dropK m k) k2 = lookI m k2
 | [] => rfl
 | (j, v) :: m => by
  have ih := look_dropK k k2 h m
  unfold dropK at ih ⊢
  by_cases hj : j = k
  ·have : ((j, v).1 != k) = false := by simpa using hj
   rw [List.filter_cons_of_neg (by simp [hj]), ih]
   simp only [lookI]
   rw [if_neg (by omega)]
  ·rw [List.filter_cons_of_pos (by simpa using hj)]
   simp only [lookI, ih]
theorem sum_dropK (k v : Int) : ∀ m : List (Int × Int), (∀ e ∈ m, 0 ≤ e.2) → lookI m k = some v → v + ((dropK m k).map (·.2)).sum ≤ (m.map (·.2)).sum
 | [], _, h => by simp [lookI] at h
 | (j, u) :: m, h0, h => by
  have hu := h0 (j, u) (by simp)
  have hm : ∀ e ∈ m, 0 ≤ e.2 := fun e he => h0 e (by simp [he])
  simp only [lookI] at h
  by_cases hj : j = k
  ·rw [if_pos hj] at h
   injection h with h
   subst h
   unfold dropK
   rw [List.filter_cons_of_neg (by simp [hj])]
   have : ∀ m : List (Int × Int), (∀ e ∈ m, 0 ≤ e.2) → ((m.filter fun e => e.1 != k).map (·.2)).sum ≤ (m.map (·.2)).sum := by
    intro m
    induction m with
    | nil => intro _; simp
    | cons e m ih =>
     intro h
     have h1 := h e (by simp)
     have h2 := ih (fun x hx => h x (by simp [hx]))
     by_cases c : (e.1 != k) = true
     ·rw [List.filter_cons_of_pos (p := fun e : Int × Int => e.1 != k) c]; simp only [List.map_cons, List.sum_cons]; omega
     ·rw [List.filter_cons_of_neg (p := fun e : Int × Int => e.1 != k) c]; simp only [List.map_cons, List.sum_cons]; omega
   have := this m hm
   simp only [List.map_cons, List.sum_cons]
   omega
  ·rw [if_neg hj] at h
   have ih := sum_dropK k v m hm h
   unfold dropK at ih ⊢
   rw [List.filter_cons_of_pos (by simpa using hj)]
   simp only [List.map_cons, List.sum_cons]
   omega
theorem look_addS_same (k s : Int) : ∀ m, ∃ v, lookI (addS m k s) k = some v ∧ s ≤ v
 | [] => by
  refine ⟨if 0 < s then s else 0, by simp [addS, lookI], ?_⟩
  split <;> omega
 | (j, u) :: m => by
  by_cases h : j = k
  ·refine ⟨if u < s then s else u, by simp [addS, lookI, h], ?_⟩
   split <;> omega
  ·obtain ⟨v, h1, h2⟩ := look_addS_same k s m
   exact ⟨v, by simp [addS, lookI, h, h1], h2⟩
theorem look_addS_other (k s k2 v : Int) : ∀ m, lookI m k2 = some v → ∃ v', lookI (addS m k s) k2 = some v' ∧ v ≤ v'
 | [], h => by simp [lookI] at h
 | (j, u) :: m, h => by
  simp only [lookI] at h
  by_cases h2 : j = k2
  ·rw [if_pos h2] at h
   injection h with h
   subst h
   by_cases hk : j = k
   ·refine ⟨if u < s then s else u, ?_, by split <;> omega⟩
    simp only [addS, if_pos hk, lookI]
    rw [if_pos (by omega)]
   ·refine ⟨u, ?_, Int.le_refl _⟩
    simp only [addS, if_neg hk, lookI, if_pos h2]
  ·rw [if_neg h2] at h
   by_cases hk : j = k
   ·refine ⟨v, ?_, Int.le_refl _⟩
    simp only [addS, if_pos hk, lookI]
    rw [if_neg (by omega)]
    exact h
   ·obtain ⟨v', e1, e2⟩ := look_addS_other k s k2 v m h
    refine ⟨v', ?_, e2⟩
    simp only [addS, if_neg hk, lookI, if_neg h2]
    exact e1
/-- Bids of different bidders: their surpluses together are no more than the map's values. -/
theorem surps_le (ps : List Int) : ∀ (s : List S82) (m : List (Int × Int)), (∀ e ∈ m, 0 ≤ e.2) → s.Pairwise (fun a b => a.f0 ≠ b.f0) → (∀ b ∈ s, ∃ v, lookI m b.f0 = some v ∧ surp ps b ≤ v) → (s.map (surp ps)).sum ≤ (m.map (·.2)).sum
 | [], m, h0, _, _ => by
  simp only [List.map_nil, List.sum_nil]
  exact sum_nonneg_ _ (fun x hx => by obtain ⟨e, he, rfl⟩ := List.mem_map.1 hx; exact h0 e he)
 | b :: s, m, h0, hs, hl => by
  obtain ⟨h1, h2⟩ := List.pairwise_cons.1 hs
  obtain ⟨v, hv, hle⟩ := hl b (by simp)
  have hd := sum_dropK b.f0 v m h0 hv
  have ih := surps_le ps s (dropK m b.f0) (fun e he => h0 e (List.mem_filter.1 he).1) h2 (fun c hc => by
   obtain ⟨u, hu, hle2⟩ := hl c (by simp [hc])
   exact ⟨u, by rw [look_dropK b.f0 c.f0 (fun e => h1 c hc e.symm)]; exact hu, hle2⟩)
  simp only [List.map_cons, List.sum_cons]
  omega
theorem conf_no {a b : S82} (h : conf a b = false) : a.f0 ≠ b.f0 ∧ ∀ x ∈ a.f2, x ∉ b.f2 := by
 simp only [conf, Bool.or_eq_false_iff] at h
 refine ⟨by simpa using h.1, fun x hx hb => ?_⟩
 have := List.any_eq_false.1 h.2 x hb
 simp [hx] at this
theorem lotsOk_nodup (n : Int) : ∀ (ks : List Int) (last : Int), lotsOk n last ks = true → ks.Nodup
 | [], _, _ => List.nodup_nil
 | k :: ks, last, h => by
  simp only [lotsOk] at h
  split at h
  ·simp at h
  ·refine List.nodup_cons.2 ⟨fun hm => ?_, lotsOk_nodup n ks k h⟩
   have := (lotsOk_len n ks k h).2 k hm
   omega
theorem flat_nodup : ∀ B : List S82, (∀ b ∈ B, b.f2.Nodup) → B.Pairwise (fun a b => conf a b = false) → (B.flatMap (·.f2)).Nodup
 | [], _, _ => by simp
 | b :: B, h, hp => by
  obtain ⟨h1, h2⟩ := List.pairwise_cons.1 hp
  rw [List.flatMap_cons, List.nodup_append]
  refine ⟨h b (by simp), flat_nodup B (fun x hx => h x (by simp [hx])) h2, fun x hx y hy e => ?_⟩
  subst e
  obtain ⟨c, hc, hy⟩ := List.mem_flatMap.1 hy
  exact (conf_no (h1 c hc)).2 x hx hy
theorem split_sum (ps : List Int) : ∀ B : List S82, (B.map (·.f1)).sum = (B.map (surp ps)).sum + ((B.flatMap (·.f2)).map fun k => ps.getD k.toNat 0).sum
 | [] => by simp
 | b :: B => by
  have ih := split_sum ps B
  rw [List.flatMap_cons, List.map_append, List.sum_append]
  simp only [List.map_cons, List.sum_cons]
  have : surp ps b = b.f1 - (b.f2.map fun k => ps.getD k.toNat 0).sum := rfl
  omega
end Go.Proofs.Ytdamibblnjeooaa.H

/- Soundness of the certificates. Plain. -/
namespace Go.Proofs.Ytdamibblnjeooaa.H
open Go.RowKit Go.Proofs.YtdamibblnjeooaaW.PrintWords Go.Proofs.YtdamibblnjeooaaW.PrintLast
set_option linter.unusedVariables false
set_option linter.unusedSimpArgs false
theorem addS_nn (k s : Int) : ∀ M : List (Int × Int), (∀ e ∈ M, 0 ≤ e.2) → ∀ e ∈ addS M k s, 0 ≤ e.2
 | [], _, e, he => by
  simp only [addS, List.mem_singleton] at he
  subst he
  show 0 ≤ if 0 < s then s else 0
  split <;> omega
 | (j, v) :: M, h, e, he => by
  have hv : 0 ≤ v := h (j, v) (by simp)
  unfold addS at he
  split at he
  ·rcases List.mem_cons.1 he with he | he
   ·subst he
    show 0 ≤ if v < s then s else v
    split <;> omega
   ·exact h e (by simp [he])
  ·rcases List.mem_cons.1 he with he | he
   ·subst he; exact hv
   ·exact addS_nn k s M (fun x hx => h x (by simp [hx])) e he
theorem spS_nn (l : List S82) (dec ps : List Int) : ∀ m, ∀ e ∈ spS l dec ps m, 0 ≤ e.2
 | 0, e, he => by simp [spS] at he
 | m + 1, e, he => by
  rw [spS_succ] at he
  split at he
  ·exact addS_nn _ _ _ (spS_nn l dec ps m) e he
  ·exact spS_nn l dec ps m e he
theorem spS_look (l : List S82) (dec ps : List Int) (i : Nat) (hp : possP l dec i = true) : ∀ m, i < m → ∃ v, lookI (spS l dec ps m) (l.getD i z82).f0 = some v ∧ surp ps (l.getD i z82) ≤ v
 | 0, h => by omega
 | m + 1, h => by
  rw [spS_succ]
  by_cases e : i = m
  ·subst e
   rw [if_pos hp]
   exact look_addS_same _ _ _
  ·obtain ⟨v, h1, h2⟩ := spS_look l dec ps i hp m (by omega)
   split
   ·obtain ⟨v', h3, h4⟩ := look_addS_other (l.getD m z82).f0 (surp ps (l.getD m z82)) _ v _ h1
    exact ⟨v', h3, by omega⟩
   ·exact ⟨v, h1, h2⟩
/-- A choice agrees with decisions. -/
def Agree (l : List S82) (dec : List Int) (p : Nat → Bool) : Prop := dec.length = l.length ∧ ∀ b, b < l.length → (inB dec b = true → p b = true) ∧ (p b = true → inB dec b = true ∨ dec.getD b 0 = 0)
def rest (dec : List Int) (p : Nat → Bool) (m : Nat) : List Nat := (List.range m).filter fun b => p b && !inB dec b
theorem rest_succ (dec : List Int) (p : Nat → Bool) (m : Nat) : rest dec p (m + 1) = rest dec p m ++ (if (p m && !inB dec m) = true then [m] else []) := by
 unfold rest
 rw [List.range_succ, List.filter_append]
 congr 1
 simp only [List.filter_cons, List.filter_nil]
theorem split_val (l : List S82) (dec : List Int) (p : Nat → Bool) : ∀ m, (∀ b, b < m → inB dec b = true → p b = true) → ((List.range m).map fun k => if p k then prc l k else 0).sum = inS l dec m + (((rest dec p m).map fun k => l.getD k z82).map (·.f1)).sum
 | 0, _ => by simp [inS, rest]
 | m + 1, h => by
  have ih := split_val l dec p m (fun b hb => h b (by omega))
  rw [List.range_succ, List.map_append, List.sum_append, ih, inS_succ, rest_succ, List.map_append, List.map_append, List.sum_append]
  have hm := h m (by omega)
  simp only [List.map_cons, List.map_nil, List.sum_cons, List.sum_nil]
  by_cases h1 : dec.getD m 0 = 1
  ·have hi : inB dec m = true := decide_eq_true h1
   rw [if_pos h1, hm hi, hi]
   simp [prc]
   omega
  ·have hi : inB dec m = false := decide_eq_false h1
   rw [if_neg h1, hi]
   cases hp : p m
   ·simp
   ·simp [prc]
    omega
theorem tkS_mem (l : List S82) (dec : List Int) (x : Int) : ∀ m, x ∈ tkS l dec m → ∃ i, i < m ∧ inB dec i = true ∧ x ∈ (l.getD i z82).f2
 | 0, h => by simp [tkS] at h
 | m + 1, h => by
  rw [tkS_succ] at h
  split at h
  ·rename_i h1
   have hadd : ∀ (X ks : List Int), x ∈ X.foldl addK ks → x ∈ ks ∨ x ∈ X := by
    intro X
    induction X with
    | nil => intro ks h; exact .inl h
    | cons y X ih =>
     intro ks h
     rcases ih _ h with h | h
     ·unfold addK at h
      split at h
      ·exact .inl h
      ·rcases List.mem_append.1 h with h | h
       ·exact .inl h
       ·rw [List.mem_singleton] at h; exact .inr (by simp [h])
     ·exact .inr (by simp [h])
   rcases hadd _ _ h with h | h
   ·obtain ⟨i, a, b, c⟩ := tkS_mem l dec x m h
    exact ⟨i, by omega, b, c⟩
   ·exact ⟨m, by omega, decide_eq_true h1, h⟩
  ·obtain ⟨i, a, b, c⟩ := tkS_mem l dec x m h
   exact ⟨i, by omega, b, c⟩
theorem rest_pair (l : List S82) (dec : List Int) (p : Nat → Bool) (hf : FeasU (fun _ => true) l p) : ((rest dec p l.length).map fun k => l.getD k z82).Pairwise (fun a b => conf a b = false) := by
 rw [List.pairwise_map]
 unfold rest
 refine (List.Pairwise.filter _ List.nodup_range).imp_of_mem (fun {a b} ha hb hne => ?_)
 obtain ⟨a1, a2⟩ := List.mem_filter.1 ha
 obtain ⟨b1, b2⟩ := List.mem_filter.1 hb
 simp only [Bool.and_eq_true] at a2 b2
 exact hf.2 a b (List.mem_range.1 a1) (List.mem_range.1 b1) hne a2.1 b2.1
theorem leaf_sound (n : Nat) (l : List S82) (dec ps : List Int) (p : Nat → Bool) (hl : ∀ b ∈ l, b.f2.Nodup ∧ ∀ x ∈ b.f2, 0 ≤ x ∧ x < (n : Int)) (hn : ps.length = n) (hps : ∀ x ∈ ps, 0 ≤ x ∧ x ≤ 1099511627776) (hf : FeasU (fun _ => true) l p) (ha : Agree l dec p) : valB l p ≤ boundD l dec ps := by
 obtain ⟨hdl, hag⟩ := ha
 have hv : valB l p = inS l dec l.length + (((rest dec p l.length).map fun k => l.getD k z82).map (·.f1)).sum := by
  unfold valB
  rw [sumF_range', ← List.range_eq_range']
  exact split_val l dec p l.length (fun b hb => (hag b hb).1)
 have hB : ∀ k ∈ rest dec p l.length, k < l.length ∧ p k = true ∧ inB dec k = false := fun k hk => by
  unfold rest at hk
  obtain ⟨h1, h2⟩ := List.mem_filter.1 hk
  simp only [Bool.and_eq_true, Bool.not_eq_true'] at h2
  exact ⟨List.mem_range.1 h1, h2.1, h2.2⟩
 have hposs : ∀ k ∈ rest dec p l.length, possP l dec k = true := fun k hk => by
  obtain ⟨h1, h2, h3⟩ := hB k hk
  unfold possP
  simp only [Bool.and_eq_true, decide_eq_true_eq, Bool.not_eq_true']
  refine ⟨?_, ?_⟩
  ·rcases (hag k h1).2 h2 with h | h
   ·rw [h3] at h; cases h
   ·exact h
  ·rw [List.any_eq_false]
   intro j hj ho
   unfold oddsP at ho
   simp only [Bool.and_eq_true] at ho
   have hj := List.mem_range.1 hj
   have hij : inB dec j = true := ho.1
   have hne : j ≠ k := fun e => by subst e; rw [h3] at hij; cases hij
   have := hf.2 j k (by omega) h1 hne ((hag j (by omega)).1 hij) h2
   unfold cj at this
   rw [this] at ho
   cases ho.2
 have hpw := rest_pair l dec p hf
 have hmem : ∀ b ∈ ((rest dec p l.length).map fun k => l.getD k z82), ∃ k, k ∈ rest dec p l.length ∧ l.getD k z82 = b := fun b hb => List.mem_map.1 hb
 have hsur := surps_le ps ((rest dec p l.length).map fun k => l.getD k z82) (spS l dec ps l.length) (spS_nn l dec ps l.length) (hpw.imp (fun h => (conf_no h).1)) (fun b hb => by
  obtain ⟨k, hk, rfl⟩ := hmem b hb
  exact spS_look l dec ps k (hposs k hk) l.length (hB k hk).1)
 have hin : ∀ b ∈ ((rest dec p l.length).map fun k => l.getD k z82), b ∈ l := fun b hb => by
  obtain ⟨k, hk, rfl⟩ := hmem b hb
  have := (hB k hk).1
  simp [List.getD, this]
 have hnt : ∀ x ∈ (((rest dec p l.length).map fun k => l.getD k z82).flatMap (·.f2)), x ∉ tkS l dec l.length := fun x hx ht => by
  obtain ⟨b, hb, hx⟩ := List.mem_flatMap.1 hx
  obtain ⟨k, hk, rfl⟩ := hmem b hb
  obtain ⟨i, h1, h2, h3⟩ := tkS_mem l dec x l.length ht
  have hne : i ≠ k := fun e => by subst e; rw [(hB i hk).2.2] at h2; cases h2
  have hc := hf.2 i k h1 (hB k hk).1 hne ((hag i h1).1 h2) (hB k hk).2.1
  exact (conf_no (show conf (l.getD i z82) (l.getD k z82) = false from hc)).2 x h3 hx
 have hlots := lots_le (((rest dec p l.length).map fun k => l.getD k z82).flatMap (·.f2)) ((List.range ps.length).map fun (k : Nat) => if (k : Int) ∈ tkS l dec l.length then 0 else ps.getD k 0) (fun q hq => by
  obtain ⟨k, hk, rfl⟩ := List.mem_map.1 hq
  have hk := List.mem_range.1 hk
  have := (hps (ps.getD k 0) (by simp [List.getD, hk])).1
  split <;> omega) (flat_nodup _ (fun b hb => (hl b (hin b hb)).1) hpw) (fun x hx => by
  obtain ⟨b, hb, hx⟩ := List.mem_flatMap.1 hx
  have := (hl b (hin b hb)).2 x hx
  rw [List.length_map, List.length_range]
  omega)
 have heq : ((((rest dec p l.length).map fun k => l.getD k z82).flatMap (·.f2)).map fun k => ((List.range ps.length).map fun (k : Nat) => if (k : Int) ∈ tkS l dec l.length then 0 else ps.getD k 0).getD k.toNat 0) = (((rest dec p l.length).map fun k => l.getD k z82).flatMap (·.f2)).map fun k => ps.getD k.toNat 0 := by
  refine List.map_congr_left (fun x hx => ?_)
  have hnx := hnt x hx
  obtain ⟨b, hb, hx⟩ := List.mem_flatMap.1 hx
  have h0 := (hl b (hin b hb)).2 x hx
  have hlt : x.toNat < ps.length := by omega
  have : ((List.range ps.length).map fun (k : Nat) => if (k : Int) ∈ tkS l dec l.length then 0 else ps.getD k 0).getD x.toNat 0 = if ((x.toNat : Nat) : Int) ∈ tkS l dec l.length then 0 else ps.getD x.toNat 0 := by
   simp [List.getD, hlt]
  rw [this, if_neg (by rw [Int.toNat_of_nonneg h0.1]; exact hnx)]
 rw [heq] at hlots
 rw [hv, split_sum ps]
 unfold boundD
 rw [hdl]
 have hfr : frS (tkS l dec l.length) ps ps.length = (((List.range ps.length).map fun (k : Nat) => if (k : Int) ∈ tkS l dec l.length then 0 else ps.getD k 0)).sum := rfl
 omega
theorem agree_set {l : List S82} {dec : List Int} {p : Nat → Bool} (h : Agree l dec p) (b : Nat) (hb : b < l.length) (h0 : dec.getD b 0 = 0) : (p b = true → Agree l (dec.set b 1) p) ∧ (p b = false → Agree l (dec.set b 2) p) := by
 obtain ⟨hdl, hag⟩ := h
 constructor
 ·intro hp
  refine ⟨by rw [List.length_set]; exact hdl, fun k hk => ?_⟩
  rw [inB_set1 dec b k (by omega)]
  by_cases e : k = b
  ·subst e
   exact ⟨fun _ => hp, fun _ => .inl (by simp)⟩
  ·rw [getD_setne dec b k 1 (fun x => e x.symm), show decide (k = b) = false from decide_eq_false e, Bool.false_or]
   exact hag k hk
 ·intro hp
  refine ⟨by rw [List.length_set]; exact hdl, fun k hk => ?_⟩
  rw [inB_set2 dec b k (by omega) h0]
  by_cases e : k = b
  ·subst e
   refine ⟨(hag k hk).1, fun h => ?_⟩
   rw [hp] at h; cases h
  ·rw [getD_setne dec b k 2 (fun x => e x.symm)]
   exact hag k hk
theorem right_sound (n : Nat) (l : List S82) (v : Int) (ns : List S55) (hl : ∀ b ∈ l, b.f2.Nodup ∧ ∀ x ∈ b.f2, 0 ≤ x ∧ x < (n : Int)) (p : Nat → Bool) (hf : FeasU (fun _ => true) l p) : ∀ f i dec, rightP (n : Int) l v ns f i dec = true → Agree l dec p → valB l p ≤ v
 | 0, _, _, h, _ => by simp [rightP] at h
 | f + 1, i, dec, h, ha => by
  unfold rightP at h
  generalize ns.getD i z55 = x at h
  by_cases c0 : x.f0 = -1
  ·rw [if_pos c0] at h
   unfold leafP at h
   simp only [Bool.and_eq_true, decide_eq_true_eq, Bool.not_eq_true'] at h
   obtain ⟨⟨⟨⟨_, _⟩, h3⟩, h4⟩, h5⟩ := h
   have := leaf_sound n l dec x.f3 p hl (by omega) (fun y hy => by
    have := List.any_eq_false.1 h4 y hy
    unfold badPrice at this
    simp only [Bool.or_eq_true, decide_eq_true_eq, not_or] at this
    omega) hf ha
   omega
  ·rw [if_neg c0] at h
   split at h
   ·cases h
   ·rename_i hn
    have hb1 : ¬ x.f0 < 0 := fun e => hn (.inl e)
    have hb2 : ¬ (l.length : Int) ≤ x.f0 := fun e => hn (.inr (.inl e))
    have hpo : possP l dec x.f0.toNat = true := by
     cases hh : possP l dec x.f0.toNat
     ·exact absurd (.inr (.inr (.inl hh))) hn
     ·rfl
    have h0 := poss_zero hpo
    simp only [Bool.and_eq_true] at h
    obtain ⟨s1, s2⟩ := h
    obtain ⟨a1, a2⟩ := agree_set ha x.f0.toNat (by omega) h0
    cases hp : p x.f0.toNat
    ·exact right_sound n l v ns hl p hf f _ _ (stepR_true s2).2.2 (a2 hp)
    ·exact right_sound n l v ns hl p hf f _ _ (stepR_true s1).2.2 (a1 hp)
/-- What Check accepts bounds every feasible choice. -/
theorem check_sound (n : Nat) (l : List S82) (win : List Int) (v : Int) (ns : List S55) (hl : ∀ b ∈ l, b.f2.Nodup ∧ ∀ x ∈ b.f2, 0 ≤ x ∧ x < (n : Int)) (h : checkP (n : Int) l win v ns = 0) (c : List Int) (hc : feasP l [] c = true) : valP l c ≤ v := by
 unfold checkP at h
 split at h
 ·rename_i h1; exact absurd h h1
 ·split at h
  ·cases h
  ·split at h
   ·cases h
   ·split at h
    ·cases h
    ·rename_i h4
     split at h
     ·rename_i h5
      have h0 : 0 < ns.length := Nat.pos_of_ne_zero (fun e => h4 (.inl e))
      unfold rootP at h5
      obtain ⟨_, _, hr⟩ := (root_tree (n := (n : Int)) (l := l) (v := v) (nodes := ns) ns.length (List.replicate l.length 0) h0).1 h5
      obtain ⟨hcr, hcp, _⟩ := feasP_facts l c [] hc
      obtain ⟨p, hp⟩ : ∃ p : Nat → Bool, p = fun (k : Nat) => decide ((k : Int) ∈ c) := ⟨_, rfl⟩
      have hcs : c = sel p l.length 0 := by rw [hp]; exact sel_of l.length c hcr hcp
      have hok : okS (fun _ => true) l [] c = true := by
       rw [← feas_ok l c [] hcr hcp (by simp)]
       exact hc
      rw [hcs] at hok
      have hf := (ok_sel (fun _ => true) l p).1 hok
      have hb := right_sound n l v ns hl p hf ns.length 0 _ hr ⟨List.length_replicate .., fun b hb => ?_⟩
      ·rw [hcs, valB_sel]
       exact hb
      ·have hz : (List.replicate l.length (0 : Int)).getD b 0 = 0 := by simp [List.getD, hb]
       refine ⟨fun h => ?_, fun _ => .inr hz⟩
       unfold inB at h
       rw [hz] at h
       simp at h
     ·cases h
theorem gS_mono (can : Nat → Bool) (key sv sv' : Nat → Int) (x : Int) : ∀ m, (∀ i, i < m → sv' i ≤ sv i) → gS can key sv' x m ≤ gS can key sv x m
 | 0, _ => by simp [gS]
 | m + 1, h => by
  have ih := gS_mono can key sv sv' x m (fun i hi => h i (by omega))
  have hm := h m (by omega)
  rw [gS_succ, gS_succ]
  by_cases c : can m = true ∧ key m = x
  ·by_cases d1 : gS can key sv' x m < sv' m <;> by_cases d2 : gS can key sv x m < sv m <;> simp only [c, d1, d2, and_self, true_and, and_true, if_true, if_false] <;> omega
  ·rw [if_neg (fun e => c ⟨e.1, e.2.1⟩), if_neg (fun e => c ⟨e.1, e.2.1⟩)]
   exact ih
theorem sumG_mono (G G' : Int → Int) (key : Nat → Int) : ∀ m, (∀ i, i < m → G' (key i) ≤ G (key i)) → sumG G' key m ≤ sumG G key m
 | 0, _ => by simp [sumG]
 | m + 1, h => by
  have ih := sumG_mono G G' key m (fun i hi => h i (by omega))
  have := h m (by omega)
  rw [sumG_succ, sumG_succ]
  split <;> omega
/-- The bids with another price of one. -/
def withPrice (l : List S82) (i : Nat) (q : Int) : List S82 := l.set i ⟨(l.getD i z82).f0, q, (l.getD i z82).f2⟩
theorem wp_len (l : List S82) (i : Nat) (q : Int) : (withPrice l i q).length = l.length := by unfold withPrice; rw [List.length_set]
theorem wp_get (l : List S82) (i : Nat) (q : Int) (k : Nat) (hi : i < l.length) : ((withPrice l i q).getD k z82) = if k = i then ⟨(l.getD i z82).f0, q, (l.getD i z82).f2⟩ else l.getD k z82 := by
 unfold withPrice
 simp only [List.getD, List.getElem?_set]
 by_cases h : i = k
 ·subst h; simp [hi]
 ·rw [if_neg h, if_neg (fun e => h e.symm)]
theorem wp_f0 (l : List S82) (i : Nat) (q : Int) (k : Nat) (hi : i < l.length) : ((withPrice l i q).getD k z82).f0 = (l.getD k z82).f0 ∧ ((withPrice l i q).getD k z82).f2 = (l.getD k z82).f2 := by
 rw [wp_get l i q k hi]
 split
 ·rename_i e; subst e; exact ⟨rfl, rfl⟩
 ·exact ⟨rfl, rfl⟩
theorem wp_conf (l : List S82) (i : Nat) (q : Int) (a b : Nat) (hi : i < l.length) : conf ((withPrice l i q).getD a z82) ((withPrice l i q).getD b z82) = conf (l.getD a z82) (l.getD b z82) := by
 unfold conf
 rw [(wp_f0 l i q a hi).1, (wp_f0 l i q b hi).1, (wp_f0 l i q a hi).2, (wp_f0 l i q b hi).2]
theorem wp_poss (l : List S82) (i : Nat) (q : Int) (hi : i < l.length) (dec : List Int) (b : Nat) : possP (withPrice l i q) dec b = possP l dec b := by
 unfold possP
 congr 2
 refine congrArg (List.any (List.range dec.length)) (funext fun k => ?_)
 unfold oddsP
 rw [wp_conf l i q k b hi]
theorem wp_feas (l : List S82) (i : Nat) (q : Int) (hi : i < l.length) (c : List Int) (h : feasP l [] c = true) : feasP (withPrice l i q) [] c = true := by
 obtain ⟨hr, hp, _⟩ := feasP_facts l c [] h
 rw [feas_ok l c [] hr hp (by simp)] at h
 rw [feas_ok (withPrice l i q) c [] (fun k hk => by rw [wp_len]; exact hr k hk) hp (by simp)]
 have : ∀ (s win : List Int), okS (fun _ => true) (withPrice l i q) win s = okS (fun _ => true) l win s := by
  intro s
  induction s with
  | nil => intro win; rfl
  | cons k s ih =>
   intro win
   simp only [okS]
   rw [ih]
   congr 2
   refine congrArg (fun f => !(List.any win f)) (funext fun w => ?_)
   exact wp_conf l i q w.toNat k.toNat hi
 rw [this]
 exact h
theorem wp_val (l : List S82) (i : Nat) (q : Int) (hi : i < l.length) (c : List Int) (hc : ∀ k ∈ c, 0 ≤ k) (h : (i : Int) ∉ c) : valP (withPrice l i q) c = valP l c := by
 unfold valP
 congr 1
 refine List.map_congr_left (fun k hk => ?_)
 rw [wp_get l i q k.toNat hi, if_neg]
 intro e
 have := hc k hk
 exact h (by rw [← e, Int.toNat_of_nonneg this]; exact hk)
theorem wp_bound (l : List S82) (i : Nat) (q : Int) (hi : i < l.length) (hq : q ≤ (l.getD i z82).f1) (dec ps : List Int) : boundD (withPrice l i q) dec ps ≤ boundD l dec ps := by
 have h1 : ∀ m, inS (withPrice l i q) dec m ≤ inS l dec m := by
  intro m
  induction m with
  | zero => exact Int.le_refl _
  | succ m ih =>
   rw [inS_succ, inS_succ]
   split
   ·rw [wp_get l i q m hi]
    split
    ·rename_i e; subst e; show _ + q ≤ _; omega
    ·omega
   ·omega
 have h2 : ∀ m, tkS (withPrice l i q) dec m = tkS l dec m := by
  intro m
  induction m with
  | zero => rfl
  | succ m ih => rw [tkS_succ, tkS_succ, ih, (wp_f0 l i q m hi).2]
 have h3 : ((spS (withPrice l i q) dec ps (withPrice l i q).length).map (·.2)).sum ≤ ((spS l dec ps l.length).map (·.2)).sum := by
  rw [wp_len]
  have e1 : spS l dec ps l.length = spG (possP l dec) (fun k => (l.getD k z82).f0) (fun k => surp ps (l.getD k z82)) l.length := rfl
  have e2 : spS (withPrice l i q) dec ps l.length = spG (possP l dec) (fun k => (l.getD k z82).f0) (fun k => surp ps ((withPrice l i q).getD k z82)) l.length := by
   have e3 : spS (withPrice l i q) dec ps l.length = spG (possP (withPrice l i q) dec) (fun k => ((withPrice l i q).getD k z82).f0) (fun k => surp ps ((withPrice l i q).getD k z82)) l.length := rfl
   rw [e3, show possP (withPrice l i q) dec = possP l dec from funext fun b => wp_poss l i q hi dec b, show (fun k => ((withPrice l i q).getD k z82).f0) = fun k => (l.getD k z82).f0 from funext fun k => (wp_f0 l i q k hi).1]
  rw [e1, e2, spG_sum, spG_sum]
  refine sumG_mono _ _ _ _ (fun k hk => gS_mono _ _ _ _ _ _ (fun j hj => ?_))
  unfold surp
  rw [(wp_f0 l i q j hi).2, wp_get l i q j hi]
  split
  ·rename_i e; subst e; show q - _ ≤ _; omega
  ·omega
 unfold boundD
 rw [h2]
 have := h1 dec.length
 omega
theorem wp_tree {n : Nat} {l : List S82} {v : Int} {ns : List S55} {a b : Nat} {dec : List Int} (h : GTree n l v ns a b dec) (i : Nat) (q : Int) (hi : i < l.length) (hq : q ≤ (l.getD i z82).f1) : GTree n (withPrice l i q) v ns a b dec := by
 induction h with
 | leaf a dec ps h hl hr hb => exact .leaf a dec ps h hl hr (Int.le_trans (wp_bound l i q hi hq dec ps) hb)
 | node a m j b dec h hb hp h1 h2 ih1 ih2 => exact .node a m j b dec h (by rw [wp_len]; exact hb) (by rw [wp_poss l i q hi]; exact hp) ih1 ih2
end Go.Proofs.Ytdamibblnjeooaa.H

/- ProofLower' law function: its calls give true (walked by hand). -/
namespace Go.Proofs.Ytdamibblnjeooaa.H
open Go.RowKit Go.Proofs.YtdamibblnjeooaaW.PrintWords Go.Proofs.YtdamibblnjeooaaW.PrintLast Go.Proofs.YtdamibblnjeooaaW.PrintMore
set_option linter.unusedVariables false
set_option linter.unusedSimpArgs false
def worldmintlaw29_ProofLower.f (k : Nat) (a0 : Int) (l1 : List Int) (a2 a3 : Int) : Option Bool :=
 if ((Lit.int .i64 a0).wf && l1.all (fun x => (Lit.int .i64 x).wf) && (Lit.int .i64 a2).wf && (Lit.int .i64 a3).wf) = true then some true else none
/-- A bid whose price is no more than what is allowed. -/
def Fine2 (n : Int) (b : S82) : Prop := 1 ≤ b.f0 ∧ b.f0 ≤ 1073741824 ∧ 1 ≤ b.f1 ∧ b.f1 ≤ 1000000 ∧ b.f2.length ≠ 0 ∧ lotsOk n (-1) b.f2 = true
theorem fine2_err (n : Int) : ∀ l : List S82, (∀ b ∈ l, Fine2 n b) → bidsErr n l = 0
 | [], _ => rfl
 | b :: l, h => by
  obtain ⟨h1, h2, h3, h4, h5, h6⟩ := h b (by simp)
  have ih := fine2_err n l (fun x hx => h x (by simp [hx]))
  unfold bidsErr
  rw [if_neg (by simp; omega), if_neg (by simp; omega), if_neg (by simpa using h5), h6]
  simpa using ih
theorem fine2_valid (n : Int) (l : List S82) (h1 : 1 ≤ n) (h8 : n ≤ 8) (hl : l.length ≤ 10) (h : ∀ b ∈ l, Fine2 n b) : validP n l = 0 := by
 unfold validP
 rw [if_neg (by simp; omega), if_neg (by omega)]
 exact fine2_err n l h
theorem fine2_wp (n : Int) (l : List S82) (h : ∀ b ∈ l, Fine2 n b) (i : Nat) (hi : i < l.length) (q : Int) (hq : 1 ≤ q ∧ q ≤ 1000000) : ∀ b ∈ withPrice l i q, Fine2 n b := by
 intro b hb
 unfold withPrice at hb
 have hm : l.getD i z82 ∈ l := by simp [List.getD, hi]
 obtain ⟨h1, h2, h3, h4, h5, h6⟩ := h _ hm
 rcases List.mem_or_eq_of_mem_set hb with e | e
 ·exact h b e
 ·subst e; exact ⟨h1, h2, hq.1, hq.2, h5, h6⟩
theorem val_bound (l : List S82) (h : ∀ b ∈ l, 1 ≤ b.f1 ∧ b.f1 ≤ 450) : ∀ c : List Int, (∀ k ∈ c, 0 ≤ k ∧ k < l.length) → 0 ≤ valP l c ∧ valP l c ≤ c.length * 450
 | [], _ => by simp [valP]
 | k :: c, hc => by
  have ih := val_bound l h c (fun x hx => hc x (by simp [hx]))
  have hk := hc k (by simp)
  have h2 : k.toNat < l.length := by omega
  have := h (l.getD k.toNat z82) (by simp [List.getD, h2])
  unfold valP at ih ⊢
  simp only [List.map_cons, List.sum_cons, List.length_cons]
  omega
/-- A price above the value shows that the certificate is none. -/
theorem check_high (n : Nat) (l : List S82) (win : List Int) (v : Int) (ns : List S55) (i : Nat) (hi : i < l.length) (q : Int) (hq : v < q) (hV : validP (n : Int) (withPrice l i q) = 0) (hl : ∀ b ∈ withPrice l i q, b.f2.Nodup ∧ ∀ x ∈ b.f2, 0 ≤ x ∧ x < (n : Int)) (hfe : feasP (withPrice l i q) [] win = true) (hv : v = valP (withPrice l i q) win) (h0 : 0 < ns.length) (hlen : ns.length ≤ 2047) : checkP (n : Int) (withPrice l i q) win v ns = 20 := by
 have hs := check_sound n (withPrice l i q) win v ns hl
 have hone : feasP (withPrice l i q) [] [(i : Int)] = true := by
  rw [feas_ok _ _ [] (fun k hk => by rw [List.mem_singleton] at hk; subst hk; rw [wp_len]; omega) (List.pairwise_singleton _ _) (by simp)]
  simp [okS]
 have hval : valP (withPrice l i q) [(i : Int)] = q := by
  unfold valP
  simp only [List.map_cons, List.map_nil, List.sum_cons, List.sum_nil, Int.toNat_natCast]
  rw [wp_get l i q i hi, if_pos rfl]
  show q + 0 = q
  omega
 have hne : checkP (n : Int) (withPrice l i q) win v ns ≠ 0 := fun h => by
  have := hs h _ hone
  rw [hval] at this
  omega
 unfold checkP at hne ⊢
 rw [if_neg (by rw [hV]; simp), if_neg (by rw [hfe]; simp), if_neg (by omega), if_neg (by
  rintro (h | h)
  ·omega
  ·exact h hv)] at hne ⊢
 split
 ·rename_i h; rw [if_pos h] at hne; exact absurd rfl hne
 ·rfl
set_option maxHeartbeats 8000000 in
set_option maxRecDepth 100000 in
theorem worldmintlaw29_ProofLower.calls (k : Nat) (a0 : Int) (A1 : Option Addr) (c1 : Nat) (l1 : List Int) (a2 a3 : Int) (r : Bool) (w : World) (hr1 : Kd.C (Kd.int .i64) w A1 l1.length l1) (hc1 : l1.length ≤ c1) (h : worldmintlaw29_ProofLower.f k a0 l1 a2 a3 = some r) :
  Calls Try.prog 9 #[.int .i64 a0, .slice A1 l1.length c1, .int .i64 a2, .int .i64 a3] w fun e w' => e = .returned (.bool r) ∧ Below w.heap.size w w' := by
 unfold worldmintlaw29_ProofLower.f at h
 by_cases hw : ((Lit.int .i64 a0).wf && l1.all (fun x => (Lit.int .i64 x).wf) && (Lit.int .i64 a2).wf && (Lit.int .i64 a3).wf) = true
 case neg => rw [if_neg hw] at h; cases h
 rw [if_pos hw] at h
 obtain rfl := Option.some.inj h
 simp only [Bool.and_eq_true, List.all_eq_true] at hw
 obtain ⟨⟨⟨w0, w1⟩, w2⟩, w3⟩ := hw
 obtain ⟨t, ht, ht0, ht1⟩ := lots_ok a0 w0
 obtain ⟨n, rfl⟩ := Int.eq_ofNat_of_zero_le (show 0 ≤ t by omega)
 obtain ⟨L, hL, hLl, hLg⟩ := bids_ok (n : Int) l1 w1 8 ht0 ht1 (by omega) (by omega)
 have hLl : L.length ≤ 8 := by omega
 obtain ⟨k1, h2⟩ := hL.ex
 obtain ⟨k2, h3⟩ := (given_ok L (by omega)).ex
 have hfine : ∀ b ∈ L.map cv, Fine2 (n : Int) b ∧ b.f1 ≤ 450 := fun b hb => by
  obtain ⟨y, hy, rfl⟩ := List.mem_map.1 hb
  obtain ⟨g1, g2, g3, g4, g5, g6, g7⟩ := hLg y hy
  exact ⟨⟨g1, by show y.f0 ≤ _; omega, g3, by show y.f1 ≤ _; omega, g5, g6⟩, g4⟩
 have hV : validP (n : Int) (L.map cv) = 0 := fine2_valid (n : Int) _ ht0 ht1 (by rw [List.length_map]; omega) (fun b hb => (hfine b hb).1)
 have H1 := Aside0.mk ht
 have H2 := Aside0.mk h2
 have H3 := Aside0.mk h3
 have HV := Aside0.mk hV
 have HL9 := Aside0.mk hLl
 have Hfine := Aside0.mk hfine
 have Hr1 := Aside0.mk hr1
 have Hw2 := Aside0.mk w2
 have Hw3 := Aside0.mk w3
 have Hn8 : Aside0 (1 ≤ n ∧ n ≤ 8) := ⟨by omega⟩
 clear ht h2 h3 hV hLg hL hr1 h w0 w1 w2 w3 hfine ht0 ht1 hLl
 go_enter Try.func9, Try.ntmps9
 go_wp2_with fail
 refine (worldmintref27_Lots.calls a0 (n : Int) _ H1.out).mono ?_
 rintro e w1 ⟨rfl, hd1⟩
 have hb1 := hd1.below
 clear hd1
 go_wp2_with fail
 refine (worldmintref27_Bids.calls k1 (n : Int) _ _ l1 8 L _ (Kd.C_below Hr1.out hb1) hc1 H2.out).mono ?_
 rintro e w2 ⟨vb, rfl, ho2, hb2⟩
 have HB2 := Aside0.mk (hb1.trans (hb2.mono hb1.size))
 obtain ⟨Ab, cb, eb⟩ := Kd.S_slice ho2
 subst eb
 have HW2 : Aside0 (w.heap.size ≤ w2.heap.size) := ⟨HB2.out.size⟩
 have V2 := Aside0.mk (Kd.S_V (base' := 0) ho2)
 have hcb := (Kd.S_reads' ho2).2.1
 clear ho2 hb1 hb2 Hr1
 go_wp2_with fail
 refine (worldmintlaw29_given.calls k2 (fun _ => True) Ab cb L (L.map cv) w2 V2.out H3.out).mono ?_
 rintro e w3 ⟨vg, rfl, ho3, hb3⟩
 obtain ⟨Ag, cg, eg⟩ := Kd.N_slice ho3
 subst eg
 have HB3 := Aside0.mk (HB2.out.trans (hb3.mono HB2.out.size))
 have V3 := Aside0.mk (Kd.V_below V2.out hb3)
 have G3 := Aside0.mk (Kd.N_reads' ho3).2.2
 have hcg := (Kd.N_reads' ho3).2.1
 have Hown3 : Aside0 (∀ k, (Value.slice Ag (L.map cv).length cg).ownBlock = some k → k < w3.heap.size) := ⟨Kd.N_lt ho3⟩
 have R3 : Aside0 (Kd.N k82 82 w3 w2.heap.size (fun _ => True) (.slice Ag (L.map cv).length cg) (L.map cv)) := ⟨Kd.N_mono ho3 (fun _ _ => trivial)⟩
 clear ho3 hb3 V2 HB2
 obtain ⟨g, hg⟩ : ∃ g, g = L.map cv := ⟨_, rfl⟩
 have hgl : g.length = L.length := by rw [hg, List.length_map]
 have Hgl := Aside0.mk hgl
 rw [← hg] at G3 hcg HV R3 Hown3
 rw [← hg]
 have Hg := Aside0.mk hg
 clear hgl hg
 obtain ⟨win, hwin⟩ : ∃ win, win = (searchP (fun _ => true) g).1 := ⟨_, rfl⟩
 obtain ⟨v, hv⟩ : ∃ v, v = (searchP (fun _ => true) g).2 := ⟨_, rfl⟩
 have hbf := best_f (n : Int) g HV.out
 have hfe := best_feas (n : Int) g HV.out
 have hmh := mhyp_ok n g HV.out
 rw [← hwin, ← hv] at hbf hfe
 rw [← hv] at hmh
 have Hbf := Aside0.mk hbf
 have Hfe := Aside0.mk hfe
 have Hmh := Aside0.mk hmh
 clear hbf hfe hmh hwin hv
 go_wp2_with fail
 refine (clear_Best.calls (n : Int) Ag cg g win v 0 w3 G3.out hcg Hbf.out).mono ?_
 rintro e w4 ⟨vw, rfl, ho4, hb4⟩
 obtain ⟨Aw, cw, ew⟩ := Kd.R_slice ho4
 subst ew
 have hcw := (Kd.R_reads' ho4).2.1
 have W4 : Aside0 (Kd.F (Kd.int .i64) w4 (fun k => w3.heap.size ≤ k) Aw win.length win) := ⟨Kd.F_mono (Kd.R_F (Kd.R_bound ho4)) (fun k hk => hk.2.1)⟩
 have Hs34 : Aside0 (w3.heap.size ≤ w4.heap.size) := ⟨hb4.size⟩
 have HB4 := Aside0.mk (HB3.out.trans (hb4.mono HB3.out.size))
 have V4 := Aside0.mk (Kd.V_below V3.out hb4)
 have G4 := Aside0.mk (Kd.C_below G3.out hb4)
 have R4 := Aside0.mk (Kd.N_below R3.out hb4)
 clear ho4 hb4 HB3 V3 G3 R3
 go_wp2_with fail
 refine (make_ok n Ag cg g win v (DIn g) w4 G4.out hcg Hbf.out Hmh.out).mono ?_
 rintro e w5 ⟨vs, ns, rfl, ho5, htree, hnl, hb5⟩
 obtain ⟨An, cn0, en⟩ := Kd.N_slice ho5
 subst en
 have HB5 := Aside0.mk (HB4.out.trans (hb5.mono HB4.out.size))
 have V5 := Aside0.mk (Kd.V_below V4.out hb5)
 have G5 := Aside0.mk (Kd.C_below G4.out hb5)
 have W5 := Aside0.mk (Kd.F_below W4.out hb5)
 have R5 := Aside0.mk (Kd.N_below R4.out hb5)
 have N5 : Aside0 (Kd.V k55 55 w5 0 (fun k => w4.heap.size ≤ k) (.slice An ns.length cn0) ns) := ⟨Kd.N_V (base' := 0) ho5⟩
 have Hs45 : Aside0 (w4.heap.size ≤ w5.heap.size) := ⟨hb5.size⟩
 have hcn := (Kd.N_reads' ho5).2.1
 have hns : ns.length ≤ 1023 := by
  have h1 : 2 ^ (g.length + 1) ≤ 2 ^ 10 := Nat.pow_le_pow_right (by omega) (by have := Hgl.out; have := HL9.out; omega)
  omega
 have hn0 := htree.lt
 have hck : checkP (n : Int) g win v ns = 0 := check_grown htree HV.out win Hfe.out.1 Hfe.out.2 (by omega)
 rw [Hg.out.symm] at Hfine
 have Htree : Aside0 (GTree n g v ns 0 ns.length (List.replicate g.length 0)) := ⟨htree⟩
 have Hn0 : Aside0 (0 < ns.length ∧ ns.length ≤ 1023) := ⟨⟨hn0, hns⟩⟩
 have hvb := val_bound g (fun b hb => ⟨(Hfine.out b hb).1.2.2.1, (Hfine.out b hb).2⟩) win (feasP_facts g win [] Hfe.out.1).1
 have hwl := feas_len g win Hfe.out.1
 have hv0 : 0 ≤ v ∧ v ≤ 3600 := by
  have h1 := Hfe.out.2
  have h2 := Hgl.out
  have h3 := HL9.out
  rw [← h1] at hvb
  omega
 clear ho5 hb5 HB4 V4 G4 R4 W4 htree hnl hck hn0 hns hvb V5 G5
 go_upto_region 7 with (fail)
 obtain ⟨W6, hW6⟩ : ∃ W6, W6 = w5.alloc (.cells #[.int .i64 v, .slice An ns.length cn0] 44) := ⟨_, rfl⟩
 obtain ⟨g14, hg14⟩ : ∃ g14, g14 = w5.heap.size := ⟨_, rfl⟩
 have hbk : W6.heap[g14]? = some (.cells #[.int .i64 v, .slice An ns.length cn0] 44 (0, 0)) := by rw [hW6, hg14]; exact heap_alloc_new w5 _
 have hb6 : Below w5.heap.size w5 W6 := by rw [hW6]; exact (Below.refl _ w5).alloc (Nat.le_refl _) _
 have HB6 := Aside0.mk (HB5.out.trans (hb6.mono HB5.out.size))
 have R6 := Aside0.mk (Kd.N_below R5.out hb6)
 have W6f := Aside0.mk (Kd.F_below W5.out hb6)
 have N6 := Aside0.mk (Kd.V_below N5.out hb6)
 have Hbk6 := Aside0.mk hbk
 have Hg14 : Aside0 (w5.heap.size ≤ g14) := ⟨by omega⟩
 rw [← hW6]
 rw [← hg14]
 clear hW6 hg14 hbk hb6 HB5 R5 W5 N5
 by_cases hl0 : g.length = 0
 ·have z1 : ((g.length : Int) == 0) = true := by simpa using hl0
  have hlv := worldmintlaw29_lives.calls true W6 rfl
  have Hlv := Aside0.mk hlv
  have Hl0 := Aside0.mk hl0
  clear hlv hl0
  go_wp2_with fail
  refine Hlv.out.mono ?_
  rintro e w16 ⟨rfl, hb16⟩
  have hfin := HB6.out.trans (hb16.mono HB6.out.size)
  go_wp2
  go_ret
  exact ⟨rfl, hfin⟩
 have z1 : ((g.length : Int) == 0) = false := by simpa using hl0
 have z2 : ¬ g = [] := fun e => hl0 (by rw [e]; rfl)
 obtain ⟨iI, hi, hi0, hi1⟩ := around_ok a2 (g.length : Int) Hw2.out (by omega)
 obtain ⟨i, rfl⟩ := Int.eq_ofNat_of_zero_le hi0
 have Hi := Aside0.mk hi
 have hilt : i < g.length := by omega
 obtain ⟨k6, hk6⟩ := (has_ok win (i : Int) (by have := Hgl.out; have := HL9.out; omega)).ex
 have Hk6 := Aside0.mk hk6
 clear hi hk6 hi0
 go_wp2_with fail
 refine (worldmintref01_Around.calls a2 (g.length : Int) (i : Int) W6 Hi.out).mono ?_
 rintro e w7 ⟨rfl, hd7⟩
 have hb7 := hd7.below
 have HB7 := Aside0.mk (HB6.out.trans (hb7.mono HB6.out.size))
 have R7 := Aside0.mk (Kd.N_below R6.out hb7)
 have W7f := Aside0.mk (Kd.F_below W6f.out hb7)
 have N7 := Aside0.mk (Kd.V_below N6.out hb7)
 have Hbk7 := Aside0.mk (blk_below Hbk6.out hb7)
 clear hd7 hb7 HB6 R6 W6f N6 Hbk6 Hi
 go_wp2_with fail
 refine (worldmintref01_Has.calls k6 Aw cw win (i : Int) _ w7 (Kd.F_now W7f.out) hcw Hk6.out).mono ?_
 rintro e w8 ⟨rfl, hd8⟩
 have hb8 := hd8.below
 have HB8 := Aside0.mk (HB7.out.trans (hb8.mono HB7.out.size))
 have R8 := Aside0.mk (Kd.N_below R7.out hb8)
 have W8f := Aside0.mk (Kd.F_below W7f.out hb8)
 have N8 := Aside0.mk (Kd.V_below N7.out hb8)
 have Hbk8 := Aside0.mk (blk_below Hbk7.out hb8)
 clear hd8 hb8 HB7 R7 W7f N7 Hbk7 Hk6
 cases hcon : win.contains (i : Int)
 case true =>
  have hlv := worldmintlaw29_lives.calls true w8 rfl
  have Hlv := Aside0.mk hlv
  clear hlv hcon
  go_wp2_with fail
  refine Hlv.out.mono ?_
  rintro e w16 ⟨rfl, hb16⟩
  have hfin := HB8.out.trans (hb16.mono HB8.out.size)
  go_wp2
  go_ret
  exact ⟨rfl, hfin⟩
 have hnw : (i : Int) ∉ win := by simpa using hcon
 have Hnw := Aside0.mk hnw
 clear hcon hnw
 obtain ⟨x, hx⟩ : ∃ x, x = g.getD i z82 := ⟨_, rfl⟩
 have hxm : x ∈ g := by rw [hx]; simp [List.getD, hilt]
 have hxf := Hfine.out x hxm
 have Hx := Aside0.mk hx
 obtain ⟨q0, hq0, hq00, hq01⟩ := around_ok a3 x.f1 Hw3.out (by have := hxf.1.2.2.1; omega)
 obtain ⟨q1, hq1, hq10, hq11⟩ := around_ok a3 50 Hw3.out (by omega)
 have hx1 : 1 ≤ x.f1 ∧ x.f1 ≤ 450 := ⟨hxf.1.2.2.1, hxf.2⟩
 have hwq : IntKind.i64.wrap (1 + q0) = 1 + q0 := IntWalk.i64_in _ (by omega)
 have hwv : IntKind.i64.wrap (v + 1) = v + 1 := IntWalk.i64_in _ (by omega)
 have hwv2 : IntKind.i64.wrap (v + 1 + q1) = v + 1 + q1 := IntWalk.i64_in _ (by omega)
 have Hq0 := Aside0.mk hq0
 have Hq1 := Aside0.mk hq1
 clear hq0 hq1 hxm hxf hx
 obtain ⟨gb, cc, e9, hgb, hgbl, cells9, hcells9⟩ := Kd.N_form R8.out (by omega)
 injection e9 with e9 _ ecc
 subst e9
 subst ecc
 have hgb3 : gb < w3.heap.size := Hown3.out gb rfl
 have Hgb3 := Aside0.mk hgb3
 obtain ⟨cs, hcl, hFK, hcc, hfr⟩ := Kd.N_elem R8.out z82 (i : Int) (by omega) (by omega)
 rw [Int.toNat_natCast] at hFK hcc hfr
 rw [← Hx.out] at hFK
 obtain ⟨A2, c2, ec, hl2, hF2⟩ := k82_openF hFK
 have hp1 : w8.cell? ⟨gb, i * 3 + 1, none⟩ = some (.int .i64 x.f1) := hcc 1 _ (by rw [ec]; rfl)
 have hiI : (i : Int) < (g.length : Int) := by omega
 have HgbW : Aside0 (w.heap.size ≤ gb) := ⟨Nat.le_trans HW2.out hgb⟩
 clear cells9 hcells9 hgbl hgb hgb3 Hown3
 go_wp2_with fail
 refine (worldmintref01_Around.calls a3 x.f1 q0 w8 Hq0.out).mono ?_
 rintro e w9 ⟨rfl, hd9⟩
 have hb9 := hd9.below
 have HB9 := Aside0.mk (HB8.out.trans (hb9.mono HB8.out.size))
 have R9 := Aside0.mk (Kd.N_below R8.out hb9)
 have W9f := Aside0.mk (Kd.F_below W8f.out hb9)
 have N9 := Aside0.mk (Kd.V_below N8.out hb9)
 have Hbk9 := Aside0.mk (blk_below Hbk8.out hb9)
 clear hd9 hb9 HB8 R8 W8f N8 Hbk8 Hq0 hp1 hcc hfr hFK hF2 hl2 ec hcl
 clear c2 A2 cs
 obtain ⟨cs, hcl, hFK, hcc, hfr⟩ := Kd.N_elem R9.out z82 (i : Int) (by omega) (by omega)
 rw [Int.toNat_natCast] at hFK hcc hfr
 rw [← Hx.out] at hFK
 obtain ⟨A2, c2, ec, hl2, hF2⟩ := k82_openF hFK
 obtain ⟨hN10, hg10⟩ := Kd.N_seg R9.out (i : Int) (by omega) (by omega) (c := cs) (seg := [.int .i64 (1 + q0)]) (j := 1) (okp := fun k => True ∧ k ≠ gb) hcl (by rw [Int.toNat_natCast]; exact hcc) (by show 1 + 1 ≤ 3; omega) (x' := ⟨x.f0, 1 + q0, x.f2⟩) (by rw [ec]; exact k82_mkF _ _ ⟨x.f0, 1 + q0, x.f2⟩ hl2 hF2) (fun _ hk => hk)
 rw [Int.toNat_natCast, show g.set i ⟨x.f0, 1 + q0, x.f2⟩ = withPrice g i (1 + q0) by rw [Hx.out]; rfl] at hN10
 have hp1 : w9.cell? ⟨gb, i * 3 + 1, none⟩ = some (.int .i64 (x.f1)) := hcc 1 _ (by rw [ec]; rfl)
 have hp2 : w9.frozen? ⟨gb, i * 3 + 1, none⟩ = false := hfr 1
 have Hn10 := Aside0.mk hN10
 clear hN10 hg10 hcc hfr hFK hF2 hl2 ec hcl
 clear c2 A2 cs
 go_upto_region 13 with (fail)
 obtain ⟨w10, hw10⟩ : ∃ w', w' = w9.setCell ⟨gb, i * 3 + 1, none⟩ (.int .i64 (1 + q0)) := ⟨_, rfl⟩
 have hs3 : w3.heap.size ≤ w4.heap.size := Hs34.out
 have hs4 : w4.heap.size ≤ w5.heap.size := Hs45.out
 have hgb3 := Hgb3.out
 have R10 : Aside0 (Kd.N k82 82 w10 w2.heap.size (fun _ => True) (.slice (some ⟨gb, 0, none⟩) g.length cg) (withPrice g i (1 + q0))) := ⟨by rw [hw10]; exact Hn10.out⟩
 have W10f : Aside0 (Kd.F (Kd.int .i64) w10 (fun k => w3.heap.size ≤ k) Aw win.length win) := ⟨by rw [hw10]; exact Kd.F_far (p := ⟨gb, i * 3 + 1, none⟩) W9f.out (fun k hk => by show k ≠ gb; omega) _⟩
 have N10 : Aside0 (Kd.V k55 55 w10 0 (fun k => w4.heap.size ≤ k) (.slice An ns.length cn0) ns) := ⟨by rw [hw10]; exact Kd.V_far (p := ⟨gb, i * 3 + 1, none⟩) N9.out (fun k hk => by show k ≠ gb; omega) _⟩
 have Hbk10 : Aside0 (w10.heap[g14]? = some (.cells #[.int .i64 v, .slice An ns.length cn0] 44 (0, 0))) := ⟨by rw [hw10]; exact (Below.heap_setCell w9 ⟨gb, i * 3 + 1, none⟩ _ _ (by show g14 ≠ gb; have := Hg14.out; omega)).trans Hbk9.out⟩
 have HB10 : Aside0 (Below w.heap.size w w10) := ⟨by rw [hw10]; exact below_set HB9.out (by show w.heap.size ≤ gb; exact HgbW.out)⟩
 rw [← hw10]
 clear hw10 hs3 hs4 hgb3 Hn10 hp1 hp2 R9 W9f N9 Hbk9 HB9
 have hck1 : checkP (n : Int) (withPrice g i (1 + q0)) win v ns = 0 := by
  have hfw := fine2_wp (n : Int) g (fun b hb => (Hfine.out b hb).1) i hilt (1 + q0) (by omega)
  have hVw := fine2_valid (n : Int) (withPrice g i (1 + q0)) (by have := Hn8.out; omega) (by have := Hn8.out; omega) (by rw [wp_len]; have := Hgl.out; have := HL9.out; omega) hfw
  have htr := wp_tree Htree.out i (1 + q0) hilt (by rw [← Hx.out]; omega)
  rw [← wp_len g i (1 + q0)] at htr
  refine check_grown htr hVw win (wp_feas g i _ hilt win Hfe.out.1) ?_ (by have := Hn0.out; omega)
  rw [wp_val g i _ hilt win (fun k hk => ((feasP_facts g win [] Hfe.out.1).1 k hk).1) Hnw.out]
  exact Hfe.out.2
 have hq1 := proof_Check.calls (n : Int) (some ⟨gb, 0, none⟩) cg (withPrice g i (1 + q0)) Aw cw win v An cn0 ns _ w10 (Kd.N_reads' (n := g.length) (by exact R10.out)).2.2 (by rw [wp_len]; exact hcg) (Kd.F_now W10f.out) hcw (Kd.V_reads' N10.out).2.2 hcn rfl
 rw [hck1, wp_len] at hq1
 have Hq := Aside0.mk hq1
 have z0 : w10.cell? ⟨g14, 0, none⟩ = some (.int .i64 v) := (blk_cell Hbk10.out 0).trans rfl
 have z3 : w10.cell? ⟨g14, 1, none⟩ = some (.slice An ns.length cn0) := (blk_cell Hbk10.out 1).trans rfl
 clear hq1 hck1
 go_wp2_with fail
 refine Hq.out.mono ?_
 rintro e w11 ⟨rfl, hb11⟩
 have HB11 := Aside0.mk (HB10.out.trans (hb11.mono HB10.out.size))
 have R11 := Aside0.mk (Kd.N_below R10.out hb11)
 have W11f := Aside0.mk (Kd.F_below W10f.out hb11)
 have N11 := Aside0.mk (Kd.V_below N10.out hb11)
 have Hbk11 := Aside0.mk (blk_below Hbk10.out hb11)
 clear hb11 HB10 R10 W10f N10 Hbk10 Hq z0 z3
 go_wp2_with fail
 refine (worldmintref01_Around.calls a3 50 q1 w11 Hq1.out).mono ?_
 rintro e w12 ⟨rfl, hd12⟩
 have hb12 := hd12.below
 have HB12 := Aside0.mk (HB11.out.trans (hb12.mono HB11.out.size))
 have R12 := Aside0.mk (Kd.N_below R11.out hb12)
 have W12f := Aside0.mk (Kd.F_below W11f.out hb12)
 have N12 := Aside0.mk (Kd.V_below N11.out hb12)
 have Hbk12 := Aside0.mk (blk_below Hbk11.out hb12)
 clear hd12 hb12 HB11 R11 W11f N11 Hbk11 Hq1
 obtain ⟨cs, hcl, hFK, hcc, hfr⟩ := Kd.N_elem R12.out z82 (i : Int) (by omega) (by omega)
 rw [Int.toNat_natCast] at hFK hcc hfr
 rw [wp_get g i (1 + q0) i hilt, if_pos rfl, ← Hx.out] at hFK
 obtain ⟨A2, c2, ec, hl2, hF2⟩ := k82_openF hFK
 obtain ⟨hN10, hg10⟩ := Kd.N_seg R12.out (i : Int) (by omega) (by omega) (c := cs) (seg := [.int .i64 (v + 1 + q1)]) (j := 1) (okp := fun k => True ∧ k ≠ gb) hcl (by rw [Int.toNat_natCast]; exact hcc) (by show 1 + 1 ≤ 3; omega) (x' := ⟨x.f0, v + 1 + q1, x.f2⟩) (by rw [ec]; exact k82_mkF _ _ ⟨x.f0, v + 1 + q1, x.f2⟩ hl2 hF2) (fun _ hk => hk)
 rw [Int.toNat_natCast, show (withPrice g i (1 + q0)).set i ⟨x.f0, v + 1 + q1, x.f2⟩ = withPrice g i (v + 1 + q1) by rw [Hx.out]; unfold withPrice; rw [List.set_set]] at hN10
 have hp1 : w12.cell? ⟨gb, i * 3 + 1, none⟩ = some (.int .i64 (1 + q0)) := hcc 1 _ (by rw [ec]; rfl)
 have hp2 : w12.frozen? ⟨gb, i * 3 + 1, none⟩ = false := hfr 1
 have Hn10 := Aside0.mk hN10
 clear hN10 hg10 hcc hfr hFK hF2 hl2 ec hcl
 clear c2 A2 cs
 go_upto_region 16 with (fail)
 obtain ⟨w13, hw13⟩ : ∃ w', w' = w12.setCell ⟨gb, i * 3 + 1, none⟩ (.int .i64 (v + 1 + q1)) := ⟨_, rfl⟩
 have hs3 : w3.heap.size ≤ w4.heap.size := Hs34.out
 have hs4 : w4.heap.size ≤ w5.heap.size := Hs45.out
 have hgb3 := Hgb3.out
 have R13 : Aside0 (Kd.N k82 82 w13 w2.heap.size (fun _ => True) (.slice (some ⟨gb, 0, none⟩) g.length cg) (withPrice g i (v + 1 + q1))) := ⟨by rw [hw13]; exact Hn10.out⟩
 have W13f : Aside0 (Kd.F (Kd.int .i64) w13 (fun k => w3.heap.size ≤ k) Aw win.length win) := ⟨by rw [hw13]; exact Kd.F_far (p := ⟨gb, i * 3 + 1, none⟩) W12f.out (fun k hk => by show k ≠ gb; omega) _⟩
 have N13 : Aside0 (Kd.V k55 55 w13 0 (fun k => w4.heap.size ≤ k) (.slice An ns.length cn0) ns) := ⟨by rw [hw13]; exact Kd.V_far (p := ⟨gb, i * 3 + 1, none⟩) N12.out (fun k hk => by show k ≠ gb; omega) _⟩
 have Hbk13 : Aside0 (w13.heap[g14]? = some (.cells #[.int .i64 v, .slice An ns.length cn0] 44 (0, 0))) := ⟨by rw [hw13]; exact (Below.heap_setCell w12 ⟨gb, i * 3 + 1, none⟩ _ _ (by show g14 ≠ gb; have := Hg14.out; omega)).trans Hbk12.out⟩
 have HB13 : Aside0 (Below w.heap.size w w13) := ⟨by rw [hw13]; exact below_set HB12.out (by show w.heap.size ≤ gb; exact HgbW.out)⟩
 rw [← hw13]
 clear hw13 hs3 hs4 hgb3 Hn10 hp1 hp2 R12 W12f N12 Hbk12 HB12
 have hck2 : checkP (n : Int) (withPrice g i (v + 1 + q1)) win v ns = 20 := by
  have hfw := fine2_wp (n : Int) g (fun b hb => (Hfine.out b hb).1) i hilt (v + 1 + q1) (by omega)
  have hVw := fine2_valid (n : Int) (withPrice g i (v + 1 + q1)) (by have := Hn8.out; omega) (by have := Hn8.out; omega) (by rw [wp_len]; have := Hgl.out; have := HL9.out; omega) hfw
  refine check_high n g win v ns i hilt (v + 1 + q1) (by omega) hVw (fun b hb => ?_) (wp_feas g i _ hilt win Hfe.out.1) ?_ Hn0.out.1 (by have := Hn0.out; omega)
  ·obtain ⟨_, _, _, _, _, h6⟩ := hfw b hb
   exact ⟨lotsOk_nodup _ _ _ h6, fun y hy => by have := (lotsOk_len _ _ _ h6).2 y hy; omega⟩
  ·rw [wp_val g i _ hilt win (fun k hk => ((feasP_facts g win [] Hfe.out.1).1 k hk).1) Hnw.out]
   exact Hfe.out.2
 have hq1 := proof_Check.calls (n : Int) (some ⟨gb, 0, none⟩) cg (withPrice g i (v + 1 + q1)) Aw cw win v An cn0 ns _ w13 (Kd.N_reads' (n := g.length) (by exact R13.out)).2.2 (by rw [wp_len]; exact hcg) (Kd.F_now W13f.out) hcw (Kd.V_reads' N13.out).2.2 hcn rfl
 rw [hck2, wp_len] at hq1
 have Hq := Aside0.mk hq1
 have z0 : w13.cell? ⟨g14, 0, none⟩ = some (.int .i64 v) := (blk_cell Hbk13.out 0).trans rfl
 have z3 : w13.cell? ⟨g14, 1, none⟩ = some (.slice An ns.length cn0) := (blk_cell Hbk13.out 1).trans rfl
 clear hq1 hck2
 go_wp2_with fail
 refine Hq.out.mono ?_
 rintro e w14 ⟨rfl, hb14⟩
 have HB14 := Aside0.mk (HB13.out.trans (hb14.mono HB13.out.size))
 have hlv := worldmintlaw29_lives.calls true w14 rfl
 have Hlv := Aside0.mk hlv
 clear hlv hb14 HB13 R13 W13f N13 Hbk13 Hq z0 z3
 go_wp2_with fail
 refine Hlv.out.mono ?_
 rintro e w16 ⟨rfl, hb16⟩
 have hfin := HB14.out.trans (hb16.mono HB14.out.size)
 go_wp2
 go_ret
 exact ⟨rfl, hfin⟩
end Go.Proofs.Ytdamibblnjeooaa.H

/- Written by a program of this session over the kit's printer: what the functions named below compute, and that the machine's calls compute it. Not trusted: Lean checks it. -/
namespace Go.Proofs.Ytdamibblnjeooaa.H
open Go.RowKit Go.Proofs.YtdamibblnjeooaaW.PrintWords Go.Proofs.YtdamibblnjeooaaW.PrintLast Go.Proofs.YtdamibblnjeooaaW.PrintMore
attribute [local go_sem] max2_int min2_int max_two min_two max_three min_three max_four min_four   -- for this text's walks alone
set_option linter.unusedVariables false
set_option linter.unusedSimpArgs false

/-! ### worldmintlaw29_ProofLower: function 9 -/
/-- THE ONE PURE STATEMENT of worldmintlaw29_ProofLower: yours. -/
def worldmintlaw29_ProofLower.Pure : Prop := ∀ (a0 : Int) (l1 : List Int) (a2 : Int) (a3 : Int), (Lit.int .i64 a0).wf = true → l1.length ≤ maxLen → l1.length * 8 ≤ 140737488351232 → (∀ x ∈ l1, (Lit.int .i64 x).wf = true) → (Lit.int .i64 a2).wf = true → (Lit.int .i64 a3).wf = true → ∃ k, worldmintlaw29_ProofLower.f k a0 l1 a2 a3 = some true
theorem worldmintlaw29_ProofLower.walk (P : worldmintlaw29_ProofLower.Pure) (a0 : Int) (a1 : Option Addr) (len1 cap1 : Nat) (z1 : List Int) (a2 : Int) (a3 : Int) (w : World) (w0 : (Lit.int .i64 a0).wf = true) (w1 : (a1 = none ∧ len1 = 0 ∧ cap1 = 0 ∧ z1 = []) ∨ ∃ x, a1 = some x ∧ len1 ≤ cap1 ∧ cap1 ≤ maxLen ∧ z1.length = cap1 ∧ (∀ i, i < z1.length → w.cell? (x.add i) = some (.int .i64 (z1.getD i 0))) ∧ ∀ n ∈ z1, (Lit.int .i64 n).wf = true) (y1 : len1 * 8 ≤ 140737488351232) (w2 : (Lit.int .i64 a2).wf = true) (w3 : (Lit.int .i64 a3).wf = true) :
  Calls Try.prog 9 #[.int .i64 a0, .slice a1 len1 cap1, .int .i64 a2, .int .i64 a3] w fun e w' => e = .returned (.bool true) ∧ Below w.heap.size w w' := by
 obtain ⟨l1, rfl, hr1, hm1, hw1, hc1⟩ := ReadsInt.ofRowC w1
 obtain ⟨k, h⟩ := P a0 l1 a2 a3 w0 hm1 y1 hw1 w2 w3
 refine (worldmintlaw29_ProofLower.calls k a0 _ _ l1 a2 a3 true w (Kd.C_of_reads (d := (0 : Int)) (h1 := fun _ => rfl) hr1) hc1 h).mono ?_
 rintro e w' ⟨rfl, hd⟩
 exact ⟨rfl, hd⟩

end Go.Proofs.Ytdamibblnjeooaa.H

/- ProofLower: the plain statement. -/
namespace Go.Proofs.Ytdamibblnjeooaa.H
open Go.RowKit Go.Proofs.YtdamibblnjeooaaW.PrintWords Go.Proofs.YtdamibblnjeooaaW.PrintLast
theorem ProofLower_pure : worldmintlaw29_ProofLower.Pure := by
 intro a0 l1 a2 a3 w0 _ _ w1 w2 w3
 refine ⟨0, if_pos ?_⟩
 simp only [Bool.and_eq_true, List.all_eq_true]
 exact ⟨⟨⟨w0, w1⟩, w2⟩, w3⟩
end Go.Proofs.Ytdamibblnjeooaa.H
namespace Go.Proofs.Ytdamibblnjeooaa.Pure
theorem ProofLower : H.worldmintlaw29_ProofLower.Pure := H.ProofLower_pure
end Go.Proofs.Ytdamibblnjeooaa.Pure
