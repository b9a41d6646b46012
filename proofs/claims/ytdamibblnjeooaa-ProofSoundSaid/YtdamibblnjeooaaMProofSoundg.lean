/- Texts of this claim, one behind the other. -/
import Derived.Test.YtdamibblnjeooaaMProofSoundd
import Derived.Test.YtdamibblnjeooaaMProofSoundb
import Derived.Test.YtdamibblnjeooaaMProofSoundc
import Derived.Test.YtdamibblnjeooaaMProofSoundf
import Derived.BigRegion
import Derived.Test.YtdamibblnjeooaaMProofSounde

/- What a printed function computes with rounds enough: its laws; the generators of the reference. -/
namespace Go.Proofs.Ytdamibblnjeooaa.H
open Go.RowKit Go.Proofs.YtdamibblnjeooaaW.PrintWords Go.Proofs.YtdamibblnjeooaaW.PrintLast
set_option linter.unusedVariables false
set_option linter.unusedSimpArgs false
/-- With rounds enough, f tells a. -/
def Ev {α : Type} (f : Nat → Option α) (a : α) : Prop := ∃ K, ∀ k, K ≤ k → f k = some a
section
variable {α β : Type} {f : Nat → Option α} {a : α}
theorem Ev.succ (h : Ev (fun k => f (k + 1)) a) : Ev f a := by
 obtain ⟨K, h⟩ := h
 refine ⟨K + 1, fun k hk => ?_⟩
 obtain ⟨j, rfl⟩ : ∃ j, k = j + 1 := ⟨k - 1, by omega⟩
 exact h j (by omega)
theorem Ev.bind {g : Nat → α → Option β} {b : β} (hf : Ev f a) (hg : Ev (fun k => g k a) b) : Ev (fun k => (f k).bind (g k)) b := by
 obtain ⟨K, h⟩ := hf
 obtain ⟨K2, h2⟩ := hg
 exact ⟨max K K2, fun k hk => by
  show (f k).bind (g k) = some b
  rw [h k (by omega)]
  exact h2 k (by omega)⟩
theorem Ev.some_ : Ev (fun _ => some a) a := ⟨0, fun _ _ => rfl⟩
theorem Ev.ex (h : Ev f a) : ∃ k, f k = some a := by
 obtain ⟨K, h⟩ := h
 exact ⟨K, h K (Nat.le_refl _)⟩
end
theorem wf_bounds (n : Int) (h : (Lit.int .i64 n).wf = true) : -9223372036854775808 ≤ n ∧ n ≤ 9223372036854775807 := by
 simpa [Lit.wf, IntKind.min, IntKind.max, IntKind.signed, IntKind.bits] using h
theorem w64 (x : Int) (h0 : -9223372036854775808 ≤ x) (h1 : x ≤ 9223372036854775807) : wrap64 x = x := by
 unfold wrap64
 omega
theorem around_ok (n most : Int) (hn : (Lit.int .i64 n).wf = true) (hm : 0 < most) : ∃ r, worldmintref01_Around.f n most = some r ∧ 0 ≤ r ∧ r < most := by
 have hb := wf_bounds n hn
 unfold worldmintref01_Around.f
 by_cases h : n < 0
 ·rw [if_pos h, if_neg (by omega), w64 (n + 1) (by omega) (by omega), w64 (-(n + 1)) (by omega) (by omega)]
  exact ⟨_, rfl, Int.tmod_nonneg _ (by omega), Int.tmod_lt_of_pos _ hm⟩
 ·rw [if_neg h, if_neg (by omega)]
  exact ⟨_, rfl, Int.tmod_nonneg _ (by omega), Int.tmod_lt_of_pos _ hm⟩
theorem lots_ok (n : Int) (hn : (Lit.int .i64 n).wf = true) : ∃ r, worldmintref27_Lots.f n = some r ∧ 1 ≤ r ∧ r ≤ 8 := by
 obtain ⟨r, h, h0, h1⟩ := around_ok n 8 hn (by omega)
 unfold worldmintref27_Lots.f
 rw [h, Option.bind_some, w64 _ (by omega) (by omega)]
 exact ⟨_, rfl, by omega, by omega⟩
theorem pick_ok (l : List Int) (i most : Int) (hl : ∀ x ∈ l, (Lit.int .i64 x).wf = true) (hm : 0 < most) : ∃ r, worldmintref01_Pick.f l i most = some r ∧ 0 ≤ r ∧ r < most := by
 unfold worldmintref01_Pick.f
 by_cases h : i < 0
 ·rw [if_pos h]; exact ⟨0, rfl, by omega, hm⟩
 ·rw [if_neg h]
  by_cases h2 : i ≥ (l.length : Int)
  ·rw [if_pos h2]; exact ⟨0, rfl, by omega, hm⟩
  ·rw [if_neg h2, if_pos (by omega), if_pos (by omega)]
   have hm2 : rd l i ∈ l := by
    have : i.toNat < l.length := by omega
    simp [rd, List.getD, this]
   obtain ⟨r, h3, h4, h5⟩ := around_ok (rd l i) most (hl _ hm2) hm
   exact ⟨r, by rw [h3]; rfl, h4, h5⟩
/-- A bid as the reference draws it. -/
def GoodBid (n : Int) (b : S85) : Prop := 1 ≤ b.f0 ∧ b.f0 ≤ 6 ∧ 1 ≤ b.f1 ∧ b.f1 ≤ 450 ∧ b.f2.length ≠ 0 ∧ lotsOk n (-1) b.f2 = true ∧ b.f2.length ≤ 8
theorem lotsOk_snoc (n j : Int) (hj : j < n) : ∀ (ks : List Int) (last : Int), lotsOk n last ks = true → (∀ k ∈ ks, k < j) → last < j → lotsOk n last (ks ++ [j]) = true
 | [], last, _, _, h => by
  simp only [List.nil_append, lotsOk]
  simp [hj, h]
 | k :: ks, last, h, hk, _ => by
  simp only [List.cons_append, lotsOk] at h ⊢
  split at h
  ·simp at h
  ·rename_i hc
   rw [if_neg hc]
   exact lotsOk_snoc n j hj ks k h (fun x hx => hk x (by simp [hx])) (hk k (by simp))
set_option maxHeartbeats 1000000 in
theorem bids_l1 (n : Int) (l : List Int) (most : Int) (x7 : List S85) (x8 f0 f1 : Int) (hn1 : 1 ≤ n) (hn8 : n ≤ 8) (hx7 : x7.length < 3518437208883) (L : List S85)
  (hnext : ∀ ks : List Int, ks.length ≠ 0 → lotsOk n (-1) ks = true → ks.length ≤ 8 → ∃ L, Ev (fun k => worldmintref27_Bids.l0 k n l most (x7 ++ [⟨f0, f1, ks⟩]) (wrap64 (x8 + 1))) L ∧ (L.length : Int) ≤ most ∧ ∀ b ∈ L, GoodBid n b) :
  ∀ (d : Nat) (j : Int) (bs : Int) (ks : List Int), (n - j).toNat = d → 0 ≤ j → j ≤ n → lotsOk n (-1) ks = true → (∀ k ∈ ks, k < j) → (ks.length : Int) ≤ j → (j = n → ks.length ≠ 0) →
  ∃ L, Ev (fun k => worldmintref27_Bids.l1 k n l most x7 x8 bs j f0 f1 ks) L ∧ (L.length : Int) ≤ most ∧ ∀ b ∈ L, GoodBid n b
 | 0, j, bs, ks, hd, h0, hjn, hk, hkj, hkl, hne => by
  obtain ⟨L, h1, h2⟩ := hnext ks (hne (by omega)) hk (by omega)
  refine ⟨L, Ev.succ ?_, h2⟩
  simp only [worldmintref27_Bids.l1]
  simp only [if_neg (show ¬ j < n by omega), if_pos hx7]
  exact h1
 | d + 1, j, bs, ks, hd, h0, hjn, hk, hkj, hkl, hne => by
  have hw : wrap64 (j + 1) = j + 1 := w64 _ (by omega) (by omega)
  have hw2 : wrap64 (n - 1) = n - 1 := w64 _ (by omega) (by omega)
  have happ := fun bs' => bids_l1 n l most x7 x8 f0 f1 hn1 hn8 hx7 L hnext d (j + 1) bs' (ks ++ [j]) (by omega) (by omega) (by omega) (lotsOk_snoc n j (by omega) ks (-1) hk hkj (by omega)) (fun k hk' => by
   rcases List.mem_append.1 hk' with h | h
   ·have := hkj k h; omega
   ·simp at h; omega) (by simp; omega) (fun _ => by simp)
  have hnot := fun bs' (hh : j + 1 = n → ks.length ≠ 0) => bids_l1 n l most x7 x8 f0 f1 hn1 hn8 hx7 L hnext d (j + 1) bs' ks (by omega) (by omega) (by omega) hk (fun k hk' => by have := hkj k hk'; omega) (by omega) hh
  by_cases c1 : Int.tmod bs 2 = 1
  ·obtain ⟨L, h1, h2⟩ := happ (wrap64 (Int.tdiv bs 2))
   refine ⟨L, Ev.succ ?_, h2⟩
   simp only [worldmintref27_Bids.l1]
   simp only [if_pos (show j < n by omega), if_pos c1, if_pos (show ks.length < 17592186044416 by omega), hw]
   exact h1
  ·by_cases c2 : j = n - 1
   ·by_cases c3 : (ks.length : Int) = 0
    ·obtain ⟨L, h1, h2⟩ := happ (wrap64 (Int.tdiv bs 2))
     refine ⟨L, Ev.succ ?_, h2⟩
     simp only [worldmintref27_Bids.l1]
     simp only [if_pos (show j < n by omega), if_neg c1, hw2, if_pos c2, if_pos c3, if_pos (show ks.length < 17592186044416 by omega), hw]
     exact h1
    ·obtain ⟨L, h1, h2⟩ := hnot (wrap64 (Int.tdiv bs 2)) (fun _ => by omega)
     refine ⟨L, Ev.succ ?_, h2⟩
     simp only [worldmintref27_Bids.l1]
     simp only [if_pos (show j < n by omega), if_neg c1, hw2, if_pos c2, if_neg c3, hw]
     exact h1
   ·obtain ⟨L, h1, h2⟩ := hnot (wrap64 (Int.tdiv bs 2)) (fun _ => by omega)
    refine ⟨L, Ev.succ ?_, h2⟩
    simp only [worldmintref27_Bids.l1]
    simp only [if_pos (show j < n by omega), if_neg c1, hw2, if_neg c2, hw]
    exact h1
set_option maxHeartbeats 1000000 in
theorem bids_l0 (n : Int) (l : List Int) (hl : ∀ x ∈ l, (Lit.int .i64 x).wf = true) (most : Int) (hn1 : 1 ≤ n) (hn8 : n ≤ 8) (hm0 : 0 ≤ most) (hm1 : most ≤ 1000) :
  ∀ (d : Nat) (x7 : List S85), (most - x7.length).toNat = d → (x7.length : Int) ≤ most → (∀ b ∈ x7, GoodBid n b) →
  ∃ L, Ev (fun k => worldmintref27_Bids.l0 k n l most x7 x7.length) L ∧ (L.length : Int) ≤ most ∧ ∀ b ∈ L, GoodBid n b := by
 intro d
 induction d with
 | zero =>
  intro x7 hd hx hb
  obtain ⟨r, hr, hr0, hr1⟩ := pick_ok l 0 (most + 1) hl (by omega)
  refine ⟨x7, Ev.succ ?_, hx, hb⟩
  simp only [worldmintref27_Bids.l0, w64 (most + 1) (by omega) (by omega), hr, Option.bind_some]
  simp only [if_neg (show ¬ (x7.length : Int) < r by omega)]
  exact Ev.some_
 | succ d ih =>
  intro x7 hd hx hb
  obtain ⟨r, hr, hr0, hr1⟩ := pick_ok l 0 (most + 1) hl (by omega)
  by_cases hlt : (x7.length : Int) < r
  ·obtain ⟨t, ht, ht0, ht1⟩ := pick_ok l (wrap64 (1 + wrap64 (3 * (x7.length : Int)))) 1000000 hl (by omega)
   obtain ⟨u, hu, hu0, hu1⟩ := pick_ok l (wrap64 (2 + wrap64 (3 * (x7.length : Int)))) 255 hl (by omega)
   obtain ⟨v, hv, hv0, hv1⟩ := pick_ok l (wrap64 (3 + wrap64 (3 * (x7.length : Int)))) 255 hl (by omega)
   have e0 : 0 ≤ Int.tmod t 6 ∧ Int.tmod t 6 < 6 := ⟨Int.tmod_nonneg _ ht0, Int.tmod_lt_of_pos _ (by omega)⟩
   have hq : 0 ≤ Int.tdiv t 6 ∧ Int.tdiv t 6 ≤ t := ⟨Int.tdiv_nonneg ht0 (by omega), Int.tdiv_le_self _ ht0⟩
   have hq2 : 0 ≤ Int.tdiv t 216 ∧ Int.tdiv t 216 ≤ t := ⟨Int.tdiv_nonneg ht0 (by omega), Int.tdiv_le_self _ ht0⟩
   have hw1 : wrap64 (Int.tdiv t 6) = Int.tdiv t 6 := w64 _ (by omega) (by omega)
   have hw2 : wrap64 (Int.tdiv t 216) = Int.tdiv t 216 := w64 _ (by omega) (by omega)
   have e1 : 0 ≤ Int.tmod (Int.tdiv t 6) 9 ∧ Int.tmod (Int.tdiv t 6) 9 < 9 := ⟨Int.tmod_nonneg _ hq.1, Int.tmod_lt_of_pos _ (by omega)⟩
   have e2 : 0 ≤ Int.tmod (Int.tdiv t 216) 50 ∧ Int.tmod (Int.tdiv t 216) 50 < 50 := ⟨Int.tmod_nonneg _ hq2.1, Int.tmod_lt_of_pos _ (by omega)⟩
   have g0 : wrap64 (1 + Int.tmod t 6) = 1 + Int.tmod t 6 := w64 _ (by omega) (by omega)
   have g1 : wrap64 (1 + Int.tmod (Int.tdiv t 6) 9) = 1 + Int.tmod (Int.tdiv t 6) 9 := w64 _ (by omega) (by omega)
   have g2 : wrap64 (1 + Int.tmod (Int.tdiv t 216) 50) = 1 + Int.tmod (Int.tdiv t 216) 50 := w64 _ (by omega) (by omega)
   have hpr : ∀ a b : Int, 1 ≤ a → a ≤ 9 → 1 ≤ b → b ≤ 50 → 1 ≤ a * b ∧ a * b ≤ 450 := fun a b a1 a2 b1 b2 => by
    have h1 : 1 * 1 ≤ a * b := Int.mul_le_mul a1 b1 (by omega) (by omega)
    have h2 : a * b ≤ 9 * 50 := Int.mul_le_mul a2 b2 (by omega) (by omega)
    omega
   have hp := hpr (1 + Int.tmod (Int.tdiv t 6) 9) (1 + Int.tmod (Int.tdiv t 216) 50) (by omega) (by omega) (by omega) (by omega)
   have g3 : wrap64 ((1 + Int.tmod (Int.tdiv t 6) 9) * (1 + Int.tmod (Int.tdiv t 216) 50)) = (1 + Int.tmod (Int.tdiv t 6) 9) * (1 + Int.tmod (Int.tdiv t 216) 50) := w64 _ (by omega) (by omega)
   have hstep : ∀ p : Int, 1 ≤ p → p ≤ 450 → ∃ L, Ev (fun k => worldmintref27_Bids.j1 k n l most x7 (x7.length : Int) (1 + Int.tmod t 6) p) L ∧ (L.length : Int) ≤ most ∧ ∀ b ∈ L, GoodBid n b := fun p hp1 hp2 => by
    obtain ⟨L, h1, h2⟩ := bids_l1 n l most x7 (x7.length : Int) (1 + Int.tmod t 6) p hn1 hn8 (by omega) [] (fun ks hk0 hk1 hk2 => by
     obtain ⟨L, h1, h2⟩ := ih (x7 ++ [⟨1 + Int.tmod t 6, p, ks⟩]) (by simp; omega) (by simp; omega) (fun b hb' => by
      rcases List.mem_append.1 hb' with h | h
      ·exact hb b h
      ·rw [List.mem_singleton] at h; subst h; exact ⟨by show 1 ≤ 1 + _; omega, by show 1 + _ ≤ 6; omega, hp1, hp2, hk0, hk1, hk2⟩)
     refine ⟨L, ?_, h2⟩
     rw [w64 _ (by omega) (by omega)]
     simpa using h1) n.toNat 0 (Go.bits .and .i64 u (Go.bits .or .i64 v 17)) [] (by omega) (by omega) (by omega) rfl (by simp) (by simp) (by omega)
    refine ⟨L, Ev.succ ?_, h2⟩
    simp only [worldmintref27_Bids.j1, hu, hv, Option.bind_some]
    exact h1
   by_cases c : Int.tmod (wrap64 (Int.tdiv t 54)) 4 = 0
   ·obtain ⟨L, h1, h2⟩ := hstep _ hp.1 hp.2
    refine ⟨L, Ev.succ ?_, h2⟩
    simp only [worldmintref27_Bids.l0, w64 (most + 1) (by omega) (by omega), hr, ht, Option.bind_some, if_pos hlt, if_pos c, hw1, hw2, g0, g1, g2, g3]
    exact h1
   ·obtain ⟨L, h1, h2⟩ := hstep (1 + Int.tmod (Int.tdiv t 6) 9) (by omega) (by omega)
    refine ⟨L, Ev.succ ?_, h2⟩
    simp only [worldmintref27_Bids.l0, w64 (most + 1) (by omega) (by omega), hr, ht, Option.bind_some, if_pos hlt, if_neg c, hw1, g0, g1]
    exact h1
  ·refine ⟨x7, Ev.succ ?_, hx, hb⟩
   simp only [worldmintref27_Bids.l0, w64 (most + 1) (by omega) (by omega), hr, Option.bind_some]
   simp only [if_neg hlt]
   exact Ev.some_
theorem bids_ok (n : Int) (l : List Int) (hl : ∀ x ∈ l, (Lit.int .i64 x).wf = true) (most : Int) (hn1 : 1 ≤ n) (hn8 : n ≤ 8) (hm0 : 0 ≤ most) (hm1 : most ≤ 1000) :
  ∃ L, Ev (fun k => worldmintref27_Bids.f k n l most) L ∧ (L.length : Int) ≤ most ∧ ∀ b ∈ L, GoodBid n b := by
 have := bids_l0 n l hl most hn1 hn8 hm0 hm1 _ [] rfl (by simpa using hm0) (by simp)
 simpa [worldmintref27_Bids.f] using this
end Go.Proofs.Ytdamibblnjeooaa.H

/- The search's answer: the best choice, and of equals the least. Plain. -/
namespace Go.Proofs.Ytdamibblnjeooaa.H
open Go.RowKit
set_option linter.unusedVariables false
set_option linter.unusedSimpArgs false
/-- Do places a and b conflict? -/
def cf (l : List S82) (a b : Int) : Bool := conf (l.getD a.toNat z82) (l.getD b.toNat z82)
/-- The places from i on, n of them, whose bit is set. -/
def choiceP : Nat → Nat → Nat → List Int
 | 0, _, _ => []
 | n + 1, bits, i => if bits % 2 = 1 then (i : Int) :: choiceP n (bits / 2) (i + 1) else choiceP n (bits / 2) (i + 1)
/-- Places that go with those taken, and among each other. -/
def okS (U : S82 → Bool) (l : List S82) : List Int → List Int → Bool
 | _, [] => true
 | win, k :: s => U (l.getD k.toNat z82) && !(win.any fun w => cf l w k) && okS U l (win ++ [k]) s
def valP (l : List S82) (s : List Int) : Int := (s.map fun k => (l.getD k.toNat z82).f1).sum
def lessP : List Int → List Int → Bool
 | [], [] => false
 | [], _ :: _ => true
 | _ :: _, [] => false
 | a :: s, b :: t => if a = b then lessP s t else decide (a < b)
/-- The best extension. -/
def ext (U : S82 → Bool) (l : List S82) : List S82 → Nat → List Int → List Int × Int
 | [], _, _ => ([], 0)
 | b :: left, i, win =>
  if U b && !(win.any fun w => conf (l.getD w.toNat z82) b) then
   if (ext U l left (i + 1) (win ++ [(i : Int)])).2 + b.f1 < (ext U l left (i + 1) win).2 then ext U l left (i + 1) win
   else ((i : Int) :: (ext U l left (i + 1) (win ++ [(i : Int)])).1, (ext U l left (i + 1) (win ++ [(i : Int)])).2 + b.f1)
  else ext U l left (i + 1) win
section
variable {U : S82 → Bool} {l : List S82}
theorem ext_bounds : ∀ (left : List S82) (i : Nat) (win : List Int), (∀ b ∈ left, 1 ≤ b.f1) → 0 ≤ (ext U l left i win).2 ∧ (ext U l left i win).2 ≤ restOf U left
 | [], _, _, _ => by simp [ext, restOf]
 | b :: left, i, win, h => by
  have hb := h b (by simp)
  have h1 := ext_bounds left (i + 1) win (fun x hx => h x (by simp [hx]))
  have h2 := ext_bounds left (i + 1) (win ++ [(i : Int)]) (fun x hx => h x (by simp [hx]))
  unfold ext restOf
  cases hU : U b
  ·simp only [Bool.false_and, Bool.false_eq_true, if_false]; omega
  ·simp only [Bool.true_and, if_true]
   split
   ·split
    ·constructor <;> omega
    ·constructor <;> (simp only; omega)
   ·constructor <;> omega
theorem try_ext : ∀ (left : List S82) (i : Nat) (value : Int) (win : List Int) (best : Int) (out : List Int) (val : Int), (∀ b ∈ left, 1 ≤ b.f1) →
  tryP U l left i value win (best, out, val) = if best < value + (ext U l left i win).2 then (value + (ext U l left i win).2, win ++ (ext U l left i win).1, value + (ext U l left i win).2) else (best, out, val)
 | [], i, value, win, best, out, val, _ => by
  simp only [tryP, ext, Int.add_zero, List.append_nil]
  by_cases h : value ≤ best
  ·rw [if_pos h, if_neg (by omega)]
  ·rw [if_neg h, if_pos (by omega)]
 | b :: left, i, value, win, best, out, val, h => by
  have hl : ∀ x ∈ left, 1 ≤ x.f1 := fun x hx => h x (by simp [hx])
  have hb := h b (by simp)
  have hbd := ext_bounds (U := U) (l := l) (b :: left) i win h
  simp only [tryP]
  by_cases hp : value + restOf U (b :: left) ≤ best
  ·rw [if_pos hp, if_neg (by omega)]
  ·rw [if_neg hp]
   have ht := try_ext left (i + 1) (value + b.f1) (win ++ [(i : Int)]) best out val hl
   have hs := fun B O V => try_ext left (i + 1) value win B O V hl
   unfold ext
   by_cases hc : (U b && !(win.any fun w => conf (l.getD w.toNat z82) b)) = true
   ·rw [if_pos hc, if_pos hc, ht]
    generalize ext U l left (i + 1) (win ++ [(i : Int)]) = T at *
    generalize ext U l left (i + 1) win = S at *
    by_cases h1 : best < value + b.f1 + T.2
    ·rw [if_pos h1, hs]
     by_cases h2 : T.2 + b.f1 < S.2
     ·rw [if_pos h2, if_pos (by omega), if_pos (by omega)]
     ·rw [if_neg h2, if_neg (by omega)]
      simp only
      rw [if_pos (by omega)]
      rw [show value + b.f1 + T.2 = value + (T.2 + b.f1) from by omega]
      simp
    ·rw [if_neg h1, hs]
     by_cases h2 : T.2 + b.f1 < S.2
     ·rw [if_pos h2]
     ·rw [if_neg h2, if_neg (by omega)]
      simp only
      rw [if_neg (by omega)]
   ·rw [if_neg hc, if_neg hc, hs]
theorem search_ext (h : ∀ b ∈ l, 1 ≤ b.f1) : searchP U l = ext U l l 0 [] := by
 have hb := ext_bounds (U := U) (l := l) l 0 [] h
 unfold searchP
 rw [try_ext l 0 0 [] (-1) [] 0 h, if_pos (by omega)]
 simp
theorem choice_ge : ∀ (n bits i : Nat), ∀ k ∈ choiceP n bits i, (i : Int) ≤ k ∧ k < (i : Int) + n
 | 0, _, _ => by simp [choiceP]
 | n + 1, bits, i => by
  intro k hk
  have ih := choice_ge n (bits / 2) (i + 1)
  unfold choiceP at hk
  split at hk
  ·rcases List.mem_cons.1 hk with rfl | hk
   ·constructor <;> omega
   ·have := ih k hk; constructor <;> omega
  ·have := ih k hk; constructor <;> omega
theorem drop_getD (i : Nat) (b : S82) (left : List S82) (h : l.drop i = b :: left) : l.getD (i : Int).toNat z82 = b ∧ l.drop (i + 1) = left := by
 have h1 : l[i]? = some b := by
  have := congrArg (fun t => t[0]?) h
  simpa using this
 refine ⟨by simp [List.getD, h1], ?_⟩
 have := congrArg List.tail h
 simpa using this
theorem ext_valid : ∀ (left : List S82) (i : Nat) (win : List Int), l.drop i = left →
  okS U l win (ext U l left i win).1 = true ∧ valP l (ext U l left i win).1 = (ext U l left i win).2 ∧ ∃ bits, bits < 2 ^ left.length ∧ choiceP left.length bits i = (ext U l left i win).1
 | [], i, win, _ => ⟨by simp [ext, okS], by simp [ext, valP], 0, by simp, by simp [ext, choiceP]⟩
 | b :: left, i, win, h => by
  obtain ⟨hg, hd⟩ := drop_getD i b left h
  obtain ⟨s1, s2, sb, s3, s4⟩ := ext_valid left (i + 1) win hd
  obtain ⟨t1, t2, tb, t3, t4⟩ := ext_valid left (i + 1) (win ++ [(i : Int)]) hd
  have hskip : okS U l win (ext U l left (i + 1) win).1 = true ∧ valP l (ext U l left (i + 1) win).1 = (ext U l left (i + 1) win).2 ∧ ∃ bits, bits < 2 ^ (b :: left).length ∧ choiceP (b :: left).length bits i = (ext U l left (i + 1) win).1 := by
   refine ⟨s1, s2, 2 * sb, by simp only [List.length_cons, Nat.pow_succ]; omega, ?_⟩
   simp only [List.length_cons, choiceP]
   rw [if_neg (by omega), show 2 * sb / 2 = sb from by omega, s4]
  unfold ext
  by_cases hc : (U b && !(win.any fun w => conf (l.getD w.toNat z82) b)) = true
  ·rw [if_pos hc]
   split
   ·exact hskip
   ·refine ⟨?_, ?_, 2 * tb + 1, by simp only [List.length_cons, Nat.pow_succ]; omega, ?_⟩
    ·simp only [okS, cf, hg, t1, Bool.and_true]
     exact hc
    ·simp only [valP, List.map_cons, List.sum_cons, hg] at t2 ⊢
     omega
    ·simp only [List.length_cons, choiceP]
     rw [if_pos (by omega), show (2 * tb + 1) / 2 = tb from by omega, t4]
  ·rw [if_neg hc]
   exact hskip
theorem ext_best : ∀ (left : List S82) (i : Nat) (win : List Int), l.drop i = left → (∀ b ∈ left, 1 ≤ b.f1) → ∀ bits, okS U l win (choiceP left.length bits i) = true →
  valP l (choiceP left.length bits i) ≤ (ext U l left i win).2 ∧ (valP l (choiceP left.length bits i) = (ext U l left i win).2 → choiceP left.length bits i = (ext U l left i win).1 ∨ lessP (ext U l left i win).1 (choiceP left.length bits i) = true)
 | [], i, win, _, _, bits, _ => ⟨by simp [choiceP, ext, valP], fun _ => .inl (by simp [choiceP, ext])⟩
 | b :: left, i, win, h, hp, bits, hok => by
  obtain ⟨hg, hd⟩ := drop_getD i b left h
  have hb := hp b (by simp)
  have hl : ∀ x ∈ left, 1 ≤ x.f1 := fun x hx => hp x (by simp [hx])
  have hs := ext_best left (i + 1) win hd hl (bits / 2)
  have ht := ext_best left (i + 1) (win ++ [(i : Int)]) hd hl (bits / 2)
  have hge := choice_ge left.length (bits / 2) (i + 1)
  have htb := ext_bounds (U := U) (l := l) left (i + 1) (win ++ [(i : Int)]) hl
  simp only [List.length_cons, choiceP] at hok ⊢
  by_cases hbit : bits % 2 = 1
  ·rw [if_pos hbit] at hok ⊢
   simp only [okS, cf, hg, Bool.and_eq_true] at hok
   obtain ⟨⟨hU, hnc⟩, hrest⟩ := hok
   obtain ⟨h1, h2⟩ := ht hrest
   unfold ext
   rw [if_pos (by simp only [Bool.and_eq_true]; exact ⟨hU, hnc⟩)]
   have hv : valP l ((i : Int) :: choiceP left.length (bits / 2) (i + 1)) = b.f1 + valP l (choiceP left.length (bits / 2) (i + 1)) := by
    simp only [valP, List.map_cons, List.sum_cons, hg]
   rw [hv]
   split
   ·exact ⟨by omega, fun e => by omega⟩
   ·refine ⟨by show _ ≤ (_, _).2; simp only; omega, fun e => ?_⟩
    simp only at e ⊢
    rcases h2 (by omega) with h3 | h3
    ·exact .inl (by rw [h3])
    ·exact .inr (by simp only [lessP, if_true]; exact h3)
  ·rw [if_neg hbit] at hok ⊢
   obtain ⟨h1, h2⟩ := hs hok
   unfold ext
   split
   ·split
    ·exact ⟨h1, h2⟩
    ·refine ⟨by show _ ≤ (_, _).2; simp only; omega, fun e => .inr ?_⟩
     simp only at e ⊢
     cases hc : choiceP left.length (bits / 2) (i + 1) with
     | nil =>
      rw [hc] at e
      simp only [valP, List.map_nil, List.sum_nil] at e
      omega
     | cons k s =>
      have := hge k (by rw [hc]; simp)
      simp only [lessP]
      rw [if_neg (by omega)]
      simp
      omega
   ·exact ⟨h1, h2⟩
/-- What the reference keeps: a choice that is the best. -/
theorem best_unique (hp : ∀ b ∈ l, 1 ≤ b.f1) (win : List Int) (value : Int) (b0 : Nat) (h0 : b0 < 2 ^ l.length) (hw : choiceP l.length b0 0 = win) (hok : okS U l [] win = true) (hv : valP l win = value)
  (hall : ∀ b, b < 2 ^ l.length → okS U l [] (choiceP l.length b 0) = true → valP l (choiceP l.length b 0) ≤ value ∧ (valP l (choiceP l.length b 0) = value → lessP (choiceP l.length b 0) win = false)) :
  (win, value) = searchP U l := by
 rw [search_ext hp]
 obtain ⟨e1, e2, be, e3, e4⟩ := ext_valid (U := U) l 0 [] (l := l) rfl
 obtain ⟨h1, h2⟩ := hall be e3 (by rw [e4]; exact e1)
 obtain ⟨h3, h4⟩ := ext_best (U := U) (l := l) l 0 [] rfl hp b0 (by rw [hw]; exact hok)
 rw [e4] at h1 h2
 rw [hw] at h3 h4
 have hvv : value = (ext U l l 0 []).2 := by omega
 have hww : win = (ext U l l 0 []).1 := by
  rcases h4 (by omega) with h5 | h5
  ·exact h5
  ·rw [h2 (by omega)] at h5
   cases h5
 rw [hvv, hww]
theorem less_irrefl : ∀ s, lessP s s = false
 | [] => rfl
 | a :: s => by simp [lessP, less_irrefl s]
theorem less_trans : ∀ a b c, lessP a b = true → lessP b c = true → lessP a c = true
 | [], [], _, h, _ => by simp [lessP] at h
 | [], _ :: _, [], _, h => by simp [lessP] at h
 | [], _ :: _, _ :: _, _, _ => rfl
 | _ :: _, [], _, h, _ => by simp [lessP] at h
 | _ :: _, _ :: _, [], _, h => by simp [lessP] at h
 | x :: a, y :: b, z :: c, h1, h2 => by
  simp only [lessP] at h1 h2 ⊢
  by_cases e1 : x = y
  ·subst e1
   rw [if_pos rfl] at h1
   by_cases e2 : x = z
   ·subst e2
    rw [if_pos rfl] at h2 ⊢
    exact less_trans a b c h1 h2
   ·rw [if_neg e2] at h2 ⊢
    exact h2
  ·rw [if_neg e1] at h1
   simp only [decide_eq_true_eq] at h1
   by_cases e2 : y = z
   ·subst e2
    rw [if_neg e1]
    simpa using h1
   ·rw [if_neg e2] at h2
    simp only [decide_eq_true_eq] at h2
    rw [if_neg (by omega)]
    simp only [decide_eq_true_eq]
    omega
end
end Go.Proofs.Ytdamibblnjeooaa.H

/- What the reference of bids computes: by the same plain words. -/
namespace Go.Proofs.Ytdamibblnjeooaa.H
open Go.RowKit Go.Proofs.YtdamibblnjeooaaW.PrintWords Go.Proofs.YtdamibblnjeooaaW.PrintLast
set_option linter.unusedVariables false
set_option linter.unusedSimpArgs false
/-- A bid of the reference as a bid of the program. -/
def cv (b : S85) : S82 := ⟨b.f0, b.f1, b.f2⟩
theorem drop_cons {α : Type} (l : List α) (p : Nat) (x : α) (d : List α) (h : l.drop p = x :: d) : l[p]? = some x ∧ l.drop (p + 1) = d ∧ p < l.length := by
 have h1 : l[p]? = some x := by
  have := congrArg (fun t => t[0]?) h
  simpa using this
 refine ⟨h1, ?_, ?_⟩
 ·have := congrArg List.tail h
  simpa using this
 ·have := congrArg List.length h
  simp at this
  omega
theorem drop_nil {α : Type} (l : List α) (p : Nat) (hp : p ≤ l.length) (h : l.drop p = []) : p = l.length := by
 have := congrArg List.length h
 simp at this
 omega
theorem rdR_at (l : List S85) (i : Nat) (x : S85) (h : l[i]? = some x) : rd_T85 l (i : Int) = x := by
 simp [rd_T85, List.getD, h]
theorem rdR_cv (l : List S85) (i : Int) : cv (rd_T85 l i) = (l.map cv).getD i.toNat z82 := by
 simp only [rd_T85, List.getD, List.getElem?_map]
 cases l[i.toNat]? <;> rfl
/-! ### Valid -/
theorem rvalid_l1 (n : Int) (l : List S85) (i f0 f1 : Int) (ks : List Int) (hk : ks.length ≤ 9223372036854775807) (r : Int) (hr : Ev (fun k => worldmintref27_Valid.l0 k n l (wrap64 (i + 1))) r) :
  ∀ (d : List Int) (p : Nat) (last : Int), ks.drop p = d → p ≤ ks.length → -1 ≤ last → (p = 0 → last = -1) → (∀ q, p = q + 1 → rd ks q = last) →
  Ev (fun k => worldmintref27_Valid.l1 k n l i (p : Int) f0 f1 ks) (if lotsOk n last d then r else 1)
 | [], p, last, hd, hp, hl, hz, hq => by
  have := drop_nil ks p hp hd
  refine Ev.succ ?_
  simp only [worldmintref27_Valid.l1, if_neg (show ¬ (p : Int) < (ks.length : Int) by omega), lotsOk, if_true]
  exact hr
 | x :: d, p, last, hd, hp, hl, hz, hq => by
  obtain ⟨hx, hd', hlt⟩ := drop_cons ks p x d hd
  have ih := fun h0 => rvalid_l1 n l i f0 f1 ks hk r hr d (p + 1) x hd' (by omega) h0 (by omega) (fun q e => by
   have : q = p := by omega
   subst this
   exact rd_at ks q x hx)
  have hw : wrap64 ((p : Int) + 1) = ((p + 1 : Nat) : Int) := by rw [w64 _ (by omega) (by omega)]; omega
  have hF : x ≤ last ∨ n ≤ x → lotsOk n last (x :: d) = false := fun h => by
   simp only [lotsOk]
   rw [if_pos (by simpa using h)]
  have hT : ¬ x ≤ last → ¬ n ≤ x → lotsOk n last (x :: d) = lotsOk n x d := fun h1 h2 => by
   simp only [lotsOk]
   rw [if_neg (by simp; omega)]
  refine Ev.succ ?_
  simp only [worldmintref27_Valid.l1, if_pos (show (p : Int) < (ks.length : Int) by omega), if_pos (show (0 : Int) ≤ (p : Int) by omega), rd_at ks p x hx, hw]
  by_cases c1 : x < 0
  ·simp only [if_pos c1]
   rw [hF (by omega)]
   simpa using Ev.some_
  ·simp only [if_neg c1]
   by_cases c2 : x ≥ n
   ·simp only [if_pos c2]
    rw [hF (by omega)]
    simpa using Ev.some_
   ·simp only [if_neg c2]
    cases p with
    | zero =>
     have hl1 := hz rfl
     simp only [if_neg (show ¬ ((0 : Nat) : Int) > 0 by omega)]
     rw [hT (by omega) (by omega)]
     exact ih (by omega)
    | succ q =>
     have hw2 : wrap64 (((q + 1 : Nat) : Int) - 1) = (q : Int) := by rw [w64 _ (by omega) (by omega)]; omega
     simp only [if_pos (show ((q + 1 : Nat) : Int) > 0 by omega), hw2, if_pos (show (0 : Int) ≤ (q : Int) by omega), if_pos (show (q : Int) < (ks.length : Int) by omega), hq q rfl]
     by_cases c3 : x ≤ last
     ·simp only [if_pos c3]
      rw [hF (by omega)]
      simpa using Ev.some_
     ·simp only [if_neg c3]
      rw [hT (by omega) (by omega)]
      exact ih (by omega)
theorem rvalid_l0 (n : Int) (l : List S85) (hl : l.length ≤ 10) (hb : ∀ b ∈ l, b.f2.length ≤ 9223372036854775807) : ∀ (d : List S85) (p : Nat), l.drop p = d → p ≤ l.length →
  Ev (fun k => worldmintref27_Valid.l0 k n l (p : Int)) (bidsErr n (d.map cv))
 | [], p, hd, hp => by
  have := drop_nil l p hp hd
  refine Ev.succ ?_
  simp only [worldmintref27_Valid.l0, if_neg (show ¬ (p : Int) < (l.length : Int) by omega)]
  exact Ev.some_
 | x :: d, p, hd, hp => by
  obtain ⟨hx, hd', hlt⟩ := drop_cons l p x d hd
  have ih := rvalid_l0 n l hl hb d (p + 1) hd' (by omega)
  have hw : wrap64 ((p : Int) + 1) = ((p + 1 : Nat) : Int) := by rw [w64 _ (by omega) (by omega)]; omega
  have h1 := rvalid_l1 n l p x.f0 x.f1 x.f2 (hb x (List.mem_of_getElem? hx)) _ (by rw [hw]; exact ih) x.f2 0 (-1) rfl (Nat.zero_le _) (by omega) (fun _ => rfl) (fun q e => by omega)
  refine Ev.succ ?_
  simp only [worldmintref27_Valid.l0, if_pos (show (p : Int) < (l.length : Int) by omega), if_pos (show (0 : Int) ≤ (p : Int) by omega), rdR_at l p x hx, List.map_cons, bidsErr, cv]
  have hj : ∀ v : Bool, Ev (fun k => worldmintref27_Valid.j2 k n l (p : Int) v x.f0 x.f1 x.f2) (if v then 1 else if x.f1 < 1 || 1099511627776 < x.f1 then 5 else if x.f2.length == 0 then 1 else if !lotsOk n (-1) x.f2 then 1 else bidsErr n (d.map cv)) := fun v => by
   refine Ev.succ ?_
   cases v
   ·have hj3 : ∀ u : Bool, Ev (fun k => worldmintref27_Valid.j3 k n l (p : Int) u x.f0 x.f1 x.f2) (if u then 5 else if x.f2.length == 0 then 1 else if !lotsOk n (-1) x.f2 then 1 else bidsErr n (d.map cv)) := fun u => by
     refine Ev.succ ?_
     cases u
     ·simp only [worldmintref27_Valid.j3, Bool.false_eq_true, if_false]
      by_cases c : (x.f2.length : Int) = 0
      ·simp only [if_pos c]
       rw [if_pos (by simpa using c)]
       exact Ev.some_
      ·simp only [if_neg c]
       rw [if_neg (by simpa using c)]
       cases hk : lotsOk n (-1) x.f2
       ·simpa [hk] using h1
       ·simpa [hk] using h1
     ·simp only [worldmintref27_Valid.j3, if_true]
      exact Ev.some_
    simp only [worldmintref27_Valid.j2, Bool.false_eq_true, if_false]
    by_cases c : x.f1 < 1
    ·simp only [if_pos c]
     have := hj3 true
     simpa [c] using this
    ·simp only [if_neg c]
     have := hj3 (decide (x.f1 > 1099511627776))
     simpa [c] using this
   ·simp only [worldmintref27_Valid.j2, if_true]
    exact Ev.some_
  by_cases c : x.f0 < 1
  ·simp only [if_pos c]
   have := hj true
   simpa [c] using this
  ·simp only [if_neg c]
   have := hj (decide (x.f0 > 1073741824))
   simpa [c] using this
theorem rvalid_ok (n : Int) (l : List S85) (hb : ∀ b ∈ l, b.f2.length ≤ 9223372036854775807) : Ev (fun k => worldmintref27_Valid.f k n l) (validP n (l.map cv)) := by
 have hj : ∀ v : Bool, Ev (fun k => worldmintref27_Valid.j0 k n l v) (if v then 5 else if 10 < l.length then 4 else bidsErr n (l.map cv)) := fun v => by
  refine Ev.succ ?_
  cases v
  ·simp only [worldmintref27_Valid.j0, Bool.false_eq_true, if_false]
   by_cases c : (l.length : Int) > 10
   ·simp only [if_pos c]
    rw [if_pos (by omega)]
    exact Ev.some_
   ·simp only [if_neg c]
    rw [if_neg (by omega)]
    exact rvalid_l0 n l (by omega) hb l 0 rfl (Nat.zero_le _)
  ·simp only [worldmintref27_Valid.j0, if_true]
   exact Ev.some_
 unfold worldmintref27_Valid.f validP
 by_cases c : n < 1
 ·simp only [if_pos c]
  have := hj true
  simpa [c] using this
 ·simp only [if_neg c]
  have := hj (decide (n > 8))
  simpa [c] using this
/-! ### given -/
theorem given_ok (l : List S85) (hl : l.length < 3518437208883) : Ev (fun k => worldmintlaw29_given.f k l) (l.map cv) := by
 have : ∀ (d : List S85) (p : Nat), l.drop p = d → p ≤ l.length → Ev (fun k => worldmintlaw29_given.l0 k l ((l.take p).map cv) (p : Int)) (l.map cv) := by
  intro d
  induction d with
  | nil =>
   intro p hd hp
   have := drop_nil l p hp hd
   subst this
   refine Ev.succ ?_
   simp only [worldmintlaw29_given.l0, if_neg (show ¬ (l.length : Int) < (l.length : Int) by omega), List.take_length]
   exact Ev.some_
  | cons x d ih =>
   intro p hd hp
   obtain ⟨hx, hd', hlt⟩ := drop_cons l p x d hd
   have hw : wrap64 ((p : Int) + 1) = ((p + 1 : Nat) : Int) := by rw [w64 _ (by omega) (by omega)]; omega
   have h1 := ih (p + 1) hd' (by omega)
   refine Ev.succ ?_
   simp only [worldmintlaw29_given.l0, if_pos (show (p : Int) < (l.length : Int) by omega), if_pos (show (0 : Int) ≤ (p : Int) by omega), rdR_at l p x hx, hw, List.length_map, List.length_take]
   simp only [if_pos (show min p l.length < 3518437208883 by omega)]
   have e : (l.take p).map cv ++ [⟨x.f0, x.f1, x.f2⟩] = (l.take (p + 1)).map cv := by
    have hg : l[p] = x := by
     have := List.getElem?_eq_getElem hlt
     rw [hx] at this
     injection this with this
     exact this.symm
    rw [List.take_succ_eq_append_getElem hlt, List.map_append, hg]
    rfl
   rw [e]
   exact h1
 exact this l 0 rfl (Nat.zero_le _)
/-! ### Conflict, Feasible, Value, Less, Choice -/
theorem has_ok (xs : List Int) (x : Int) (hl : xs.length ≤ 9223372036854775807) : Ev (fun k => worldmintref01_Has.f k xs x) (xs.contains x) := by
 have : ∀ (d : List Int) (p : Nat), xs.drop p = d → p ≤ xs.length → Ev (fun k => worldmintref01_Has.l0 k xs x (p : Int)) (d.contains x) := by
  intro d
  induction d with
  | nil =>
   intro p hd hp
   have := drop_nil xs p hp hd
   refine Ev.succ ?_
   simp only [worldmintref01_Has.l0, if_neg (show ¬ (p : Int) < (xs.length : Int) by omega)]
   exact Ev.some_
  | cons y d ih =>
   intro p hd hp
   obtain ⟨hx, hd', hlt⟩ := drop_cons xs p y d hd
   have hw : wrap64 ((p : Int) + 1) = ((p + 1 : Nat) : Int) := by rw [w64 _ (by omega) (by omega)]; omega
   have h1 := ih (p + 1) hd' (by omega)
   refine Ev.succ ?_
   simp only [worldmintref01_Has.l0, if_pos (show (p : Int) < (xs.length : Int) by omega), if_pos (show (0 : Int) ≤ (p : Int) by omega), rd_at xs p y hx, hw]
   by_cases c : y = x
   ·subst c
    simp only [if_true]
    simpa using Ev.some_
   ·simp only [if_neg c]
    have e : (y :: d).contains x = d.contains x := by rw [List.contains_cons, beq_false_of_ne (fun e : x = y => c e.symm), Bool.false_or]
    rw [e]
    exact h1
 exact this xs 0 rfl (Nat.zero_le _)
theorem rconf_ok (a0 a1 : Int) (a2 : List Int) (b0 b1 : Int) (b2 : List Int) (ha : a2.length ≤ 9223372036854775807) (hb : b2.length ≤ 9223372036854775807) :
  Ev (fun k => worldmintref27_Conflict.f k a0 a1 a2 b0 b1 b2) (conf ⟨b0, b1, b2⟩ ⟨a0, a1, a2⟩) := by
 have : ∀ (d : List Int) (p : Nat), a2.drop p = d → p ≤ a2.length → Ev (fun k => worldmintref27_Conflict.l0 k (p : Int) a0 a1 a2 b0 b1 b2) (d.any fun k => b2.contains k) := by
  intro d
  induction d with
  | nil =>
   intro p hd hp
   have := drop_nil a2 p hp hd
   refine Ev.succ ?_
   simp only [worldmintref27_Conflict.l0, if_neg (show ¬ (p : Int) < (a2.length : Int) by omega)]
   exact Ev.some_
  | cons y d ih =>
   intro p hd hp
   obtain ⟨hx, hd', hlt⟩ := drop_cons a2 p y d hd
   have hw : wrap64 ((p : Int) + 1) = ((p + 1 : Nat) : Int) := by rw [w64 _ (by omega) (by omega)]; omega
   have h1 := ih (p + 1) hd' (by omega)
   refine Ev.succ ?_
   simp only [worldmintref27_Conflict.l0, if_pos (show (p : Int) < (a2.length : Int) by omega), if_pos (show (0 : Int) ≤ (p : Int) by omega), rd_at a2 p y hx, hw]
   refine Ev.bind (has_ok b2 y hb) ?_
   simp only [List.any_cons]
   cases b2.contains y
   ·simpa using h1
   ·simpa using Ev.some_
 unfold worldmintref27_Conflict.f conf
 by_cases c : a0 = b0
 ·subst c
  simp only [if_true]
  simpa using Ev.some_
 ·simp only [if_neg c]
  have e : (b0 == a0) = false := by simpa using fun e : b0 = a0 => c e.symm
  simp only [e, Bool.false_or]
  exact this a2 0 rfl (Nat.zero_le _)
theorem choice_ok (n : Nat) (hn : n ≤ 100) : ∀ (d : Nat) (i : Nat) (bits : Nat) (acc : List Int), n - i = d → i ≤ n → acc.length ≤ i → bits ≤ 9223372036854775807 →
  Ev (fun k => worldmintref27_Choice.l0 k (bits : Int) (n : Int) acc (i : Int)) (acc ++ choiceP d bits i)
 | 0, i, bits, acc, hd, hi, hacc, hb => by
  refine Ev.succ ?_
  simp only [worldmintref27_Choice.l0, if_neg (show ¬ (i : Int) < (n : Int) by omega), choiceP, List.append_nil]
  exact Ev.some_
 | d + 1, i, bits, acc, hd, hi, hacc, hb => by
  have hw : wrap64 ((i : Int) + 1) = ((i + 1 : Nat) : Int) := by rw [w64 _ (by omega) (by omega)]; omega
  have ht : Int.tmod (bits : Int) 2 = ((bits % 2 : Nat) : Int) := by rw [Int.tmod_eq_emod_of_nonneg (by omega)]; omega
  have hv : wrap64 (Int.tdiv (bits : Int) 2) = ((bits / 2 : Nat) : Int) := by
   rw [Int.tdiv_eq_ediv_of_nonneg (by omega), w64 _ (by omega) (by omega)]; omega
  refine Ev.succ ?_
  simp only [worldmintref27_Choice.l0, if_pos (show (i : Int) < (n : Int) by omega), ht, hv, hw, choiceP]
  by_cases c : bits % 2 = 1
  ·simp only [if_pos (show ((bits % 2 : Nat) : Int) = 1 by omega), if_pos (show acc.length < 17592186044416 by omega), if_pos c]
   have := choice_ok n hn d (i + 1) (bits / 2) (acc ++ [(i : Int)]) (by omega) (by omega) (by simp; omega) (by omega)
   simpa using this
  ·simp only [if_neg (show ¬ ((bits % 2 : Nat) : Int) = 1 by omega), if_neg c]
   exact choice_ok n hn d (i + 1) (bits / 2) acc (by omega) (by omega) (by omega) (by omega)
theorem rvalue_ok (l : List S85) (c : List Int) (hc : ∀ k ∈ c, 0 ≤ k ∧ k < l.length) (hl : c.length ≤ 1000) (hp : ∀ b ∈ l, 0 ≤ b.f1 ∧ b.f1 ≤ 1099511627776) : Ev (fun k => worldmintref27_Value.f k l c) (valP (l.map cv) c) := by
 have : ∀ (d : List Int) (p : Nat) (s : Int), c.drop p = d → p ≤ c.length → 0 ≤ s → s ≤ p * 1099511627776 → Ev (fun k => worldmintref27_Value.l0 k l c s (p : Int)) (s + valP (l.map cv) d) := by
  intro d
  induction d with
  | nil =>
   intro p s hd hpl hs0 hs1
   have := drop_nil c p hpl hd
   refine Ev.succ ?_
   simp only [worldmintref27_Value.l0, if_neg (show ¬ (p : Int) < (c.length : Int) by omega), valP, List.map_nil, List.sum_nil, Int.add_zero]
   exact Ev.some_
  | cons y d ih =>
   intro p s hd hpl hs0 hs1
   obtain ⟨hx, hd', hlt⟩ := drop_cons c p y d hd
   obtain ⟨hy0, hy1⟩ := hc y (List.mem_of_getElem? hx)
   have hw : wrap64 ((p : Int) + 1) = ((p + 1 : Nat) : Int) := by rw [w64 _ (by omega) (by omega)]; omega
   have hyl : y.toNat < l.length := by omega
   have hb := hp l[y.toNat] (List.getElem_mem hyl)
   have hrd : rd_T85 l y = l[y.toNat] := by simp [rd_T85, List.getD, hyl]
   have hg : (l.map cv).getD y.toNat z82 = cv l[y.toNat] := by simp [List.getD, hyl]
   have hw2 : wrap64 (s + l[y.toNat].f1) = s + l[y.toNat].f1 := w64 _ (by omega) (by omega)
   have h1 := ih (p + 1) (s + l[y.toNat].f1) hd' (by omega) (by omega) (by omega)
   refine Ev.succ ?_
   simp only [worldmintref27_Value.l0, if_pos (show (p : Int) < (c.length : Int) by omega), if_pos (show (0 : Int) ≤ (p : Int) by omega), rd_at c p y hx, hw, if_pos (show y ≥ 0 by omega), if_pos (show y < (l.length : Int) by omega), if_pos (show (0 : Int) ≤ y by omega), hrd, hw2]
   have e : s + valP (l.map cv) (y :: d) = s + l[y.toNat].f1 + valP (l.map cv) d := by
    simp only [valP, List.map_cons, List.sum_cons, hg, cv]
    omega
   rw [e]
   exact h1
 have h := this c 0 0 rfl (Nat.zero_le _) (by omega) (by omega)
 simpa [worldmintref27_Value.f] using h
theorem value_ok (l : List S82) (c : List Int) (hc : ∀ k ∈ c, 0 ≤ k ∧ k < l.length) (hl : c.length ≤ 1000) (hp : ∀ b ∈ l, 0 ≤ b.f1 ∧ b.f1 ≤ 1099511627776) : Ev (fun k => bids_Value.f k l c) (valP l c) := by
 have : ∀ (d : List Int) (p : Nat) (s : Int), c.drop p = d → p ≤ c.length → 0 ≤ s → s ≤ p * 1099511627776 → Ev (fun k => bids_Value.l0 k l s c (c.length : Int) (p : Int)) (s + valP l d) := by
  intro d
  induction d with
  | nil =>
   intro p s hd hpl hs0 hs1
   have := drop_nil c p hpl hd
   refine Ev.succ ?_
   simp only [bids_Value.l0, if_neg (show ¬ (p : Int) < (c.length : Int) by omega), valP, List.map_nil, List.sum_nil, Int.add_zero]
   exact Ev.some_
  | cons y d ih =>
   intro p s hd hpl hs0 hs1
   obtain ⟨hx, hd', hlt⟩ := drop_cons c p y d hd
   obtain ⟨hy0, hy1⟩ := hc y (List.mem_of_getElem? hx)
   have hw : wrap64 ((p : Int) + 1) = ((p + 1 : Nat) : Int) := by rw [w64 _ (by omega) (by omega)]; omega
   have hyl : y.toNat < l.length := by omega
   have hm : l.getD y.toNat z82 ∈ l := by simp [List.getD, hyl]
   have hb := hp _ hm
   have hrd : rd_T82 l y = l.getD y.toNat z82 := rfl
   have hw2 : wrap64 (s + (l.getD y.toNat z82).f1) = s + (l.getD y.toNat z82).f1 := w64 _ (by omega) (by omega)
   have h1 := ih (p + 1) (s + (l.getD y.toNat z82).f1) hd' (by omega) (by omega) (by omega)
   refine Ev.succ ?_
   simp only [bids_Value.l0, if_pos (show (p : Int) < (c.length : Int) by omega), if_pos (show (0 : Int) ≤ (p : Int) by omega), rd_at c p y hx, hw, if_pos (show y ≥ 0 by omega), if_pos (show y < (l.length : Int) by omega), if_pos (show (0 : Int) ≤ y by omega), hrd, hw2]
   have e : s + valP l (y :: d) = s + (l.getD y.toNat z82).f1 + valP l d := by
    simp only [valP, List.map_cons, List.sum_cons]
    omega
   rw [e]
   exact h1
 have h := this c 0 0 rfl (Nat.zero_le _) (by omega) (by omega)
 simpa [bids_Value.f] using h
end Go.Proofs.Ytdamibblnjeooaa.H

/- proof.Check. -/
namespace Go.Proofs.Ytdamibblnjeooaa.H
open Go.RowKit Go.Proofs.YtdamibblnjeooaaW.PrintWords Go.Proofs.YtdamibblnjeooaaW.PrintLast Go.Proofs.YtdamibblnjeooaaW.PrintMore
set_option linter.unusedVariables false
set_option linter.unusedSimpArgs false
/-- The certificate as a whole. -/
def rootP (n : Int) (l : List S82) (v : Int) (nodes : List S55) : Bool × List Bool := nodeP n l v nodes nodes.length 0 (List.replicate l.length 0) (List.replicate nodes.length false)
def checkP (n : Int) (l : List S82) (win : List Int) (v : Int) (nodes : List S55) : Int :=
 if validP n l ≠ 0 then validP n l else if feasP l [] win = false then 1 else if 2047 < nodes.length then 4 else if nodes.length = 0 ∨ v ≠ valP l win then 20 else
 if (rootP n l v nodes).1 = true ∧ (rootP n l v nodes).2.all id = true then 0 else 20
def proof_Check.f (a0 : Int) (l1 : List S82) (l2 : List Int) (a3_0 : Int) (l3_1 : List S55) : Option Int := some (checkP a0 l1 l2 a3_0 l3_1)
def lastP (pre : List Int) (w : Int) : Bool := match pre.getLast? with | some p => decide (w ≤ p) | none => false
theorem feasP_facts (l : List S82) : ∀ (ws pre : List Int), feasP l pre ws = true → (∀ k ∈ ws, 0 ≤ k ∧ k < l.length) ∧ ws.Pairwise (· < ·) ∧ (∀ p, pre.getLast? = some p → ∀ k ∈ ws, p < k)
 | [], _, _ => ⟨by simp, List.Pairwise.nil, by simp⟩
 | w :: ws, pre, h => by
  have h0 : feasP l pre (w :: ws) = if (w < 0 || (l.length : Int) ≤ w || lastP pre w) = true then false else if (pre.any fun v => conf (l.getD v.toNat z82) (l.getD w.toNat z82)) = true then false else feasP l (pre ++ [w]) ws := rfl
  rw [h0] at h
  by_cases c1 : (w < 0 || (l.length : Int) ≤ w || lastP pre w) = true
  ·rw [if_pos c1] at h; cases h
  ·rw [if_neg c1] at h
   by_cases c2 : (pre.any fun v => conf (l.getD v.toNat z82) (l.getD w.toNat z82)) = true
   ·rw [if_pos c2] at h; cases h
   ·rw [if_neg c2] at h
    obtain ⟨h1, h2, h3⟩ := feasP_facts l ws (pre ++ [w]) h
    have h4 := h3 w (by simp)
    simp only [Bool.or_eq_true, decide_eq_true_eq, not_or] at c1
    refine ⟨fun k hk => ?_, List.pairwise_cons.2 ⟨h4, h2⟩, fun p hp k hk => ?_⟩
    ·rcases List.mem_cons.1 hk with rfl | hk
     ·omega
     ·exact h1 k hk
    ·have h5 : ¬ w ≤ p := by
      have h6 := c1.2
      unfold lastP at h6
      rw [hp] at h6
      simpa using h6
     rcases List.mem_cons.1 hk with rfl | hk
     ·omega
     ·have := h4 k hk; omega
theorem rise_len : ∀ (s : List Int) (a : Int) (n : Nat), s.Pairwise (· < ·) → (∀ k ∈ s, a ≤ k ∧ k < a + n) → s.length ≤ n
 | [], _, _, _, _ => Nat.zero_le _
 | x :: s, a, n, hr, h => by
  obtain ⟨h1, h2⟩ := List.pairwise_cons.1 hr
  have hx := h x (by simp)
  obtain ⟨m, rfl⟩ : ∃ m, n = m + 1 := ⟨n - 1, by omega⟩
  have := rise_len s (a + 1) m h2 (fun k hk => by
   have h3 := h1 k hk
   have h4 := h k (by simp [hk])
   omega)
  simp only [List.length_cons]; omega
theorem feas_len (l : List S82) (win : List Int) (h : feasP l [] win = true) : win.length ≤ l.length := by
 obtain ⟨h1, h2, _⟩ := feasP_facts l win [] h
 exact rise_len win 0 l.length h2 (fun k hk => by have := h1 k hk; omega)
theorem made_boolsC (n : Nat) : madeCells #[Value.bool false] n = (bools (List.replicate n false)).toArray := by
 apply Array.ext
 ·simp [bools, madeCells]
 ·intro i h1 h2
  simp [bools, madeCells, Nat.mod_one]
theorem infoBo : (Try.prog.info? 4).map (fun i => (i.zero, i.size, i.bytes)) = some (some (.bool false), 1, 1) := by kernel_rfl
set_option maxHeartbeats 8000000 in
set_option maxRecDepth 100000 in
theorem proof_Check.calls (a0 : Int) (A1 : Option Addr) (c1 : Nat) (l1 : List S82) (A2 : Option Addr) (c2 : Nat) (l2 : List Int) (a3_0 : Int) (A3_1 : Option Addr) (c3_1 : Nat) (l3_1 : List S55) (r : Int) (w : World)
  (hr1 : Kd.C k82 w A1 l1.length l1) (hc1 : l1.length ≤ c1) (hr2 : Kd.C (Kd.int .i64) w A2 l2.length l2) (hc2 : l2.length ≤ c2) (hr3_1 : Kd.C k55 w A3_1 l3_1.length l3_1) (hc3_1 : l3_1.length ≤ c3_1) (h : proof_Check.f a0 l1 l2 a3_0 l3_1 = some r) :
  Calls Try.prog 18 #[.int .i64 a0, .slice A1 l1.length c1, .slice A2 l2.length c2, .agg #[.int .i64 a3_0, .slice A3_1 l3_1.length c3_1]] w fun e w' => e = .returned (.int .i64 r) ∧ Below w.heap.size w w' := by
 obtain rfl : checkP a0 l1 l2 a3_0 l3_1 = r := Option.some.inj h
 clear h
 obtain ⟨k, hk⟩ := bids_Valid_f a0 l1 (lots_short hr1)
 obtain ⟨wA, hwA⟩ : ∃ wA, wA = w.alloc (.cells #[.int .i64 a3_0, .slice A3_1 l3_1.length c3_1] 44) := ⟨_, rfl⟩
 have hbA : Below w.heap.size w wA := by rw [hwA]; exact (Below.refl _ w).alloc (Nat.le_refl _) _
 have hPA : wA.heap[w.heap.size]? = some (.cells #[.int .i64 a3_0, .slice A3_1 l3_1.length c3_1] 44 (0, 0)) := by rw [hwA]; exact heap_alloc_new w _
 have hv := bids_Valid.calls k a0 A1 c1 l1 _ wA (Kd.C_below hr1 hbA) hc1 hk
 have Hv := Aside0.mk hv
 have Hr1 := Aside0.mk hr1
 have Hr2 := Aside0.mk hr2
 have Hr3 := Aside0.mk hr3_1
 have HbA := Aside0.mk hbA
 have HPA := Aside0.mk hPA
 clear hr1 hr2 hr3_1 hbA hPA hv hk
 by_cases hz : validP a0 l1 = 0
 ·rw [hz] at Hv
  obtain ⟨hn1, hn2, hl10, hbb⟩ := validP_bids a0 l1 hz
  have Hbb := Aside0.mk hbb
  have Hz := Aside0.mk hz
  clear hbb hz
  have hfc := fun W (hW : Below w.heap.size w W) => bids_Feasible.calls A1 c1 l1 A2 c2 l2 _ W (Kd.C_below Hr1.out hW) hc1 (Kd.C_below Hr2.out hW) hc2 rfl
  have Hfc := Aside0.mk hfc
  clear hfc
  go_enter Try.func18, Try.ntmps18
  go_upto_region 1 with (fail)
  rw [← hwA]
  clear hwA
  go_wp2_with fail
  refine Hv.out.mono ?_
  rintro e w1 ⟨rfl, hb1⟩
  have hW1 := HbA.out.trans (hb1.mono HbA.out.size)
  have hP1 := (hb1.block _ (Array.getElem?_eq_some_iff.1 HPA.out).1).trans HPA.out
  have hf1 := Hfc.out w1 hW1
  have HW1 := Aside0.mk hW1
  have HP1 := Aside0.mk hP1
  have Hf1 := Aside0.mk hf1
  clear hb1 hW1 hP1 hf1 Hfc HPA HbA Hv
  cases hfe : feasP l1 [] l2
  ·have hres : checkP a0 l1 l2 a3_0 l3_1 = 1 := by unfold checkP; rw [if_neg (by rw [Hz.out]; simp), if_pos hfe]
   rw [hfe] at Hf1
   have Hres := Aside0.mk hres
   clear hres hfe
   go_wp2_with fail
   refine Hf1.out.mono ?_
   rintro e w2 ⟨rfl, hb2⟩
   have hW2 := HW1.out.trans (hb2.mono HW1.out.size)
   clear hb2 Hf1
   go_wp2
   go_ret
   exact ⟨by rw [Hres.out]; rfl, hW2⟩
  ·rw [hfe] at Hf1
   have Hfe := Aside0.mk hfe
   clear hfe
   go_wp2_with fail
   refine Hf1.out.mono ?_
   rintro e w2 ⟨rfl, hb2⟩
   have hW2 := HW1.out.trans (hb2.mono HW1.out.size)
   have hP2 := (hb2.block _ (Array.getElem?_eq_some_iff.1 HP1.out).1).trans HP1.out
   have hcp0 : w2.cell? ⟨w.heap.size, 0, none⟩ = some (.int .i64 a3_0) := (blk_cell hP2 0).trans rfl
   have hcp1 : w2.cell? ⟨w.heap.size, 1, none⟩ = some (.slice A3_1 l3_1.length c3_1) := (blk_cell hP2 1).trans rfl
   have HW2 := Aside0.mk hW2
   have HP2 := Aside0.mk hP2
   clear hb2 hW2 hP2 Hf1 HW1 HP1
   have hnb := (show l3_1.length ≤ 9223372036854775807 from Hr3.out.2.1)
   by_cases hbig : 2047 < l3_1.length
   ·have hres : checkP a0 l1 l2 a3_0 l3_1 = 4 := by unfold checkP; rw [if_neg (by rw [Hz.out]; simp), if_neg (by rw [Hfe.out]; simp), if_pos hbig]
    have Hres := Aside0.mk hres
    have hd1 : decide ((2047 : Int) < (l3_1.length : Int)) = true := decide_eq_true (by omega)
    have hd2 : decide (2047 < l3_1.length) = true := decide_eq_true hbig
    clear hres
    go_wp2
    go_ret
    exact ⟨by rw [Hres.out]; rfl, HW2.out⟩
   ·have hd1 : decide ((2047 : Int) < (l3_1.length : Int)) = false := decide_eq_false (by omega)
    have hd2 : decide (2047 < l3_1.length) = false := decide_eq_false hbig
    have Hbig := Aside0.mk hbig
    clear hbig
    by_cases hz0 : l3_1.length = 0
    ·have hres : checkP a0 l1 l2 a3_0 l3_1 = 20 := by unfold checkP; rw [if_neg (by rw [Hz.out]; simp), if_neg (by rw [Hfe.out]; simp), if_neg Hbig.out, if_pos (.inl hz0)]
     have Hres := Aside0.mk hres
     rw [hz0] at hcp1
     clear hres hz0
     go_upto_region 8 with (fail)
     go_quiet (fail)
     have hW3 : Below w.heap.size w (w2.drewN nq) := HW2.out.trans ((pw_below_drewN (Below.refl w2.heap.size w2) nq).mono HW2.out.size)
     go_wp2
     go_ret
     exact ⟨by rw [Hres.out]; rfl, hW3⟩
    ·have hd3 : ((l3_1.length : Int) == 0) = false := by simpa using hz0
     obtain ⟨hr, hp, _⟩ := feasP_facts l1 l2 [] Hfe.out
     have hfl := feas_len l1 l2 Hfe.out
     obtain ⟨kv, hkv⟩ := (value_ok l1 l2 hr (by omega) (fun b hb => by have := (Hbb.out b hb).1; omega)).ex
     have hva := bids_Value.calls kv A1 c1 l1 A2 c2 l2 _ w2.drew (Kd.C_below Hr1.out (HW2.out.trans ((below_drew0 w2).mono HW2.out.size))) hc1 (Kd.C_below Hr2.out (HW2.out.trans ((below_drew0 w2).mono HW2.out.size))) hc2 hkv
     have Hva := Aside0.mk hva
     have Hz0 := Aside0.mk hz0
     clear hva hkv hr hp hfl hz0
     have hkeep : ∀ w', Below w2.heap.size w2 w' → w'.cell? ⟨w.heap.size, 0, none⟩ = some (.int .i64 a3_0) ∧ w'.cell? ⟨w.heap.size, 1, none⟩ = some (.slice A3_1 l3_1.length c3_1) := fun w' hb =>
      ⟨(hb.cell (World.block_lt_of_cell? w2 _ hcp0)).trans hcp0, (hb.cell (World.block_lt_of_cell? w2 _ hcp1)).trans hcp1⟩
     have Hkeep := Aside0.mk hkeep
     clear hkeep
     by_cases hvv : a3_0 = valP l1 l2
     ·have hd4 : (a3_0 != valP l1 l2) = false := by simpa using hvv
      have hres : checkP a0 l1 l2 a3_0 l3_1 = if (rootP a0 l1 a3_0 l3_1).1 = true ∧ (rootP a0 l1 a3_0 l3_1).2.all id = true then 0 else 20 := by
       unfold checkP
       rw [if_neg (by rw [Hz.out]; simp), if_neg (by rw [Hfe.out]; simp), if_neg Hbig.out, if_neg (by
        rintro (h | h)
        ·exact Hz0.out h
        ·exact h hvv)]
      have Hres := Aside0.mk hres
      clear hvv hres
      generalize valP l1 l2 = vv at *
      go_upto_region 8 with (fail)
      refine wp_region_held_drew (S := fun w' => w'.cell? ⟨w.heap.size, 0, none⟩ = some (.int .i64 a3_0) ∧ w'.cell? ⟨w.heap.size, 1, none⟩ = some (.slice A3_1 l3_1.length c3_1)) (by kernel_rfl) (Hkeep.out w2.drew (below_drew0 w2)) ?_
      intro hS0
      refine wpAnyH_take (i := 0) (v := ?_) rfl (by kernel_rfl) (by kernel_rfl) (by kernel_rfl) (fun _ _ _ h => h) (Or.inl ⟨by rfl, ?_⟩) (by assumption) ?_
      rotate_left
      ·(intro w_ hSw_; (try dsimp only at hSw_); go_simp; try with_reducible rfl)
      try simp only [Act.put, List.getElem_toArray, List.getElem_cons_zero, List.getElem_cons_succ, List.setIfInBounds_toArray, List.set_cons_zero, List.set_cons_succ]
      refine wpAnyH_take (i := 1) (v := ?_) rfl (by kernel_rfl) (by kernel_rfl) (by kernel_rfl) (fun _ _ _ h => h) (Or.inl ⟨by rfl, ?_⟩) (by assumption) ?_
      rotate_left
      ·(intro w_ hSw_; (try dsimp only at hSw_); go_simp; try with_reducible rfl)
      try simp only [Act.put, List.getElem_toArray, List.getElem_cons_zero, List.getElem_cons_succ, List.setIfInBounds_toArray, List.set_cons_zero, List.set_cons_succ]
      refine wpAnyH_take (i := 2) (v := ?_) rfl (by kernel_rfl) (by kernel_rfl) (by kernel_rfl) (fun _ _ _ h => h) (Or.inl ⟨by rfl, ?_⟩) (by assumption) ?_
      rotate_left
      ·(intro w_ hSw_; (try dsimp only at hSw_); go_simp; try with_reducible rfl)
      try simp only [Act.put, List.getElem_toArray, List.getElem_cons_zero, List.getElem_cons_succ, List.setIfInBounds_toArray, List.set_cons_zero, List.set_cons_succ]
      refine wpAnyH_take (i := 3) (v := ?_) rfl (by kernel_rfl) (by kernel_rfl) (by kernel_rfl) (fun _ _ _ h => h) (Or.inl ⟨by rfl, ?_⟩) (by assumption) ?_
      rotate_left
      ·(intro w_ hSw_; (try dsimp only at hSw_); go_simp; try with_reducible rfl)
      try simp only [Act.put, List.getElem_toArray, List.getElem_cons_zero, List.getElem_cons_succ, List.setIfInBounds_toArray, List.set_cons_zero, List.set_cons_succ]
      refine wpAnyH_take (i := 4) (v := ?_) rfl (by kernel_rfl) (by kernel_rfl) (by kernel_rfl) (fun _ _ _ h => h) (Or.inl ⟨by rfl, ?_⟩) (by assumption) ?_
      rotate_left
      ·(intro w_ hSw_; (try dsimp only at hSw_); go_simp; try with_reducible rfl)
      try simp only [Act.put, List.getElem_toArray, List.getElem_cons_zero, List.getElem_cons_succ, List.setIfInBounds_toArray, List.set_cons_zero, List.set_cons_succ]
      refine wpAnyH_take (i := 5) (v := ?_) rfl (by kernel_rfl) (by kernel_rfl) (by kernel_rfl) (fun _ _ _ h => h) (Or.inl ⟨by rfl, ?_⟩) (by assumption) ?_
      rotate_left
      ·(intro w_ hSw_; (try dsimp only at hSw_); go_simp; try with_reducible rfl)
      try simp only [Act.put, List.getElem_toArray, List.getElem_cons_zero, List.getElem_cons_succ, List.setIfInBounds_toArray, List.set_cons_zero, List.set_cons_succ]
      refine wpAnyH_take (i := 6) (v := ?_) rfl (by kernel_rfl) (by kernel_rfl) (by kernel_rfl) (fun _ _ _ h => h) (Or.inl ⟨by rfl, ?_⟩) (by assumption) ?_
      rotate_left
      ·(intro w_ hSw_; (try dsimp only at hSw_); go_simp; try with_reducible rfl)
      try simp only [Act.put, List.getElem_toArray, List.getElem_cons_zero, List.getElem_cons_succ, List.setIfInBounds_toArray, List.set_cons_zero, List.set_cons_succ]
      refine wpAnyH_take (i := 7) (v := ?_) rfl (by kernel_rfl) (by kernel_rfl) (by kernel_rfl) (fun _ _ _ h => h) (Or.inl ⟨by rfl, ?_⟩) (by assumption) ?_
      rotate_left
      ·(intro w_ hSw_; (try dsimp only at hSw_); go_simp; try with_reducible rfl)
      try simp only [Act.put, List.getElem_toArray, List.getElem_cons_zero, List.getElem_cons_succ, List.setIfInBounds_toArray, List.set_cons_zero, List.set_cons_succ]
      refine wpAnyH_take (i := 8) (v := ?_) rfl (by kernel_rfl) (by kernel_rfl) (by kernel_rfl) (fun _ _ _ h => h) (Or.inl ⟨by rfl, ?_⟩) (by assumption) ?_
      rotate_left
      ·(intro w_ hSw_; (try dsimp only at hSw_); go_simp; try with_reducible rfl)
      try simp only [Act.put, List.getElem_toArray, List.getElem_cons_zero, List.getElem_cons_succ, List.setIfInBounds_toArray, List.set_cons_zero, List.set_cons_succ]
      refine wpAnyH_ready (rs := [9]) (by kernel_rfl) (by simp) ?_
      refine AllReadyH.cons rfl (fun K hK => ?_) AllReadyH.nil
      go_simp
      refine Hva.out.mono ?_
      rintro e w3 ⟨rfl, hd_⟩
      have hb3 := hd_.below
      refine hK.out _ _ (Hkeep.out w3 ⟨hb3.os, hb3.tape, hb3.output, hb3.size, hb3.block⟩) (fun hSn_ => ?_)
      clear hK K
      try simp only [Act.put, List.getElem_toArray, List.getElem_cons_zero, List.getElem_cons_succ, List.setIfInBounds_toArray, List.set_cons_zero, List.set_cons_succ]
      refine wpAnyH_take (i := 10) (v := ?_) rfl (by kernel_rfl) (by kernel_rfl) (by kernel_rfl) (fun _ _ _ h => h) (Or.inl ⟨by rfl, ?_⟩) (by assumption) ?_
      rotate_left
      ·(intro w_ hSw_; (try dsimp only at hSw_); go_simp; try with_reducible rfl)
      try simp only [Act.put, List.getElem_toArray, List.getElem_cons_zero, List.getElem_cons_succ, List.setIfInBounds_toArray, List.set_cons_zero, List.set_cons_succ]
      refine wpAnyH_take (i := 11) (v := ?_) rfl (by kernel_rfl) (by kernel_rfl) (by kernel_rfl) (fun _ _ _ h => h) (Or.inl ⟨by rfl, ?_⟩) (by assumption) ?_
      rotate_left
      ·(intro w_ hSw_; (try dsimp only at hSw_); go_simp; try with_reducible rfl)
      try simp only [Act.put, List.getElem_toArray, List.getElem_cons_zero, List.getElem_cons_succ, List.setIfInBounds_toArray, List.set_cons_zero, List.set_cons_succ]
      refine wpAnyH_take (i := 12) (v := ?_) rfl (by kernel_rfl) (by kernel_rfl) (by kernel_rfl) (fun _ _ _ h => h) (Or.inl ⟨by rfl, ?_⟩) (by assumption) ?_
      rotate_left
      ·(intro w_ hSw_; (try dsimp only at hSw_); go_simp; try with_reducible rfl)
      try simp only [Act.put, List.getElem_toArray, List.getElem_cons_zero, List.getElem_cons_succ, List.setIfInBounds_toArray, List.set_cons_zero, List.set_cons_succ]
      refine wpAnyH_done (by kernel_rfl) ?_ _
      have hb3' : Below w2.heap.size w2 w3 := ⟨hb3.os, hb3.tape, hb3.output, hb3.size, hb3.block⟩
      have hW3 : Below w.heap.size w w3 := HW2.out.trans (hb3'.mono HW2.out.size)
      have hP3 := (hb3'.block _ (Array.getElem?_eq_some_iff.1 HP2.out).1).trans HP2.out
      clear hb3 hb3' hd_ hSn_ hS0 Hva Hkeep HW2 HP2 hcp0 hcp1
      have hcp0 : w3.cell? ⟨w.heap.size, 0, none⟩ = some (.int .i64 a3_0) := (blk_cell hP3 0).trans rfl
      have hcp1 : w3.cell? ⟨w.heap.size, 1, none⟩ = some (.slice A3_1 l3_1.length c3_1) := (blk_cell hP3 1).trans rfl
      have hal : ∀ (w : World) (o : Obj) (p : Addr) (v : Value), w.cell? p = some v → (w.alloc o).cell? p = some v := fun w o p v hp => (((Below.refl _ w).alloc (Nat.le_refl _) o).cell (p := p) (World.block_lt_of_cell? w _ hp)).trans hp
      have k0 := fun o => hal w3 o _ _ hcp0
      have k1 := fun o => hal w3 o _ _ hcp1
      have hmk := print_make_of (P := Try.prog) 91 4 (.bool false) 1 Try.underlying91 infoBo rfl (by decide) l3_1.length (by have := Hbig.out; omega)
      have HW3 := Aside0.mk hW3
      clear hal hP3 hW3
      go_upto_region 10 with (fail)
      go_region
      obtain ⟨W5, hW5⟩ : ∃ W5, W5 = ((w3.alloc (.cells (madeCells #[.bool false] l3_1.length) 4)).alloc (.cells #[.int .i64 a0, .slice A1 l1.length c1, .int .i64 a3_0, .slice A3_1 l3_1.length c3_1, .slice (some ⟨w3.heap.size, 0, none⟩) l3_1.length l3_1.length] 93)).drew := ⟨_, rfl⟩
      rw [← hW5]
      obtain ⟨s, hs⟩ : ∃ s : PCx, s = ⟨w, w3.heap.size + 1, w3.heap.size, a0, A1, c1, l1, a3_0, A3_1, c3_1, l3_1⟩ := ⟨_, rfl⟩
      have hb5 : Below w3.heap.size w3 W5 := by
       rw [hW5]
       exact below_drew (((Below.refl _ w3).alloc (Nat.le_refl _) _).alloc (by simp) _)
      have hSt : NSt s W5 (List.replicate l3_1.length false) := by
       rw [hs]
       refine ⟨HW3.out.trans (hb5.mono HW3.out.size), ?_, ?_⟩
       ·show W5.heap[w3.heap.size + 1]? = _
        have h_ := heap_alloc_new (w3.alloc (.cells (madeCells #[.bool false] l3_1.length) 4)) (.cells #[.int .i64 a0, .slice A1 l1.length c1, .int .i64 a3_0, .slice A3_1 l3_1.length c3_1, .slice (some ⟨w3.heap.size, 0, none⟩) l3_1.length l3_1.length] 93)
        rw [World.size_alloc] at h_
        rw [hW5]
        exact h_
       ·show W5.heap[w3.heap.size]? = _
        rw [← made_boolsC, hW5]
        exact (Below.heap_alloc _ _ _ (by simp)).trans (heap_alloc_new w3 _)
      have hok : POk s := by
       rw [hs]
       exact ⟨Hr1.out, Hr3.out, hl10, ⟨hn1, hn2⟩, Hbb.out, by have := Hbig.out; show l3_1.length ≤ 2047; omega, Nat.le_succ_of_le HW3.out.size, HW3.out.size, Nat.succ_ne_self _⟩
      have hmk2 := print_make (P := Try.prog) 22 3 .i64 8 Try.underlying22 infoW (by decide) l1.length (by omega)
      rw [made_zerosW] at hmk2
      obtain ⟨W6, hW6⟩ : ∃ W6, W6 = W5.alloc (.cells (List.replicate l1.length (Value.int .i64 0)).toArray 3) := ⟨_, rfl⟩
      have hmk3 := hmk2 W5
      rw [← hW6] at hmk3
      have hb6 : Below W5.heap.size W5 W6 := by rw [hW6]; exact (Below.refl _ W5).alloc (Nat.le_refl _) _
      have hD6 : W6.heap[W5.heap.size]? = some (.cells ((List.replicate l1.length (0 : Int)).map (Value.int .i64)).toArray 3 (0, 0)) := by
       rw [hW6, List.map_replicate]
       exact heap_alloc_new W5 _
      have hsb5 := (Array.getElem?_eq_some_iff.1 hSt.hS).1
      have hn := node_calls s hok l3_1.length 0 (List.replicate l1.length 0) W5.heap.size (List.replicate l3_1.length false) W6 (by have := Hz0.out; rw [hs]; show 0 < l3_1.length; omega) (by rw [hs]; show l3_1.length ≤ 0 + l3_1.length; omega) (by rw [hs, List.length_replicate]) (by rw [hs, List.length_replicate]) (hSt.step hb6) hD6 (by omega)
      rw [List.length_replicate, show ((0 : Nat) : Int) = 0 from rfl] at hn
      have hroot : nodeP s.n s.l s.v s.nodes l3_1.length 0 (List.replicate l1.length 0) (List.replicate l3_1.length false) = rootP a0 l1 a3_0 l3_1 := by rw [hs]; rfl
      rw [hroot] at hn
      have hrl : (rootP a0 l1 a3_0 l3_1).2.length = l3_1.length := by unfold rootP; rw [nodeP_len, List.length_replicate]
      have hcb : s.cb = w3.heap.size + 1 := by rw [hs]
      have hsbs : s.sb = w3.heap.size := by rw [hs]
      have hsn : s.nodes.length = l3_1.length := by rw [hs]
      have hsw : s.w0 = w := by rw [hs]
      rw [hcb] at hn
      have Hn := Aside0.mk hn
      have Hrl := Aside0.mk hrl
      have Hcb := Aside0.mk hcb
      have Hsbs := Aside0.mk hsbs
      have Hsn := Aside0.mk hsn
      have Hsw := Aside0.mk hsw
      clear hW5 hs hb5 hSt hok hmk hmk2 hW6 hb6 hD6 hsb5 hn hroot hrl hcb hsbs hsn hsw k0 k1 hcp0 hcp1 HW3 hd1 hd2 hd3 hd4
      generalize rootP a0 l1 a3_0 l3_1 = rt at *
      go_wp2_with fail
      refine Hn.out.mono ?_
      rintro e w7 ⟨rfl, hS7, hT7⟩
      have hW7 : Below w.heap.size w w7 := by have := hS7.below; rwa [Hsw.out] at this
      cases hr1 : rt.1
      ·have hfin : checkP a0 l1 l2 a3_0 l3_1 = 20 := by rw [Hres.out, hr1, if_neg (by simp)]
       have Hfin := Aside0.mk hfin
       clear hfin hS7 hT7 hr1 Hn
       go_wp2
       go_ret
       exact ⟨by rw [Hfin.out]; rfl, hW7⟩
      ·have hc4 : w7.cell? ⟨w3.heap.size + 1, 4, none⟩ = some (.slice (some ⟨w3.heap.size, 0, none⟩) l3_1.length l3_1.length) := by
        have h := hS7.hC
        rw [Hcb.out, Hsbs.out, Hsn.out] at h
        exact (blk_cell h 4).trans rfl
       have hcn := containsB_calls w3.heap.size rt.2 l3_1.length w7 (by have h := hS7.hS; rwa [Hsbs.out] at h) (by rw [Hrl.out]; have := Hbig.out; omega)
       rw [Hrl.out] at hcn
       have Hcn := Aside0.mk hcn
       have Hr1' := Aside0.mk hr1
       clear hS7 hT7 hcn hr1 Hn
       cases hall : rt.2.all id
       ·rw [hall] at Hcn
        have hfin : checkP a0 l1 l2 a3_0 l3_1 = 20 := by rw [Hres.out, hall, if_neg (by simp)]
        have Hfin := Aside0.mk hfin
        clear hfin hall
        go_wp2_with fail
        refine Hcn.out.mono ?_
        rintro e w8 ⟨rfl, hb8⟩
        have hW8 := hW7.trans (hb8.mono hW7.size)
        clear hb8 Hcn
        go_wp2
        go_ret
        exact ⟨by rw [Hfin.out]; rfl, hW8⟩
       ·rw [hall] at Hcn
        have hfin : checkP a0 l1 l2 a3_0 l3_1 = 0 := by rw [Hres.out, hall, Hr1'.out, if_pos ⟨rfl, rfl⟩]
        have Hfin := Aside0.mk hfin
        clear hfin hall
        go_wp2_with fail
        refine Hcn.out.mono ?_
        rintro e w8 ⟨rfl, hb8⟩
        have hW8 := hW7.trans (hb8.mono hW7.size)
        clear hb8 Hcn
        go_wp2
        go_ret
        exact ⟨by rw [Hfin.out]; rfl, hW8⟩
     ·have hres : checkP a0 l1 l2 a3_0 l3_1 = 20 := by unfold checkP; rw [if_neg (by rw [Hz.out]; simp), if_neg (by rw [Hfe.out]; simp), if_neg Hbig.out, if_pos (.inr hvv)]
      have Hres := Aside0.mk hres
      have hd4 : (a3_0 != valP l1 l2) = true := by simpa using hvv
      clear hres hvv
      generalize valP l1 l2 = vv at *
      go_upto_region 8 with (fail)
      refine wp_region_held_drew (S := fun w' => w'.cell? ⟨w.heap.size, 0, none⟩ = some (.int .i64 a3_0) ∧ w'.cell? ⟨w.heap.size, 1, none⟩ = some (.slice A3_1 l3_1.length c3_1)) (by kernel_rfl) (Hkeep.out w2.drew (below_drew0 w2)) ?_
      intro hS0
      refine wpAnyH_take (i := 0) (v := ?_) rfl (by kernel_rfl) (by kernel_rfl) (by kernel_rfl) (fun _ _ _ h => h) (Or.inl ⟨by rfl, ?_⟩) (by assumption) ?_
      rotate_left
      ·(intro w_ hSw_; (try dsimp only at hSw_); go_simp; try with_reducible rfl)
      try simp only [Act.put, List.getElem_toArray, List.getElem_cons_zero, List.getElem_cons_succ, List.setIfInBounds_toArray, List.set_cons_zero, List.set_cons_succ]
      refine wpAnyH_take (i := 1) (v := ?_) rfl (by kernel_rfl) (by kernel_rfl) (by kernel_rfl) (fun _ _ _ h => h) (Or.inl ⟨by rfl, ?_⟩) (by assumption) ?_
      rotate_left
      ·(intro w_ hSw_; (try dsimp only at hSw_); go_simp; try with_reducible rfl)
      try simp only [Act.put, List.getElem_toArray, List.getElem_cons_zero, List.getElem_cons_succ, List.setIfInBounds_toArray, List.set_cons_zero, List.set_cons_succ]
      refine wpAnyH_take (i := 2) (v := ?_) rfl (by kernel_rfl) (by kernel_rfl) (by kernel_rfl) (fun _ _ _ h => h) (Or.inl ⟨by rfl, ?_⟩) (by assumption) ?_
      rotate_left
      ·(intro w_ hSw_; (try dsimp only at hSw_); go_simp; try with_reducible rfl)
      try simp only [Act.put, List.getElem_toArray, List.getElem_cons_zero, List.getElem_cons_succ, List.setIfInBounds_toArray, List.set_cons_zero, List.set_cons_succ]
      refine wpAnyH_take (i := 3) (v := ?_) rfl (by kernel_rfl) (by kernel_rfl) (by kernel_rfl) (fun _ _ _ h => h) (Or.inl ⟨by rfl, ?_⟩) (by assumption) ?_
      rotate_left
      ·(intro w_ hSw_; (try dsimp only at hSw_); go_simp; try with_reducible rfl)
      try simp only [Act.put, List.getElem_toArray, List.getElem_cons_zero, List.getElem_cons_succ, List.setIfInBounds_toArray, List.set_cons_zero, List.set_cons_succ]
      refine wpAnyH_take (i := 4) (v := ?_) rfl (by kernel_rfl) (by kernel_rfl) (by kernel_rfl) (fun _ _ _ h => h) (Or.inl ⟨by rfl, ?_⟩) (by assumption) ?_
      rotate_left
      ·(intro w_ hSw_; (try dsimp only at hSw_); go_simp; try with_reducible rfl)
      try simp only [Act.put, List.getElem_toArray, List.getElem_cons_zero, List.getElem_cons_succ, List.setIfInBounds_toArray, List.set_cons_zero, List.set_cons_succ]
      refine wpAnyH_take (i := 5) (v := ?_) rfl (by kernel_rfl) (by kernel_rfl) (by kernel_rfl) (fun _ _ _ h => h) (Or.inl ⟨by rfl, ?_⟩) (by assumption) ?_
      rotate_left
      ·(intro w_ hSw_; (try dsimp only at hSw_); go_simp; try with_reducible rfl)
      try simp only [Act.put, List.getElem_toArray, List.getElem_cons_zero, List.getElem_cons_succ, List.setIfInBounds_toArray, List.set_cons_zero, List.set_cons_succ]
      refine wpAnyH_take (i := 6) (v := ?_) rfl (by kernel_rfl) (by kernel_rfl) (by kernel_rfl) (fun _ _ _ h => h) (Or.inl ⟨by rfl, ?_⟩) (by assumption) ?_
      rotate_left
      ·(intro w_ hSw_; (try dsimp only at hSw_); go_simp; try with_reducible rfl)
      try simp only [Act.put, List.getElem_toArray, List.getElem_cons_zero, List.getElem_cons_succ, List.setIfInBounds_toArray, List.set_cons_zero, List.set_cons_succ]
      refine wpAnyH_take (i := 7) (v := ?_) rfl (by kernel_rfl) (by kernel_rfl) (by kernel_rfl) (fun _ _ _ h => h) (Or.inl ⟨by rfl, ?_⟩) (by assumption) ?_
      rotate_left
      ·(intro w_ hSw_; (try dsimp only at hSw_); go_simp; try with_reducible rfl)
      try simp only [Act.put, List.getElem_toArray, List.getElem_cons_zero, List.getElem_cons_succ, List.setIfInBounds_toArray, List.set_cons_zero, List.set_cons_succ]
      refine wpAnyH_take (i := 8) (v := ?_) rfl (by kernel_rfl) (by kernel_rfl) (by kernel_rfl) (fun _ _ _ h => h) (Or.inl ⟨by rfl, ?_⟩) (by assumption) ?_
      rotate_left
      ·(intro w_ hSw_; (try dsimp only at hSw_); go_simp; try with_reducible rfl)
      try simp only [Act.put, List.getElem_toArray, List.getElem_cons_zero, List.getElem_cons_succ, List.setIfInBounds_toArray, List.set_cons_zero, List.set_cons_succ]
      refine wpAnyH_ready (rs := [9]) (by kernel_rfl) (by simp) ?_
      refine AllReadyH.cons rfl (fun K hK => ?_) AllReadyH.nil
      go_simp
      refine Hva.out.mono ?_
      rintro e w3 ⟨rfl, hd_⟩
      have hb3 := hd_.below
      refine hK.out _ _ (Hkeep.out w3 ⟨hb3.os, hb3.tape, hb3.output, hb3.size, hb3.block⟩) (fun hSn_ => ?_)
      clear hK K
      try simp only [Act.put, List.getElem_toArray, List.getElem_cons_zero, List.getElem_cons_succ, List.setIfInBounds_toArray, List.set_cons_zero, List.set_cons_succ]
      refine wpAnyH_take (i := 10) (v := ?_) rfl (by kernel_rfl) (by kernel_rfl) (by kernel_rfl) (fun _ _ _ h => h) (Or.inl ⟨by rfl, ?_⟩) (by assumption) ?_
      rotate_left
      ·(intro w_ hSw_; (try dsimp only at hSw_); go_simp; try with_reducible rfl)
      try simp only [Act.put, List.getElem_toArray, List.getElem_cons_zero, List.getElem_cons_succ, List.setIfInBounds_toArray, List.set_cons_zero, List.set_cons_succ]
      refine wpAnyH_take (i := 11) (v := ?_) rfl (by kernel_rfl) (by kernel_rfl) (by kernel_rfl) (fun _ _ _ h => h) (Or.inl ⟨by rfl, ?_⟩) (by assumption) ?_
      rotate_left
      ·(intro w_ hSw_; (try dsimp only at hSw_); go_simp; try with_reducible rfl)
      try simp only [Act.put, List.getElem_toArray, List.getElem_cons_zero, List.getElem_cons_succ, List.setIfInBounds_toArray, List.set_cons_zero, List.set_cons_succ]
      refine wpAnyH_take (i := 12) (v := ?_) rfl (by kernel_rfl) (by kernel_rfl) (by kernel_rfl) (fun _ _ _ h => h) (Or.inl ⟨by rfl, ?_⟩) (by assumption) ?_
      rotate_left
      ·(intro w_ hSw_; (try dsimp only at hSw_); go_simp; try with_reducible rfl)
      try simp only [Act.put, List.getElem_toArray, List.getElem_cons_zero, List.getElem_cons_succ, List.setIfInBounds_toArray, List.set_cons_zero, List.set_cons_succ]
      refine wpAnyH_done (by kernel_rfl) ?_ _
      have hW3 : Below w.heap.size w w3 := HW2.out.trans (Below.mono (w := w2) ⟨hb3.os, hb3.tape, hb3.output, hb3.size, hb3.block⟩ HW2.out.size)
      go_wp2
      go_ret
      exact ⟨by rw [Hres.out]; rfl, hW3⟩
 ·have hres : checkP a0 l1 l2 a3_0 l3_1 = validP a0 l1 := by unfold checkP; rw [if_pos hz]
  rw [hres]
  generalize validP a0 l1 = z at *
  have hz' : (z != 0) = true := by simpa using hz
  clear hz hres
  go_enter Try.func18, Try.ntmps18
  go_upto_region 1 with (fail)
  rw [← hwA]
  clear hwA
  go_wp2_with fail
  refine Hv.out.mono ?_
  rintro e w1 ⟨rfl, hb1⟩
  have hW1 := HbA.out.trans (hb1.mono HbA.out.size)
  clear hb1 Hv
  go_wp2
  go_ret
  exact ⟨rfl, hW1⟩
def worldmintlaw29_lives.f : Option Bool := some true
def livesB : List S82 := [⟨1, 6, [0, 1]⟩, ⟨2, 4, [0]⟩, ⟨3, 4, [1]⟩]
def alls (w : World) (os : List Obj) : World := os.foldl (fun w o => w.alloc o) w
theorem alls_size : ∀ (os : List Obj) (w : World), (alls w os).heap.size = w.heap.size + os.length
 | [], _ => rfl
 | o :: os, w => by
  have h := alls_size os (w.alloc o)
  rw [World.size_alloc] at h
  show (alls (w.alloc o) os).heap.size = _
  rw [h, List.length_cons]; omega
theorem alls_below : ∀ (os : List Obj) (w : World), Below w.heap.size w (alls w os)
 | [], w => Below.refl _ w
 | o :: os, w => by
  have h := alls_below os (w.alloc o)
  exact ((Below.refl _ w).alloc (Nat.le_refl _) o).trans (h.mono (by rw [World.size_alloc]; omega))
theorem alls_at : ∀ (os : List Obj) (w : World) (k : Nat) (o : Obj), os[k]? = some o → (alls w os).heap[w.heap.size + k]? = some o
 | [], _, _, _, h => by simp at h
 | x :: os, w, 0, o, h => by
  simp only [List.getElem?_cons_zero, Option.some.injEq] at h
  subst h
  have hb := alls_below os (w.alloc x)
  exact (hb.block _ (by rw [World.size_alloc]; omega)).trans (heap_alloc_new w x)
 | x :: os, w, k + 1, o, h => by
  simp only [List.getElem?_cons_succ] at h
  have h2 := alls_at os (w.alloc x) k o h
  rw [World.size_alloc] at h2
  rw [show w.heap.size + (k + 1) = w.heap.size + 1 + k by omega]
  exact h2
theorem C_lit {α : Type} (d : Kd α) {W : World} {b : Nat} {inner : List Value} {t : TypeId} {xs : List α} (h : W.heap[b]? = some (.cells inner.toArray t (0, 0))) (hr : Reps (d.K W) d.sz xs inner) (hn : xs.length ≤ 1000000) : d.C W (some ⟨b, 0, none⟩) xs.length xs := by
 refine ⟨rfl, by omega, fun _ => ⟨_, rfl, fun j p hj => ?_⟩⟩
 have hjl := (List.getElem?_eq_some_iff.1 hj).1
 refine ⟨(inner.drop (j * d.sz)).take d.sz, ?_, hr.2 j p hj, fun i u hi => ?_⟩
 ·rw [List.length_take, List.length_drop, hr.1]
  have : (j + 1) * d.sz ≤ xs.length * d.sz := Nat.mul_le_mul_right _ hjl
  rw [Nat.add_mul, Nat.one_mul] at this
  omega
 ·rw [show (⟨b, 0, none⟩ : Addr).add (j * d.sz + i) = ⟨b, j * d.sz + i, none⟩ by unfold Addr.add; split <;> simp_all]
  refine (blk_cell h _).trans ?_
  have hil : i < d.sz := by
   have := (List.getElem?_eq_some_iff.1 hi).1
   rw [List.length_take] at this
   omega
  rw [List.getElem?_take, if_pos hil, List.getElem?_drop] at hi
  rw [List.getElem?_toArray]
  exact hi
set_option maxHeartbeats 2000000 in
set_option maxRecDepth 100000 in
theorem worldmintlaw29_lives.calls (r : Bool) (w : World) (h : worldmintlaw29_lives.f = some r) : Calls Try.prog 22 #[] w fun e w' => e = .returned (.bool r) ∧ Below w.heap.size w w' := by
 obtain rfl := Option.some.inj h
 obtain ⟨n, hn⟩ : ∃ n, n = w.heap.size := ⟨_, rfl⟩
 obtain ⟨os, hos⟩ : ∃ os : List Obj, os = [.cells #[.int .i64 0, .int .i64 1] 3, .cells #[.int .i64 0] 3, .cells #[.int .i64 1] 3,
  .cells #[.int .i64 1, .int .i64 6, .slice (some ⟨n, 0, none⟩) 2 2, .int .i64 2, .int .i64 4, .slice (some ⟨n + 1, 0, none⟩) 1 1, .int .i64 3, .int .i64 4, .slice (some ⟨n + 2, 0, none⟩) 1 1] 82,
  .cells #[.int .i64 3, .int .i64 3] 3, .cells #[.int .i64 (-1), .int .i64 0, .int .i64 0, .slice (some ⟨n + 4, 0, none⟩) 2 2] 55, .cells #[.int .i64 8, .slice (some ⟨n + 5, 0, none⟩) 1 1] 44,
  .cells #[.int .i64 0, .int .i64 0] 3, .cells #[.int .i64 (-1), .int .i64 0, .int .i64 0, .slice (some ⟨n + 7, 0, none⟩) 2 2] 55, .cells #[.int .i64 8, .slice (some ⟨n + 8, 0, none⟩) 1 1] 44] := ⟨_, rfl⟩
 obtain ⟨W, hW⟩ : ∃ W, W = alls w os := ⟨_, rfl⟩
 have hB : Below n w W := by rw [hW, hn]; exact alls_below os w
 have hat : ∀ k o, os[k]? = some o → W.heap[n + k]? = some o := fun k o h => by rw [hW, hn]; exact alls_at os w k o h
 have hsz : W.heap.size = n + 10 := by rw [hW, alls_size, hn, hos]; rfl
 have h0 : Kd.C (Kd.int .i64) W (some ⟨n, 0, none⟩) 2 [0, 1] := C_blk (xs := [0, 1]) (hat 0 _ (by rw [hos]; rfl)) (by decide)
 have h1 : Kd.C (Kd.int .i64) W (some ⟨n + 1, 0, none⟩) 1 [0] := C_blk (xs := [0]) (hat 1 _ (by rw [hos]; rfl)) (by decide)
 have h2 : Kd.C (Kd.int .i64) W (some ⟨n + 2, 0, none⟩) 1 [1] := C_blk (xs := [1]) (hat 2 _ (by rw [hos]; rfl)) (by decide)
 have h4 : Kd.C (Kd.int .i64) W (some ⟨n + 4, 0, none⟩) 2 [3, 3] := C_blk (xs := [3, 3]) (hat 4 _ (by rw [hos]; rfl)) (by decide)
 have h7 : Kd.C (Kd.int .i64) W (some ⟨n + 7, 0, none⟩) 2 [0, 0] := C_blk (xs := [0, 0]) (hat 7 _ (by rw [hos]; rfl)) (by decide)
 have hb : Kd.C k82 W (some ⟨n + 3, 0, none⟩) 3 livesB := C_lit k82 (xs := livesB) (inner := [.int .i64 1, .int .i64 6, .slice (some ⟨n, 0, none⟩) 2 2, .int .i64 2, .int .i64 4, .slice (some ⟨n + 1, 0, none⟩) 1 1, .int .i64 3, .int .i64 4, .slice (some ⟨n + 2, 0, none⟩) 1 1]) (hat 3 _ (by rw [hos]; rfl))
  (Reps.c3 (k82_mk W ⟨1, 6, [0, 1]⟩ (Nat.le_refl _) h0) (Reps.c3 (k82_mk W ⟨2, 4, [0]⟩ (Nat.le_refl _) h1) (Reps.c3 (k82_mk W ⟨3, 4, [1]⟩ (Nat.le_refl _) h2) (Reps.none _ _)))) (by decide)
 have hp : Kd.C k55 W (some ⟨n + 5, 0, none⟩) 1 [⟨-1, 0, 0, [3, 3]⟩] := C_lit k55 (xs := [⟨-1, 0, 0, [3, 3]⟩]) (inner := [.int .i64 (-1), .int .i64 0, .int .i64 0, .slice (some ⟨n + 4, 0, none⟩) 2 2]) (hat 5 _ (by rw [hos]; rfl)) (Reps.c4 (k55_mk W ⟨-1, 0, 0, [3, 3]⟩ (Nat.le_refl _) h4) (Reps.none _ _)) (by decide)
 have hq : Kd.C k55 W (some ⟨n + 8, 0, none⟩) 1 [⟨-1, 0, 0, [0, 0]⟩] := C_lit k55 (xs := [⟨-1, 0, 0, [0, 0]⟩]) (inner := [.int .i64 (-1), .int .i64 0, .int .i64 0, .slice (some ⟨n + 7, 0, none⟩) 2 2]) (hat 8 _ (by rw [hos]; rfl)) (Reps.c4 (k55_mk W ⟨-1, 0, 0, [0, 0]⟩ (Nat.le_refl _) h7) (Reps.none _ _)) (by decide)
 have hb6 := hat 6 _ (show os[6]? = _ by rw [hos]; rfl)
 have hb9 := hat 9 _ (show os[9]? = _ by rw [hos]; rfl)
 have hcells : ∀ W', Below W.heap.size W W' → W'.cell? ⟨n + 6, 0, none⟩ = some (.int .i64 8) ∧ W'.cell? ⟨n + 6, 1, none⟩ = some (.slice (some ⟨n + 5, 0, none⟩) 1 1) ∧ W'.cell? ⟨n + 9, 0, none⟩ = some (.int .i64 8) ∧ W'.cell? ⟨n + 9, 1, none⟩ = some (.slice (some ⟨n + 8, 0, none⟩) 1 1) := fun W' hW' => by
  have g6 := (hW'.block _ (by omega)).trans hb6
  have g9 := (hW'.block _ (by omega)).trans hb9
  exact ⟨(blk_cell g6 0).trans rfl, (blk_cell g6 1).trans rfl, (blk_cell g9 0).trans rfl, (blk_cell g9 1).trans rfl⟩
 have hcall : ∀ (V : World), Below W.heap.size W V → ∀ (a b : Int) (P : S55) (x : Nat), Kd.C k55 W (some ⟨x, 0, none⟩) 1 [P] → ∀ z : Int, checkP 2 livesB [a, b] 8 [P] = z →
   Calls Try.prog 18 #[.int .i64 2, .slice (some ⟨n + 3, 0, none⟩) 3 3, .slice (some ⟨V.heap.size, 0, none⟩) 2 2, .agg #[.int .i64 8, .slice (some ⟨x, 0, none⟩) 1 1]] (V.alloc (.cells #[.int .i64 a, .int .i64 b] 3)) fun e w' => e = .returned (.int .i64 z) ∧ Below (V.alloc (.cells #[.int .i64 a, .int .i64 b] 3)).heap.size (V.alloc (.cells #[.int .i64 a, .int .i64 b] 3)) w' := fun V hV a b P x hP z hz =>
  proof_Check.calls 2 (some ⟨n + 3, 0, none⟩) 3 livesB (some ⟨V.heap.size, 0, none⟩) 2 [a, b] 8 (some ⟨x, 0, none⟩) 1 [P] z (V.alloc (.cells #[.int .i64 a, .int .i64 b] 3)) (Kd.C_alloc (Kd.C_below hb hV) _) (Nat.le_refl _) (C_blk (xs := [a, b]) (heap_alloc_new V _) (by show 2 ≤ _; omega)) (Nat.le_refl _) (Kd.C_alloc (Kd.C_below hP hV) _) (Nat.le_refl _) (by unfold proof_Check.f; rw [hz])
 have Hcall := Aside0.mk hcall
 have Hcells := Aside0.mk hcells
 have HB := Aside0.mk hB
 have Hp := Aside0.mk hp
 have Hq := Aside0.mk hq
 clear h0 h1 h2 h4 h7 hb hb6 hb9 hcells hcall hat hB hp hq
 go_enter Try.func22, Try.ntmps22
 go_upto_region 4 with (fail)
 generalize hX : World.alloc _ _ = X
 have hXW : X = W := by rw [← hX, hW, hos, hn]; rfl
 subst hXW
 rw [← hn]
 simp only [Nat.add_assoc, Nat.reduceAdd]
 have Hn := Aside0.mk hn
 clear hn hsz hX hW hos
 obtain ⟨z0, z1, _⟩ := Hcells.out X (Below.refl _ _)
 have hal : ∀ (o : Obj) (V : World), Below X.heap.size X V → Below X.heap.size X (V.alloc o) := fun o V hV => hV.alloc hV.size o
 have c1 := Hcall.out X (Below.refl _ _) 1 2 ⟨-1, 0, 0, [3, 3]⟩ (n + 5) Hp.out 0 (by kernel_rfl)
 obtain ⟨y0, y1, _⟩ := Hcells.out (X.alloc (.cells #[.int .i64 1, .int .i64 2] 3)) (hal _ _ (Below.refl _ _))
 have C1 := Aside0.mk c1
 clear c1
 go_wp2_with fail
 refine C1.out.mono ?_
 rintro e w1 ⟨rfl, hb1⟩
 have hB1 : Below X.heap.size X w1 := (hal _ _ (Below.refl _ _)).trans (hb1.mono (by rw [World.size_alloc]; omega))
 have c2 := Hcall.out w1 hB1 1 2 ⟨-1, 0, 0, [0, 0]⟩ (n + 8) Hq.out 20 (by kernel_rfl)
 have C2 := Aside0.mk c2
 clear y0 y1 c2 hb1 z0 z1 C1
 obtain ⟨_, _, y0, y1⟩ := Hcells.out (w1.alloc (.cells #[.int .i64 1, .int .i64 2] 3)) (hal _ _ hB1)
 go_wp2_with fail
 refine C2.out.mono ?_
 rintro e w2 ⟨rfl, hb2⟩
 have hB2 : Below X.heap.size X w2 := (hal _ _ hB1).trans (hb2.mono (by rw [World.size_alloc]; have := hB1.size; omega))
 have c3 := Hcall.out w2 hB2 0 1 ⟨-1, 0, 0, [3, 3]⟩ (n + 5) Hp.out 1 (by kernel_rfl)
 have C3 := Aside0.mk c3
 clear y0 y1 c3 hb2 hB1 C2
 obtain ⟨y0, y1, _⟩ := Hcells.out (w2.alloc (.cells #[.int .i64 0, .int .i64 1] 3)) (hal _ _ hB2)
 go_wp2_with fail
 refine C3.out.mono ?_
 rintro e w3 ⟨rfl, hb3⟩
 have hB3 : Below X.heap.size X w3 := (hal _ _ hB2).trans (hb3.mono (by rw [World.size_alloc]; have := hB2.size; omega))
 clear y0 y1 hb3 hB2 C3
 obtain ⟨y0, y1, _⟩ := Hcells.out w3 hB3
 have c4 := proof_Size.calls 8 (some ⟨n + 5, 0, none⟩) 1 [⟨-1, 0, 0, [3, 3]⟩] 1 w3 (Kd.C_below Hp.out hB3) (Nat.le_refl _) rfl
 have C4 := Aside0.mk c4
 clear c4
 go_wp2_with fail
 refine C4.out.mono ?_
 rintro e w4 ⟨rfl, hd4⟩
 have hB4 := hd4
 have hnX : n ≤ X.heap.size := by rw [Hn.out]; exact HB.out.size
 have hfin : Below w.heap.size w w4 := by
  rw [← Hn.out]
  exact HB.out.trans ((hB3.mono hnX).trans (hB4.mono (Nat.le_trans hnX hB3.size)))
 clear hd4 hB4 C4 hB3 y0 y1
 go_wp2
 go_ret
 exact ⟨rfl, hfin⟩
end Go.Proofs.Ytdamibblnjeooaa.H

/- The reference's feasible choices. -/
namespace Go.Proofs.Ytdamibblnjeooaa.H
open Go.RowKit Go.Proofs.YtdamibblnjeooaaW.PrintWords Go.Proofs.YtdamibblnjeooaaW.PrintLast
set_option linter.unusedVariables false
set_option linter.unusedSimpArgs false
/-- Places that rise. -/
def Rising (n : Nat) (c : List Int) : Prop := (∀ k ∈ c, 0 ≤ k ∧ k < n) ∧ c.Pairwise (· < ·)
theorem choice_rising : ∀ (n bits i : Nat), (choiceP n bits i).Pairwise (· < ·)
 | 0, _, _ => by simp [choiceP]
 | n + 1, bits, i => by
  unfold choiceP
  split
  ·refine List.pairwise_cons.2 ⟨fun k hk => ?_, choice_rising n (bits / 2) (i + 1)⟩
   have := choice_ge n (bits / 2) (i + 1) k hk
   omega
  ·exact choice_rising n (bits / 2) (i + 1)
theorem choice_rise (n bits : Nat) : Rising n (choiceP n bits 0) :=
 ⟨fun k hk => by have := choice_ge n bits 0 k hk; omega, choice_rising n bits 0⟩
theorem choice_len : ∀ (n bits i : Nat), (choiceP n bits i).length ≤ n
 | 0, _, _ => by simp [choiceP]
 | n + 1, bits, i => by
  have := choice_len n (bits / 2) (i + 1)
  unfold choiceP
  split
  ·simp; omega
  ·omega
set_option maxHeartbeats 1000000 in
theorem rfeas_l2 (l : List S85) (hb : ∀ b ∈ l, b.f2.length ≤ 9223372036854775807) (c : List Int) (hc : ∀ k ∈ c, 0 ≤ k ∧ k < l.length) (hl : c.length ≤ 1000) (q : Nat) (x : Int) (hq : c[q]? = some x) (r : Bool)
  (hr : Ev (fun k => worldmintref27_Feasible.l1 k l c ((q + 1 : Nat) : Int)) r) : ∀ (d : List Int) (p : Nat), (c.take q).drop p = d → p ≤ q →
  Ev (fun k => worldmintref27_Feasible.l2 k l c (q : Int) (p : Int)) (!(d.any fun w => cf (l.map cv) w x) && r) := by
 have hqc : q < c.length := (List.getElem?_eq_some_iff.1 hq).1
 intro d
 induction d with
 | nil =>
  intro p hd hp
  have hpq : p = q := by
   have := congrArg List.length hd
   simp at this
   omega
  have hw : wrap64 ((q : Int) + 1) = ((q + 1 : Nat) : Int) := by rw [w64 _ (by omega) (by omega)]; omega
  refine Ev.succ ?_
  simp only [worldmintref27_Feasible.l2, if_neg (show ¬ (p : Int) < (q : Int) by omega), hw]
  simpa using hr
 | cons y d ih =>
  intro p hd hp
  obtain ⟨hx, hd', hlt⟩ := drop_cons (c.take q) p y d hd
  have hpq : p < q := by simp at hlt; omega
  have hy : c[p]? = some y := by rw [List.getElem?_take_of_lt hpq] at hx; exact hx
  obtain ⟨hy0, hy1⟩ := hc y (List.mem_of_getElem? hy)
  obtain ⟨hx0, hx1⟩ := hc x (List.mem_of_getElem? hq)
  have hw : wrap64 ((p : Int) + 1) = ((p + 1 : Nat) : Int) := by rw [w64 _ (by omega) (by omega)]; omega
  have hmx : rd_T85 l x ∈ l := by
   have : x.toNat < l.length := by omega
   simp [rd_T85, List.getD, this]
  have hmy : rd_T85 l y ∈ l := by
   have : y.toNat < l.length := by omega
   simp [rd_T85, List.getD, this]
  refine Ev.succ ?_
  simp only [worldmintref27_Feasible.l2, if_pos (show (p : Int) < (q : Int) by omega), if_pos (show (0 : Int) ≤ (q : Int) by omega), if_pos (show (q : Int) < (c.length : Int) by omega), rd_at c q x hq, if_pos hx0, if_pos hx1,
   if_pos (show (0 : Int) ≤ (p : Int) by omega), if_pos (show (p : Int) < (c.length : Int) by omega), rd_at c p y hy, if_pos hy0, if_pos hy1, hw]
  refine Ev.bind (rconf_ok _ _ _ _ _ _ (hb _ hmx) (hb _ hmy)) ?_
  have e : conf ⟨(rd_T85 l y).f0, (rd_T85 l y).f1, (rd_T85 l y).f2⟩ ⟨(rd_T85 l x).f0, (rd_T85 l x).f1, (rd_T85 l x).f2⟩ = cf (l.map cv) y x := by
   unfold cf
   rw [← rdR_cv, ← rdR_cv]
   rfl
  rw [e]
  simp only [List.any_cons]
  cases cf (l.map cv) y x
  ·have := ih (p + 1) hd' (by omega)
   simpa using this
  ·simpa using Ev.some_
theorem rfeas_l1 (l : List S85) (hb : ∀ b ∈ l, b.f2.length ≤ 9223372036854775807) (c : List Int) (hc : ∀ k ∈ c, 0 ≤ k ∧ k < l.length) (hl : c.length ≤ 1000) : ∀ (d : List Int) (q : Nat), c.drop q = d → q ≤ c.length →
  Ev (fun k => worldmintref27_Feasible.l1 k l c (q : Int)) (okS (fun _ => true) (l.map cv) (c.take q) d) := by
 intro d
 induction d with
 | nil =>
  intro q hd hq
  have := drop_nil c q hq hd
  refine Ev.succ ?_
  simp only [worldmintref27_Feasible.l1, if_neg (show ¬ (q : Int) < (c.length : Int) by omega), okS]
  exact Ev.some_
 | cons x d ih =>
  intro q hd hq
  obtain ⟨hx, hd', hlt⟩ := drop_cons c q x d hd
  have h1 := ih (q + 1) hd' (by omega)
  have hg : c[q] = x := by
   have := List.getElem?_eq_getElem hlt
   rw [hx] at this
   injection this with this
   exact this.symm
  rw [List.take_succ_eq_append_getElem hlt, hg] at h1
  have h2 := rfeas_l2 l hb c hc hl q x hx _ h1 (c.take q) 0 rfl (Nat.zero_le _)
  refine Ev.succ ?_
  simp only [worldmintref27_Feasible.l1, if_pos (show (q : Int) < (c.length : Int) by omega), okS, Bool.true_and]
  exact h2
theorem rfeas_ok (l : List S85) (hb : ∀ b ∈ l, b.f2.length ≤ 9223372036854775807) (c : List Int) (hc : Rising l.length c) (hl : c.length ≤ 1000) : Ev (fun k => worldmintref27_Feasible.f k l c) (okS (fun _ => true) (l.map cv) [] c) := by
 have h1 := rfeas_l1 l hb c hc.1 hl c 0 rfl (Nat.zero_le _)
 have : ∀ (d : List Int) (p : Nat), c.drop p = d → p ≤ c.length → Ev (fun k => worldmintref27_Feasible.l0 k l c (p : Int)) (okS (fun _ => true) (l.map cv) [] c) := by
  intro d
  induction d with
  | nil =>
   intro p hd hp
   have := drop_nil c p hp hd
   refine Ev.succ ?_
   simp only [worldmintref27_Feasible.l0, if_neg (show ¬ (p : Int) < (c.length : Int) by omega)]
   exact h1
  | cons x d ih =>
   intro p hd hp
   obtain ⟨hx, hd', hlt⟩ := drop_cons c p x d hd
   obtain ⟨hx0, hx1⟩ := hc.1 x (List.mem_of_getElem? hx)
   have hw : wrap64 ((p : Int) + 1) = ((p + 1 : Nat) : Int) := by rw [w64 _ (by omega) (by omega)]; omega
   have h2 := ih (p + 1) hd' (by omega)
   refine Ev.succ ?_
   simp only [worldmintref27_Feasible.l0, if_pos (show (p : Int) < (c.length : Int) by omega), if_pos (show (0 : Int) ≤ (p : Int) by omega), rd_at c p x hx, if_neg (show ¬ x < 0 by omega), if_neg (show ¬ x ≥ (l.length : Int) by omega), hw]
   cases p with
   | zero =>
    simp only [if_neg (show ¬ ((0 : Nat) : Int) > 0 by omega)]
    exact h2
   | succ q =>
    have hw2 : wrap64 (((q + 1 : Nat) : Int) - 1) = (q : Int) := by rw [w64 _ (by omega) (by omega)]; omega
    have hqx : c[q]? = some c[q] := List.getElem?_eq_getElem (by omega)
    have hlt2 : c[q] < x := by
     have h3 := List.pairwise_iff_getElem.1 hc.2 q (q + 1) (by omega) hlt (by omega)
     have h4 := List.getElem?_eq_getElem hlt
     rw [hx] at h4
     injection h4 with h4
     rw [h4]
     exact h3
    simp only [if_pos (show ((q + 1 : Nat) : Int) > 0 by omega), hw2, if_pos (show (0 : Int) ≤ (q : Int) by omega), if_pos (show (q : Int) < (c.length : Int) by omega), rd_at c q _ hqx, if_neg (show ¬ x ≤ c[q] by omega)]
    exact h2
 exact this c 0 rfl (Nat.zero_le _)
theorem okS_split (U : S82 → Bool) (l : List S82) : ∀ (s win : List Int), okS U l win s = (okS (fun _ => true) l win s && s.all fun k => U (l.getD k.toNat z82))
 | [], _ => rfl
 | k :: s, win => by
  simp only [okS, okS_split U l s, List.all_cons, Bool.true_and]
  cases U (l.getD k.toNat z82) <;> cases (win.any fun w => cf l w k) <;> cases okS (fun _ => true) l (win ++ [k]) s <;> simp
theorem feas_ok (l : List S82) : ∀ (s pre : List Int), (∀ k ∈ s, 0 ≤ k ∧ k < l.length) → s.Pairwise (· < ·) → (∀ p, pre.getLast? = some p → ∀ k ∈ s, p < k) → feasP l pre s = okS (fun _ => true) l pre s
 | [], _, _, _, _ => rfl
 | w :: s, pre, h0, hs, hp => by
  obtain ⟨h1, h2⟩ := List.pairwise_cons.1 hs
  obtain ⟨hw0, hw1⟩ := h0 w (by simp)
  have ih := feas_ok l s (pre ++ [w]) (fun k hk => h0 k (by simp [hk])) h2 (fun p e k hk => by
   rw [List.getLast?_append] at e
   simp at e
   subst e
   exact h1 k hk)
  have key : feasP l pre (w :: s) = (if (pre.any fun v => cf l v w) = true then false else feasP l (pre ++ [w]) s) := by
   simp only [feasP]
   cases hl : pre.getLast? with
   | none => rw [if_neg (by simp; omega)]; rfl
   | some p =>
    have := hp p hl w (by simp)
    rw [if_neg (by simp; omega)]
    rfl
  rw [key, ih]
  simp only [okS, Bool.true_and]
  cases pre.any fun v => cf l v w <;> simp
end Go.Proofs.Ytdamibblnjeooaa.H

/- Choices as sets of places: the best one, told without lists. Plain. -/
namespace Go.Proofs.Ytdamibblnjeooaa.H
open Go.RowKit
set_option linter.unusedVariables false
set_option linter.unusedSimpArgs false
/-- The places from i on, n of them, at which p holds. -/
def sel (p : Nat → Bool) : Nat → Nat → List Int
 | 0, _ => []
 | n + 1, i => if p i then (i : Int) :: sel p n (i + 1) else sel p n (i + 1)
def sumF (f : Nat → Int) : Nat → Nat → Int
 | 0, _ => 0
 | n + 1, i => f i + sumF f n (i + 1)
theorem mem_sel (p : Nat → Bool) (x : Int) : ∀ n i, x ∈ sel p n i ↔ ∃ k, i ≤ k ∧ k < i + n ∧ p k = true ∧ x = (k : Int)
 | 0, i => by simp [sel]; intro k h1 h2; omega
 | n + 1, i => by
  have ih := mem_sel p x n (i + 1)
  unfold sel
  by_cases h : p i = true
  ·rw [if_pos h, List.mem_cons, ih]
   constructor
   ·rintro (rfl | ⟨k, h1, h2, h3, h4⟩)
    ·exact ⟨i, by omega, by omega, h, rfl⟩
    ·exact ⟨k, by omega, by omega, h3, h4⟩
   ·rintro ⟨k, h1, h2, h3, h4⟩
    by_cases e : k = i
    ·subst e; exact .inl h4
    ·exact .inr ⟨k, by omega, by omega, h3, h4⟩
  ·rw [if_neg h, ih]
   constructor
   ·rintro ⟨k, h1, h2, h3, h4⟩
    exact ⟨k, by omega, by omega, h3, h4⟩
   ·rintro ⟨k, h1, h2, h3, h4⟩
    by_cases e : k = i
    ·subst e; exact absurd h3 h
    ·exact ⟨k, by omega, by omega, h3, h4⟩
theorem mem_sel0 (p : Nat → Bool) (n : Nat) (x : Int) : x ∈ sel p n 0 ↔ ∃ k, k < n ∧ p k = true ∧ x = (k : Int) := by
 rw [mem_sel]
 constructor
 ·rintro ⟨k, h1, h2, h3, h4⟩; exact ⟨k, by omega, h3, h4⟩
 ·rintro ⟨k, h2, h3, h4⟩; exact ⟨k, by omega, by omega, h3, h4⟩
theorem rise_sel (p : Nat → Bool) : ∀ n i, (sel p n i).Pairwise (· < ·)
 | 0, _ => List.Pairwise.nil
 | n + 1, i => by
  unfold sel
  split
  ·refine List.pairwise_cons.2 ⟨fun x hx => ?_, rise_sel p n (i + 1)⟩
   obtain ⟨k, h1, h2, h3, rfl⟩ := (mem_sel p x n (i + 1)).1 hx
   omega
  ·exact rise_sel p n (i + 1)
theorem sel_len (p : Nat → Bool) : ∀ n i, (sel p n i).length ≤ n
 | 0, i => by simp [sel]
 | n + 1, i => by
  have := sel_len p n (i + 1)
  unfold sel
  split
  ·simp; omega
  ·omega
theorem rise_ext : ∀ (s t : List Int), s.Pairwise (· < ·) → t.Pairwise (· < ·) → (∀ x, x ∈ s ↔ x ∈ t) → s = t
 | [], [], _, _, _ => rfl
 | [], y :: t, _, _, h => by have := (h y).2 (by simp); simp at this
 | x :: s, [], _, _, h => by have := (h x).1 (by simp); simp at this
 | x :: s, y :: t, hs, ht, h => by
  obtain ⟨s1, s2⟩ := List.pairwise_cons.1 hs
  obtain ⟨t1, t2⟩ := List.pairwise_cons.1 ht
  have e : x = y := by
   rcases List.mem_cons.1 ((h x).1 (by simp)) with e | e
   ·exact e
   ·rcases List.mem_cons.1 ((h y).2 (by simp)) with e2 | e2
    ·exact e2.symm
    ·have := t1 x e; have := s1 y e2; omega
  subst e
  rw [rise_ext s t s2 t2 (fun z => by
   constructor
   ·intro hz
    rcases List.mem_cons.1 ((h z).1 (by simp [hz])) with e | e
    ·subst e; exact absurd (s1 z hz) (Int.lt_irrefl _)
    ·exact e
   ·intro hz
    rcases List.mem_cons.1 ((h z).2 (by simp [hz])) with e | e
    ·subst e; exact absurd (t1 z hz) (Int.lt_irrefl _)
    ·exact e)]
theorem sel_of (n : Nat) (s : List Int) (h0 : ∀ k ∈ s, 0 ≤ k ∧ k < n) (h1 : s.Pairwise (· < ·)) : s = sel (fun k => decide ((k : Int) ∈ s)) n 0 := by
 refine rise_ext _ _ h1 (rise_sel _ _ _) (fun x => ?_)
 rw [mem_sel0]
 constructor
 ·intro hx
  obtain ⟨a, b⟩ := h0 x hx
  obtain ⟨k, rfl⟩ := Int.eq_ofNat_of_zero_le a
  exact ⟨k, by omega, by simpa using hx, rfl⟩
 ·rintro ⟨k, h2, h3, rfl⟩; simpa using h3
theorem choice_sel (p : Nat → Bool) : ∀ n i, ∃ bits, bits < 2 ^ n ∧ choiceP n bits i = sel p n i
 | 0, i => ⟨0, by simp, rfl⟩
 | n + 1, i => by
  obtain ⟨b, h1, h2⟩ := choice_sel p n (i + 1)
  by_cases h : p i = true
  ·refine ⟨2 * b + 1, by rw [Nat.pow_succ]; omega, ?_⟩
   unfold choiceP sel
   rw [if_pos (by omega), if_pos h, show (2 * b + 1) / 2 = b from by omega, h2]
  ·refine ⟨2 * b, by rw [Nat.pow_succ]; omega, ?_⟩
   unfold choiceP sel
   rw [if_neg (by omega), if_neg h, show 2 * b / 2 = b from by omega, h2]
/-- The price of the bid at a place; the value of a set of places. -/
def prc (l : List S82) (k : Nat) : Int := (l.getD k z82).f1
def valB (l : List S82) (p : Nat → Bool) : Int := sumF (fun k => if p k then prc l k else 0) l.length 0
def cj (l : List S82) (a b : Nat) : Bool := conf (l.getD a z82) (l.getD b z82)
theorem conf_comm (a b : S82) : conf a b = conf b a := by
 unfold conf
 have h1 : (a.f0 == b.f0) = (b.f0 == a.f0) := by rw [Bool.eq_iff_iff]; simp; exact ⟨fun h => h.symm, fun h => h.symm⟩
 have h2 : (b.f2.any fun k => a.f2.contains k) = (a.f2.any fun k => b.f2.contains k) := by
  rw [Bool.eq_iff_iff, List.any_eq_true, List.any_eq_true]
  constructor <;> (rintro ⟨x, h1, h2⟩; exact ⟨x, by simpa using h2, by simpa using h1⟩)
 rw [h1, h2]
theorem cj_comm (l : List S82) (a b : Nat) : cj l a b = cj l b a := conf_comm _ _
theorem prc_pos (l : List S82) (hp : ∀ b ∈ l, 1 ≤ b.f1) (k : Nat) (hk : k < l.length) : 1 ≤ prc l k := by
 unfold prc
 exact hp _ (by simp [List.getD, hk])
theorem val_sel (l : List S82) (p : Nat → Bool) : ∀ n i, valP l (sel p n i) = sumF (fun k => if p k then prc l k else 0) n i
 | 0, _ => rfl
 | n + 1, i => by
  have ih := val_sel l p n (i + 1)
  unfold sel sumF
  by_cases h : p i = true
  ·rw [if_pos h, if_pos h, ← ih]; rfl
  ·rw [if_neg h, if_neg h, ← ih]; omega
theorem valB_sel (l : List S82) (p : Nat → Bool) : valP l (sel p l.length 0) = valB l p := val_sel l p _ _
/-- A set of places that may win together. -/
def FeasU (U : S82 → Bool) (l : List S82) (p : Nat → Bool) : Prop :=
 (∀ a, a < l.length → p a = true → U (l.getD a z82) = true) ∧ ∀ a b, a < l.length → b < l.length → a ≠ b → p a = true → p b = true → cj l a b = false
/-- q has the first place at which they differ. -/
def dlt (n : Nat) (q p : Nat → Bool) : Prop := ∃ d, d < n ∧ q d = true ∧ p d = false ∧ ∀ x, x < d → q x = p x
structure IsBest (U : S82 → Bool) (l : List S82) (p : Nat → Bool) : Prop where
 feas : FeasU U l p
 max : ∀ q, FeasU U l q → valB l q ≤ valB l p
 first : ∀ q, FeasU U l q → valB l q = valB l p → ¬ dlt l.length q p
theorem ok_of_pairs (U : S82 → Bool) (l : List S82) : ∀ (s win : List Int), okS U l win s = true ↔ ((∀ k ∈ s, U (l.getD k.toNat z82) = true) ∧ (∀ w ∈ win, ∀ k ∈ s, cf l w k = false) ∧ s.Pairwise (fun a b => cf l a b = false))
 | [], win => by simp [okS]
 | k :: s, win => by
  have ih := ok_of_pairs U l s (win ++ [k])
  simp only [okS, Bool.and_eq_true, ih, Bool.not_eq_true']
  constructor
  ·rintro ⟨⟨h1, h2⟩, h3, h4, h5⟩
   have h2' : ∀ w ∈ win, cf l w k = false := fun w hw => by simpa using List.any_eq_false.1 h2 w hw
   refine ⟨fun x hx => ?_, fun w hw x hx => ?_, List.pairwise_cons.2 ⟨fun x hx => h4 k (by simp) x hx, h5⟩⟩
   ·rcases List.mem_cons.1 hx with rfl | hx
    ·exact h1
    ·exact h3 x hx
   ·rcases List.mem_cons.1 hx with rfl | hx
    ·exact h2' w hw
    ·exact h4 w (by simp [hw]) x hx
  ·rintro ⟨h1, h2, h3⟩
   obtain ⟨h4, h5⟩ := List.pairwise_cons.1 h3
   refine ⟨⟨h1 k (by simp), List.any_eq_false.2 (fun w hw => by simpa using h2 w hw k (by simp))⟩, fun x hx => h1 x (by simp [hx]), fun w hw x hx => ?_, h5⟩
   rcases List.mem_append.1 hw with hw | hw
   ·exact h2 w hw x (by simp [hx])
   ·rw [List.mem_singleton] at hw; subst hw; exact h4 x hx
theorem ok_sel (U : S82 → Bool) (l : List S82) (p : Nat → Bool) : okS U l [] (sel p l.length 0) = true ↔ FeasU U l p := by
 rw [ok_of_pairs]
 constructor
 ·rintro ⟨h1, _, h3⟩
  refine ⟨fun a ha hp => ?_, ?_⟩
  ·have := h1 (a : Int) ((mem_sel0 p _ _).2 ⟨a, ha, hp, rfl⟩)
   simpa using this
  ·have key : ∀ a b, a < l.length → b < l.length → a < b → p a = true → p b = true → cj l a b = false := by
    intro a b ha hb hab hpa hpb
    have hm : (a : Int) ∈ sel p l.length 0 := (mem_sel0 p _ _).2 ⟨a, ha, hpa, rfl⟩
    have hn : (b : Int) ∈ sel p l.length 0 := (mem_sel0 p _ _).2 ⟨b, hb, hpb, rfl⟩
    have hr := rise_sel p l.length 0
    generalize sel p l.length 0 = s at *
    induction s with
    | nil => simp at hm
    | cons x s ih =>
     obtain ⟨r1, r2⟩ := List.pairwise_cons.1 hr
     obtain ⟨c1, c2⟩ := List.pairwise_cons.1 h3
     rcases List.mem_cons.1 hm with e1 | e1
     ·rcases List.mem_cons.1 hn with e2 | e2
      ·omega
      ·subst e1; exact c1 _ e2
     ·rcases List.mem_cons.1 hn with e2 | e2
      ·have := r1 _ e1; omega
      ·exact ih (fun k hk => h1 k (by simp [hk])) (by simp) c2 e1 e2 r2
   intro a b ha hb hab hpa hpb
   rcases Nat.lt_or_gt_of_ne hab with h | h
   ·exact key a b ha hb h hpa hpb
   ·rw [cj_comm]; exact key b a hb ha h hpb hpa
 ·rintro ⟨h1, h2⟩
  refine ⟨fun k hk => ?_, by simp, ?_⟩
  ·obtain ⟨a, ha, hp, rfl⟩ := (mem_sel0 p _ _).1 hk
   exact h1 a ha hp
  ·refine (rise_sel p l.length 0).imp_of_mem (fun {a b} ha hb hab => ?_)
   obtain ⟨x, hx, hpx, rfl⟩ := (mem_sel0 p _ _).1 ha
   obtain ⟨y, hy, hpy, rfl⟩ := (mem_sel0 p _ _).1 hb
   exact h2 x y hx hy (by omega) hpx hpy
theorem dlt_less (q p : Nat → Bool) : ∀ n i, (∃ d, i ≤ d ∧ d < i + n ∧ q d = true ∧ p d = false ∧ ∀ x, i ≤ x → x < d → q x = p x) → lessP (sel q n i) (sel p n i) = true ∨ ∃ t, t ≠ [] ∧ sel q n i = sel p n i ++ t
 | 0, i, ⟨d, h1, h2, _⟩ => by omega
 | n + 1, i, ⟨d, h1, h2, h3, h4, h5⟩ => by
  by_cases e : d = i
  ·subst e
   unfold sel
   rw [if_pos h3, if_neg (by simp [h4])]
   cases hs : sel p n (d + 1) with
   | nil => exact .inr ⟨_, by simp, rfl⟩
   | cons y t =>
    have : (d : Int) < y := by
     obtain ⟨k, a, b, c, e⟩ := (mem_sel p y n (d + 1)).1 (by rw [hs]; simp)
     omega
    refine .inl ?_
    simp only [lessP]
    rw [if_neg (by omega)]
    simpa using this
  ·have ih := dlt_less q p n (i + 1) ⟨d, by omega, by omega, h3, h4, fun x a b => h5 x (by omega) b⟩
   have hi := h5 i (by omega) (by omega)
   unfold sel
   by_cases hp : p i = true
   ·rw [if_pos (by rw [hi]; exact hp), if_pos hp]
    rcases ih with ih | ⟨t, a, b⟩
    ·exact .inl (by simp only [lessP, if_true]; exact ih)
    ·exact .inr ⟨t, a, by rw [b]; rfl⟩
   ·rw [if_neg (by rw [hi]; exact hp), if_neg hp]
    exact ih
theorem valP_append (l : List S82) (a b : List Int) : valP l (a ++ b) = valP l a + valP l b := by
 unfold valP
 rw [List.map_append, List.sum_append]
theorem valP_pos (l : List S82) (hp : ∀ b ∈ l, 1 ≤ b.f1) (t : List Int) (ht : t ≠ []) (h : ∀ k ∈ t, 0 ≤ k ∧ k < l.length) : 1 ≤ valP l t := by
 have h1 : ∀ s : List Int, (∀ k ∈ s, 0 ≤ k ∧ k < l.length) → 0 ≤ valP l s := by
  intro s
  induction s with
  | nil => intro _; exact Int.le_refl _
  | cons k s ih =>
   intro h
   have h2 := ih (fun x hx => h x (by simp [hx]))
   have h3 := h k (by simp)
   have h4 : 1 ≤ (l.getD k.toNat z82).f1 := prc_pos l hp k.toNat (by omega)
   simp only [valP, List.map_cons, List.sum_cons] at h2 ⊢
   omega
 cases t with
 | nil => exact absurd rfl ht
 | cons k s =>
  have h2 := h1 s (fun x hx => h x (by simp [hx]))
  have h3 := h k (by simp)
  have h4 : 1 ≤ (l.getD k.toNat z82).f1 := prc_pos l hp k.toNat (by omega)
  simp only [valP, List.map_cons, List.sum_cons] at h2 ⊢
  omega
/-- Of two of one value the one that has the first difference is the less. -/
theorem dlt_same (l : List S82) (hp : ∀ b ∈ l, 1 ≤ b.f1) (q p : Nat → Bool) (h : dlt l.length q p) (hv : valB l q ≤ valB l p) : lessP (sel q l.length 0) (sel p l.length 0) = true := by
 obtain ⟨d, h1, h2, h3, h4⟩ := h
 rcases dlt_less q p l.length 0 ⟨d, by omega, by omega, h2, h3, fun x _ hx => h4 x hx⟩ with h5 | ⟨t, h5, h6⟩
 ·exact h5
 ·exfalso
  have h7 := valP_pos l hp t h5 (fun k hk => by
   obtain ⟨a, ha, _, rfl⟩ := (mem_sel0 q l.length k).1 (by rw [h6]; simp [hk])
   omega)
  rw [← valB_sel, ← valB_sel, h6, valP_append] at hv
  omega
theorem search_best (U : S82 → Bool) (l : List S82) (hp : ∀ b ∈ l, 1 ≤ b.f1) : ∃ p, IsBest U l p ∧ searchP U l = (sel p l.length 0, valB l p) := by
 obtain ⟨e1, e2, be, e3, e4⟩ := ext_valid (U := U) l 0 [] (l := l) rfl
 have hb := ext_best (U := U) (l := l) l 0 [] rfl hp
 rw [← search_ext hp] at e1 e2 e4 hb
 have hr := choice_ge l.length be 0
 have hs : (searchP U l).1 = sel (fun k => decide ((k : Int) ∈ (searchP U l).1)) l.length 0 := sel_of l.length _ (fun k hk => by
  rw [← e4] at hk
  have := hr k hk
  omega) (by
  rw [← e4]
  have : ∀ (n bits i : Nat), (choiceP n bits i).Pairwise (· < ·) := by
   intro n
   induction n with
   | zero => intro _ _; exact List.Pairwise.nil
   | succ n ih =>
    intro bits i
    unfold choiceP
    split
    ·refine List.pairwise_cons.2 ⟨fun x hx => ?_, ih _ _⟩
     have := choice_ge n (bits / 2) (i + 1) x hx
     omega
    ·exact ih _ _
  exact this _ _ _)
 generalize hpp : (fun k : Nat => decide ((k : Int) ∈ (searchP U l).1)) = p at hs
 have hv : (searchP U l).2 = valB l p := by rw [← e2, hs, valB_sel]
 refine ⟨p, ⟨?_, ?_, ?_⟩, by rw [← hs, ← hv]⟩
 ·rw [← ok_sel, ← hs]; exact e1
 ·intro q hq
  obtain ⟨bits, b1, b2⟩ := choice_sel q l.length 0
  have := (hb bits (by rw [b2]; exact (ok_sel U l q).2 hq)).1
  rw [b2, valB_sel] at this
  omega
 ·intro q hq hvq hd
  obtain ⟨bits, b1, b2⟩ := choice_sel q l.length 0
  have h1 := (hb bits (by rw [b2]; exact (ok_sel U l q).2 hq)).2 (by rw [b2, valB_sel]; omega)
  have h2 := dlt_same l hp q p hd (by omega)
  rw [b2, hs] at h1
  rcases h1 with h1 | h1
  ·rw [h1, less_irrefl] at h2; cases h2
  ·have := less_trans _ _ _ h1 h2
   rw [less_irrefl] at this
   cases this
end Go.Proofs.Ytdamibblnjeooaa.H

/- The reference's possible, Bound, right, Check. Plain. -/
namespace Go.Proofs.Ytdamibblnjeooaa.H
open Go.RowKit Go.Proofs.YtdamibblnjeooaaW.PrintWords Go.Proofs.YtdamibblnjeooaaW.PrintLast
set_option linter.unusedVariables false
set_option linter.unusedSimpArgs false
/-- Decisions, as a row and as two lists. -/
structure DecR (n : Nat) (dec ins outs : List Int) : Prop where
 len : dec.length = n
 li : ins.length ≤ 1000
 lo : outs.length ≤ 1000
 ri : ∀ k ∈ ins, 0 ≤ k ∧ k < n
 i1 : ∀ k : Nat, k < n → (dec.getD k 0 = 1 ↔ (k : Int) ∈ ins)
 i0 : ∀ k : Nat, k < n → (dec.getD k 0 = 0 ↔ ¬ (k : Int) ∈ ins ∧ ¬ (k : Int) ∈ outs)
/-- Is bid i possible, given the two lists? -/
def posL (l : List S82) (ins outs : List Int) (i : Nat) : Bool := (!ins.contains (i : Int) && !outs.contains (i : Int) && !ins.any fun k => conf (l.getD k.toNat z82) (l.getD i z82))
theorem rposL_ok (l : List S85) (hb : ∀ b ∈ l, b.f2.length ≤ 9223372036854775807) (ins outs : List Int) (hli : ins.length ≤ 1000) (hlo : outs.length ≤ 1000) (hri : ∀ k ∈ ins, 0 ≤ k ∧ k < (l.length : Int)) (i : Nat) (hi : i < l.length) :
  Ev (fun k => worldmintref29_possible.f k l ins outs (i : Int)) (posL (l.map cv) ins outs i) := by
 unfold posL
 have hl0 : ∀ (d : List Int) (p : Nat), ins.drop p = d → p ≤ ins.length → Ev (fun k => worldmintref29_possible.l0 k l ins (i : Int) (p : Int)) (!d.any fun k => conf ((l.map cv).getD k.toNat z82) ((l.map cv).getD i z82)) := by
  intro d
  induction d with
  | nil =>
   intro p hd hp
   have := drop_nil ins p hp hd
   refine Ev.succ ?_
   simp only [worldmintref29_possible.l0, if_neg (show ¬ (p : Int) < (ins.length : Int) by omega), List.any_nil, Bool.not_false]
   exact Ev.some_
  | cons y d ih =>
   intro p hd hp
   obtain ⟨hx, hd', hlt⟩ := drop_cons ins p y d hd
   have hw : wrap64 ((p : Int) + 1) = ((p + 1 : Nat) : Int) := by rw [w64 _ (by omega) (by omega)]; omega
   have h1 := ih (p + 1) hd' (by omega)
   have hy := hri y (List.mem_of_getElem? hx)
   have c0 : (p : Int) < (ins.length : Int) := by omega
   have c1 : (0 : Int) ≤ (p : Int) := by omega
   have c2 : (0 : Int) ≤ (i : Int) := by omega
   have c3 : (i : Int) < (l.length : Int) := by omega
   have hby := hb (rd_T85 l y) (by simp [rd_T85, List.getD, show y.toNat < l.length by omega])
   have hbi := hb (rd_T85 l (i : Int)) (by simp [rd_T85, List.getD, hi])
   have hr := rconf_ok (rd_T85 l y).f0 (rd_T85 l y).f1 (rd_T85 l y).f2 (rd_T85 l (i : Int)).f0 (rd_T85 l (i : Int)).f1 (rd_T85 l (i : Int)).f2 hby hbi
   rw [conf_comm] at hr
   have e1 : (l.map cv).getD y.toNat z82 = ⟨(rd_T85 l y).f0, (rd_T85 l y).f1, (rd_T85 l y).f2⟩ := by
    simp [rd_T85, List.getD, show y.toNat < l.length by omega, cv]
   have e2 : (l.map cv).getD i z82 = ⟨(rd_T85 l (i : Int)).f0, (rd_T85 l (i : Int)).f1, (rd_T85 l (i : Int)).f2⟩ := by
    simp [rd_T85, List.getD, hi, cv]
   refine Ev.succ ?_
   simp only [worldmintref29_possible.l0, if_pos c0, if_pos c1, if_pos hy.1, if_pos hy.2, if_pos c2, if_pos c3, rd_at ins p y hx, hw]
   refine Ev.bind hr ?_
   rw [List.any_cons, e1]
   rw [e2] at h1 ⊢
   cases hc : conf ⟨(rd_T85 l y).f0, (rd_T85 l y).f1, (rd_T85 l y).f2⟩ ⟨(rd_T85 l (i : Int)).f0, (rd_T85 l (i : Int)).f1, (rd_T85 l (i : Int)).f2⟩
   ·simp only [Bool.false_eq_true, if_false, Bool.false_or]
    exact h1
   ·simp only [if_true, Bool.true_or, Bool.not_true]
    exact Ev.some_
 unfold worldmintref29_possible.f
 refine Ev.bind (has_ok ins (i : Int) (by omega)) ?_
 cases hc : ins.contains (i : Int)
 ·simp only [Bool.false_eq_true, if_false]
  refine Ev.bind (has_ok outs (i : Int) (by omega)) ?_
  refine Ev.succ ?_
  cases hc2 : outs.contains (i : Int)
  ·simp only [worldmintref29_possible.j0, Bool.false_eq_true, if_false, Bool.not_false, Bool.true_and]
   exact hl0 ins 0 rfl (Nat.zero_le _)
  ·simp only [worldmintref29_possible.j0, if_true, Bool.not_true, Bool.and_false, Bool.false_and]
   exact Ev.some_
 ·simp only [if_true]
  refine Ev.succ ?_
  simp only [worldmintref29_possible.j0, if_true, Bool.not_true, Bool.false_and]
  exact Ev.some_
end Go.Proofs.Ytdamibblnjeooaa.H

/- The reference's grow and Full, walked by hand. -/
namespace Go.Proofs.Ytdamibblnjeooaa.H
open Go.RowKit Go.Proofs.YtdamibblnjeooaaW.PrintWords Go.Proofs.YtdamibblnjeooaaW.PrintLast Go.Proofs.YtdamibblnjeooaaW.PrintMore
set_option linter.unusedVariables false
set_option linter.unusedSimpArgs false
/-- The first bid that can still win. -/
def firstPos (l : List S82) (ins outs : List Int) : Option Nat := (List.range l.length).find? (posL l ins outs)
/-- The certificate that decides all possible bids, from a node on. -/
def growP (l : List S82) (n : Nat) : Nat → List S34 → List Int → List Int → List S34
 | 0, ns, _, _ => ns
 | f + 1, ns, ins, outs =>
  match firstPos l ins outs with
  | none => ns ++ [⟨-1, 0, 0, List.replicate n 0⟩]
  | some i => growP l n f ((growP l n f (ns ++ [⟨(i : Int), (ns.length : Int) + 1, 0, []⟩]) (ins ++ [(i : Int)]) outs).set ns.length ⟨(i : Int), (ns.length : Int) + 1, ((growP l n f (ns ++ [⟨(i : Int), (ns.length : Int) + 1, 0, []⟩]) (ins ++ [(i : Int)]) outs).length : Int), []⟩) ins (outs ++ [(i : Int)])
theorem growP_len (l : List S82) (n : Nat) : ∀ f ns ins outs, (growP l n f ns ins outs).length + 1 ≤ ns.length + 2 ^ f
 | 0, ns, _, _ => by simp [growP]
 | f + 1, ns, ins, outs => by
  have h0 : 0 < 2 ^ f := Nat.two_pow_pos f
  unfold growP
  split
  ·rw [List.length_append, Nat.pow_succ]; simp; omega
  ·rename_i i _
   have h1 := growP_len l n f (ns ++ [⟨(i : Int), (ns.length : Int) + 1, 0, []⟩]) (ins ++ [(i : Int)]) outs
   have h2 := growP_len l n f ((growP l n f (ns ++ [⟨(i : Int), (ns.length : Int) + 1, 0, []⟩]) (ins ++ [(i : Int)]) outs).set ns.length ⟨(i : Int), (ns.length : Int) + 1, ((growP l n f (ns ++ [⟨(i : Int), (ns.length : Int) + 1, 0, []⟩]) (ins ++ [(i : Int)]) outs).length : Int), []⟩) ins (outs ++ [(i : Int)])
   rw [List.length_append, List.length_singleton] at h1
   rw [List.length_set] at h2
   rw [Nat.pow_succ]
   omega
/-- What stood there stays. -/
theorem growP_pre (l : List S82) (n : Nat) : ∀ f ns ins outs, ∃ more, growP l n f ns ins outs = ns ++ more
 | 0, ns, _, _ => ⟨[], by simp [growP]⟩
 | f + 1, ns, ins, outs => by
  unfold growP
  split
  ·exact ⟨_, rfl⟩
  ·rename_i i _
   obtain ⟨m1, h1⟩ := growP_pre l n f (ns ++ [(⟨(i : Int), (ns.length : Int) + 1, 0, []⟩ : S34)]) (ins ++ [(i : Int)]) outs
   rw [h1]
   obtain ⟨m2, h2⟩ := growP_pre l n f ((ns ++ [(⟨(i : Int), (ns.length : Int) + 1, 0, []⟩ : S34)] ++ m1).set ns.length ⟨(i : Int), (ns.length : Int) + 1, ((ns ++ [(⟨(i : Int), (ns.length : Int) + 1, 0, []⟩ : S34)] ++ m1).length : Int), []⟩) ins (outs ++ [(i : Int)])
   rw [h2]
   refine ⟨(⟨(i : Int), (ns.length : Int) + 1, ((ns ++ [(⟨(i : Int), (ns.length : Int) + 1, 0, []⟩ : S34)] ++ m1).length : Int), []⟩ : S34) :: m1 ++ m2, ?_⟩
   rw [List.append_assoc, List.set_append_right _ _ (Nat.le_refl _), Nat.sub_self]
   simp
theorem growP_at (l : List S82) (n f : Nat) (ns : List S34) (x : S34) (ins outs : List Int) : (growP l n f (ns ++ [x]) ins outs)[ns.length]? = some x := by
 obtain ⟨m, h⟩ := growP_pre l n f (ns ++ [x]) ins outs
 rw [h, List.append_assoc, List.getElem?_append_right (Nat.le_refl _)]
 simp
/-- What a call of grow is told. -/
structure GCx where
 n : Nat
 v : Int
 Ab : Option Addr
 cb : Nat
 L : List S85
 w0 : World
def GCx.base (s : GCx) : Nat := s.w0.heap.size
structure GOk (s : GCx) : Prop where
 n8 : s.n ≤ 8
 l10 : s.L.length ≤ 10
 f2 : ∀ b ∈ s.L, b.f2.length ≤ 9223372036854775807
 cbl : s.L.length ≤ s.cb
 hr : Kd.C k85 s.w0 s.Ab s.L.length s.L
/-- The two lists of decisions. -/
structure GDec (s : GCx) (ins outs : List Int) : Prop where
 ri : ∀ k ∈ ins, 0 ≤ k ∧ k < (s.L.length : Int)
 ro : ∀ k ∈ outs, 0 ≤ k ∧ k < (s.L.length : Int)
 nd : (ins ++ outs).Nodup
def GrowC (s : GCx) (f : Nat) : Prop := ∀ (ns : List S34) (ins outs : List Int) (vs : Value) (A4 : Option Addr) (c4 : Nat) (A5 : Option Addr) (c5 : Nat) (w : World) (P okn : Nat → Prop),
 s.base ≤ w.heap.size → Kd.N k34 34 w s.base okn vs ns → Below s.base s.w0 w →
 Kd.F (Kd.int .i64) w P A4 ins.length ins → ins.length ≤ c4 → Kd.F (Kd.int .i64) w P A5 outs.length outs → outs.length ≤ c5 → (∀ k, P k → some k ≠ vs.ownBlock) →
 GDec s ins outs → s.L.length < ins.length + outs.length + f → ns.length + 2 ^ f ≤ 100000 →
 Calls Try.prog 46 #[.int .i64 (s.n : Int), .slice s.Ab s.L.length s.cb, .agg #[.int .i64 s.v, vs], .slice A4 ins.length c4, .slice A5 outs.length c5] w
  (fun e w' => ∃ vs', e = .returned (.agg #[.int .i64 s.v, vs']) ∧ Kd.N k34 34 w' s.base (fun k => okn k ∨ w.heap.size ≤ k) vs' (growP (s.L.map cv) s.n f ns ins outs) ∧ w.grownBy w' vs.ownBlock ∧ (vs'.ownBlock = vs.ownBlock ∨ ∃ b, vs'.ownBlock = some b ∧ w.heap.size ≤ b))
/-- How the boxes and rows of a call stand in X: vb lies in the box, vs is the list's row. -/
structure GSt (s : GCx) (w : World) (okn P : Nat → Prop) (own : Option Nat) (A4 : Option Addr) (ins : List Int) (A5 : Option Addr) (outs : List Int) (X : World) (vb vs : Value) (ns : List S34) : Prop where
 gr : w.grownBy X own
 sz : w.heap.size + 2 ≤ X.heap.size
 b7 : X.heap[w.heap.size]? = some (.cells #[.int .i64 s.v, vb] 30 (0, 0))
 b10 : X.heap[w.heap.size + 1]? = some (.cells #[.int .i64 0, .slice none 0 0] 30 (0, 0))
 hN : Kd.N k34 34 X s.base (fun k => (okn k ∧ k < w.heap.size) ∨ w.heap.size + 2 ≤ k) vs ns
 hat : vs.ownBlock = own ∨ ∃ b, vs.ownBlock = some b ∧ w.heap.size + 2 ≤ b
 fb : Below s.base s.w0 X
 hbw : s.base ≤ w.heap.size
 f4 : Kd.F (Kd.int .i64) X (fun k => P k ∧ k < w.heap.size) A4 ins.length ins
 f5 : Kd.F (Kd.int .i64) X (fun k => P k ∧ k < w.heap.size) A5 outs.length outs
 hap : ∀ k, P k → some k ≠ own
 hown : ∀ k, own = some k → k < w.heap.size
section
variable {s : GCx} {w : World} {okn P : Nat → Prop} {own : Option Nat} {A4 A5 : Option Addr} {ins outs : List Int} {X X1 : World} {vb vs v1 : Value} {ns ns1 : List S34}
theorem GSt.step (h : GSt s w okn P own A4 ins A5 outs X vb vs ns) (hb : Below X.heap.size X X1) : GSt s w okn P own A4 ins A5 outs X1 vb vs ns := by
 have hsz := h.sz
 exact ⟨⟨hb.os.trans h.gr.os, hb.tape.trans h.gr.tape, hb.output.trans h.gr.output, Nat.le_trans h.gr.size hb.size, fun k hk hne => (hb.block k (by omega)).trans (h.gr.block k hk hne)⟩, Nat.le_trans hsz hb.size, (hb.block _ (by omega)).trans h.b7, (hb.block _ (by omega)).trans h.b10, Kd.N_below h.hN hb, h.hat, h.fb.trans (hb.mono h.fb.size), h.hbw, Kd.F_below h.f4 hb, Kd.F_below h.f5 hb, h.hap, h.hown⟩
/-- The list has been written (its own block, or new ones). -/
theorem GSt.mv (h : GSt s w okn P own A4 ins A5 outs X vb vs ns) (hg : X.grownBy X1 vs.ownBlock) (hN : Kd.N k34 34 X1 s.base (fun k => (okn k ∧ k < w.heap.size) ∨ w.heap.size + 2 ≤ k) v1 ns1) (hat : v1.ownBlock = vs.ownBlock ∨ ∃ b, v1.ownBlock = some b ∧ X.heap.size ≤ b) :
  GSt s w okn P own A4 ins A5 outs X1 vb v1 ns1 := by
 have hsz := h.sz
 have hne : ∀ k, k < w.heap.size + 2 → (k < w.heap.size → some k ≠ own) → some k ≠ vs.ownBlock := by
  intro k hk hko he
  rcases h.hat with e | ⟨b, e, hb⟩
  ·rw [e] at he
   have := h.hown k he.symm
   exact hko this he
  ·rw [e] at he
   injection he with he
   omega
 have hP : ∀ k, P k ∧ k < w.heap.size → some k ≠ vs.ownBlock := fun k hk => hne k (by omega) (fun _ => h.hap k hk.1)
 refine ⟨⟨hg.os.trans h.gr.os, hg.tape.trans h.gr.tape, hg.output.trans h.gr.output, Nat.le_trans h.gr.size hg.size, fun k hk hn => (hg.block k (by omega) (hne k (by omega) (fun _ => hn))).trans (h.gr.block k hk hn)⟩, Nat.le_trans hsz hg.size, (hg.block _ (by omega) (hne _ (by omega) (fun h => by omega))).trans h.b7, (hg.block _ (by omega) (hne _ (by omega) (fun h => by omega))).trans h.b10, hN, ?_, h.fb.trans ⟨hg.os, hg.tape, hg.output, hg.size, fun k hk => hg.block k (Nat.lt_of_lt_of_le hk h.fb.size) (fun e => by have := Kd.N_base h.hN k e.symm; omega)⟩, h.hbw, Kd.F_grown h.f4 hg hP, Kd.F_grown h.f5 hg hP, h.hap, h.hown⟩
 rcases hat with e | ⟨b, e, hb⟩
 ·rw [e]; exact h.hat
 ·exact .inr ⟨b, e, by omega⟩
theorem GSt.fin (h : GSt s w okn P own A4 ins A5 outs X vb vs ns) (hX : X1 = X ∨ ∃ a b, X1 = (X.setCell ⟨w.heap.size + 1, 0, none⟩ a).setCell ⟨w.heap.size + 1, 1, none⟩ b) :
  Kd.N k34 34 X1 s.base (fun k => okn k ∨ w.heap.size ≤ k) vs ns ∧ w.grownBy X1 own ∧ (vs.ownBlock = own ∨ ∃ b, vs.ownBlock = some b ∧ w.heap.size ≤ b) := by
 have hat : vs.ownBlock = own ∨ ∃ b, vs.ownBlock = some b ∧ w.heap.size ≤ b := h.hat.elim .inl (fun ⟨b, e, hb⟩ => .inr ⟨b, e, by omega⟩)
 have hmono : ∀ k, (okn k ∧ k < w.heap.size) ∨ w.heap.size + 2 ≤ k → okn k ∨ w.heap.size ≤ k := fun k hk => hk.elim (fun x => .inl x.1) (fun x => .inr (by omega))
 rcases hX with rfl | ⟨a, b, rfl⟩
 ·exact ⟨Kd.N_mono h.hN hmono, h.gr, hat⟩
 ·have hB : Below w.heap.size X ((X.setCell ⟨w.heap.size + 1, 0, none⟩ a).setCell ⟨w.heap.size + 1, 1, none⟩ b) := ((Below.refl _ X).setCell (p := ⟨w.heap.size + 1, 0, none⟩) (Nat.le_succ _) a).setCell (p := ⟨w.heap.size + 1, 1, none⟩) (Nat.le_succ _) b
  have hne : ∀ k, (okn k ∧ k < w.heap.size) ∨ w.heap.size + 2 ≤ k → k ≠ w.heap.size + 1 := fun k hk => by omega
  exact ⟨Kd.N_mono (Kd.N_far (p := ⟨w.heap.size + 1, 1, none⟩) (Kd.N_far (p := ⟨w.heap.size + 1, 0, none⟩) h.hN hne a) hne b) hmono, ⟨hB.os.trans h.gr.os, hB.tape.trans h.gr.tape, hB.output.trans h.gr.output, Nat.le_trans h.gr.size hB.size, fun k hk hn => (hB.block k hk).trans (h.gr.block k hk hn)⟩, hat⟩
theorem GSt.apart (h : GSt s w okn P own A4 ins A5 outs X vb vs ns) : ∀ k, (P k ∧ k < w.heap.size) ∨ X.heap.size ≤ k → some k ≠ vs.ownBlock := by
 intro k hk he
 have hlt := Kd.N_lt h.hN k he.symm
 rcases hk with hk | hk
 ·rcases h.hat with e | ⟨b, e, hb⟩
  ·rw [e] at he; exact h.hap k hk.1 he
  ·rw [e] at he
   injection he with he
   omega
 ·omega
theorem GDec.take {s : GCx} {ins outs : List Int} (h : GDec s ins outs) (m : Nat) (hm : m < s.L.length) (hp : posL (s.L.map cv) ins outs m = true) : GDec s (ins ++ [(m : Int)]) outs ∧ GDec s ins (outs ++ [(m : Int)]) := by
 unfold posL at hp
 simp only [Bool.and_eq_true, Bool.not_eq_true', List.contains_eq_mem, decide_eq_false_iff_not] at hp
 obtain ⟨⟨n1, n2⟩, _⟩ := hp
 have hnd := h.nd
 constructor
 ·refine ⟨fun k hk => ?_, h.ro, ?_⟩
  ·rcases List.mem_append.1 hk with x | x
   ·exact h.ri k x
   ·rw [List.mem_singleton] at x; omega
  ·rw [List.nodup_append] at hnd ⊢
   refine ⟨?_, hnd.2.1, ?_⟩
   ·rw [List.nodup_append]
    refine ⟨hnd.1, by simp, ?_⟩
    intro a ha c hc e
    rw [List.mem_singleton] at hc
    subst hc; subst e
    exact n1 ha
   ·intro a ha c hc e
    rcases List.mem_append.1 ha with x | x
    ·exact hnd.2.2 a x c hc e
    ·rw [List.mem_singleton] at x
     subst x; subst e
     exact n2 hc
 ·refine ⟨h.ri, fun k hk => ?_, ?_⟩
  ·rcases List.mem_append.1 hk with x | x
   ·exact h.ro k x
   ·rw [List.mem_singleton] at x; omega
  ·rw [← List.append_assoc, List.nodup_append]
   refine ⟨hnd, by simp, ?_⟩
   intro a ha c hc e
   rw [List.mem_singleton] at hc
   subst hc; subst e
   rcases List.mem_append.1 ha with x | x
   ·exact n1 x
   ·exact n2 x
/-- A store into the box. -/
theorem GSt.put (h : GSt s w okn P own A4 ins A5 outs X vb vs ns) (u : Value) : GSt s w okn P own A4 ins A5 outs (X.setCell ⟨w.heap.size, 1, none⟩ u) u vs ns := by
 have hB : Below w.heap.size X (X.setCell ⟨w.heap.size, 1, none⟩ u) := (Below.refl _ X).setCell (p := ⟨w.heap.size, 1, none⟩) (Nat.le_refl _) u
 have hne : ∀ k, (okn k ∧ k < w.heap.size) ∨ w.heap.size + 2 ≤ k → k ≠ w.heap.size := fun k hk => by omega
 have hP : ∀ k, P k ∧ k < w.heap.size → k ≠ w.heap.size := fun k hk => by omega
 exact ⟨⟨hB.os.trans h.gr.os, hB.tape.trans h.gr.tape, hB.output.trans h.gr.output, Nat.le_trans h.gr.size hB.size, fun k hk hn => (hB.block k hk).trans (h.gr.block k hk hn)⟩, Nat.le_trans h.sz hB.size, blk_put h.b7 1 u rfl, (Below.heap_setCell X ⟨w.heap.size, 1, none⟩ u _ (by show w.heap.size + 1 ≠ w.heap.size; omega)).trans h.b10, Kd.N_far (p := ⟨w.heap.size, 1, none⟩) h.hN hne u, h.hat, h.fb.setCell (p := ⟨w.heap.size, 1, none⟩) h.hbw u, h.hbw, Kd.F_far (p := ⟨w.heap.size, 1, none⟩) h.f4 hP u, Kd.F_far (p := ⟨w.heap.size, 1, none⟩) h.f5 hP u, h.hap, h.hown⟩
theorem GSt.put0 (h : GSt s w okn P own A4 ins A5 outs X vb vs ns) : GSt s w okn P own A4 ins A5 outs (X.setCell ⟨w.heap.size, 0, none⟩ (.int .i64 s.v)) vb vs ns := by
 have hB : Below w.heap.size X (X.setCell ⟨w.heap.size, 0, none⟩ (.int .i64 s.v)) := (Below.refl _ X).setCell (p := ⟨w.heap.size, 0, none⟩) (Nat.le_refl _) _
 have hne : ∀ k, (okn k ∧ k < w.heap.size) ∨ w.heap.size + 2 ≤ k → k ≠ w.heap.size := fun k hk => by omega
 have hP : ∀ k, P k ∧ k < w.heap.size → k ≠ w.heap.size := fun k hk => by omega
 exact ⟨⟨hB.os.trans h.gr.os, hB.tape.trans h.gr.tape, hB.output.trans h.gr.output, Nat.le_trans h.gr.size hB.size, fun k hk hn => (hB.block k hk).trans (h.gr.block k hk hn)⟩, Nat.le_trans h.sz hB.size, blk_put h.b7 0 _ rfl, (Below.heap_setCell X ⟨w.heap.size, 0, none⟩ _ _ (by show w.heap.size + 1 ≠ w.heap.size; omega)).trans h.b10, Kd.N_far (p := ⟨w.heap.size, 0, none⟩) h.hN hne _, h.hat, h.fb.setCell (p := ⟨w.heap.size, 0, none⟩) h.hbw _, h.hbw, Kd.F_far (p := ⟨w.heap.size, 0, none⟩) h.f4 hP _, Kd.F_far (p := ⟨w.heap.size, 0, none⟩) h.f5 hP _, h.hap, h.hown⟩
theorem GSt.cells (h : GSt s w okn P own A4 ins A5 outs X vb vs ns) : X.cell? ⟨w.heap.size, 0, none⟩ = some (.int .i64 s.v) ∧ X.cell? ⟨w.heap.size, 1, none⟩ = some vb ∧ X.frozen? ⟨w.heap.size, 0, none⟩ = false ∧ X.frozen? ⟨w.heap.size, 1, none⟩ = false :=
 ⟨(blk_cell h.b7 0).trans rfl, (blk_cell h.b7 1).trans rfl, blk_frozen h.b7 0, blk_frozen h.b7 1⟩
theorem GSt.cells10 (h : GSt s w okn P own A4 ins A5 outs X vb vs ns) : X.cell? ⟨w.heap.size + 1, 0, none⟩ = some (.int .i64 0) ∧ X.cell? ⟨w.heap.size + 1, 1, none⟩ = some (.slice none 0 0) ∧ X.frozen? ⟨w.heap.size + 1, 0, none⟩ = false ∧ X.frozen? ⟨w.heap.size + 1, 1, none⟩ = false :=
 ⟨(blk_cell h.b10 0).trans rfl, (blk_cell h.b10 1).trans rfl, blk_frozen h.b10 0, blk_frozen h.b10 1⟩
end
theorem dec_len (m : Nat) : ∀ s : List Int, (∀ k ∈ s, 0 ≤ k ∧ k < (m : Int)) → s.Nodup → s.length ≤ m := by
 induction m with
 | zero =>
  intro s h _
  cases s with
  | nil => simp
  | cons x s => have := h x (by simp); omega
 | succ m ih =>
  intro s h hn
  have h1 := ih (s.erase (m : Int)) (fun k hk => by
   have h2 := h k (List.mem_of_mem_erase hk)
   have h3 := ((List.Nodup.mem_erase_iff hn).1 hk).1
   omega) (hn.erase _)
  by_cases hm : (m : Int) ∈ s
  ·have := List.length_erase_of_mem hm
   have : 0 < s.length := List.length_pos_of_mem hm
   omega
  ·rw [List.erase_of_not_mem hm] at h1; omega
theorem firstPos_none {l : List S82} {ins outs : List Int} (h : ∀ j, j < l.length → posL l ins outs j = false) : firstPos l ins outs = none := by
 unfold firstPos
 rw [List.find?_eq_none]
 intro x hx
 rw [h x (List.mem_range.1 hx)]
 simp
theorem firstPos_some {l : List S82} {ins outs : List Int} {i : Nat} (hi : i < l.length) (h : ∀ j, j < i → posL l ins outs j = false) (ht : posL l ins outs i = true) : firstPos l ins outs = some i := by
 unfold firstPos
 rw [List.find?_range_eq_some]
 refine ⟨ht, List.mem_range.2 hi, fun j hj => ?_⟩
 rw [h j hj]
 rfl
set_option maxHeartbeats 8000000 in
set_option maxRecDepth 100000 in
theorem grow_step (s : GCx) (ok : GOk s) (f : Nat) (Ih : GrowC s f) : GrowC s (f + 1) := by
 intro ns ins outs vs A4 c4 A5 c5 w P okn hbw hN hFb hF4 hc4 hF5 hc5 hap hd hfu hlen
 have hdl := dec_len s.L.length (ins ++ outs) (fun k hk => by
  rcases List.mem_append.1 hk with h | h
  ·exact hd.ri k h
  ·exact hd.ro k h) hd.nd
 rw [List.length_append] at hdl
 have hl10 := ok.l10
 have hcb := ok.cbl
 have hpos := fun i hi => rposL_ok s.L ok.f2 ins outs (by omega) (by omega) hd.ri i hi
 obtain ⟨Av, cv_, ev⟩ := Kd.N_slice hN
 subst ev
 obtain ⟨W2, hW2⟩ : ∃ W2, W2 = (w.alloc (.cells #[.int .i64 s.v, .slice Av ns.length cv_] 30)).alloc (.cells #[.int .i64 0, .slice none 0 0] 30) := ⟨_, rfl⟩
 have hB2 : Below w.heap.size w W2 := by rw [hW2]; exact ((Below.refl _ w).alloc (Nat.le_refl _) _).alloc (by simp) _
 have hst : GSt s w okn P (.slice Av ns.length cv_ : Value).ownBlock A4 ins A5 outs W2 (.slice Av ns.length cv_) (.slice Av ns.length cv_) ns := by
  refine ⟨⟨hB2.os, hB2.tape, hB2.output, hB2.size, fun k hk _ => hB2.block k hk⟩, by rw [hW2]; simp, ?_, ?_, Kd.N_mono (Kd.N_below (Kd.N_bound hN) hB2) (fun k hk => .inl hk), .inl rfl, hFb.trans (hB2.mono hbw), hbw, Kd.F_below (Kd.F_bound hF4) hB2, Kd.F_below (Kd.F_bound hF5) hB2, hap, fun k hk => Kd.N_lt hN k hk⟩
  ·rw [hW2]
   exact (Below.heap_alloc _ _ _ (by simp)).trans (heap_alloc_new w _)
  ·have h_ := heap_alloc_new (w.alloc (.cells #[.int .i64 s.v, .slice Av ns.length cv_] 30)) (.cells #[.int .i64 0, .slice none 0 0] 30)
   rw [World.size_alloc] at h_
   rw [hW2]
   exact h_
 have Hst := Aside0.mk hst
 have Hd := Aside0.mk hd
 have Hpos := Aside0.mk hpos
 have Hlen := Aside0.mk hlen
 have Hfu := Aside0.mk hfu
 clear hN hFb hF4 hF5 hap hd hpos hlen hfu hB2 hst
 go_enter Try.func46, Try.ntmps46
 go_upto_region 1 with (fail)
 rw [← hW2]
 clear hW2
 obtain ⟨hz0, hz1, hzf0, hzf1⟩ := Hst.out.cells
 go_wp2
 clear hz0 hz1 hzf0 hzf1
 go_loopw [12] (fun i wr => ∃ m : Nat, m ≤ s.L.length ∧ i = .int .i64 m ∧ Aside0 (∀ j, j < m → posL (s.L.map cv) ins outs j = false) ∧ Aside0 (Below W2.heap.size W2 wr)) (fun i _ => s.L.length - (intOf i).toNat)
 case atStart => exact ⟨0, by omega, rfl, ⟨fun j hj => by omega⟩, ⟨Below.refl _ _⟩⟩
 case round =>
  obtain ⟨m, hm, rfl, Hno, HB⟩ := hrel
  have hstr := Hst.out.step HB.out
  by_cases hlt : m < s.L.length
  ·obtain ⟨kp, hkp⟩ := (Hpos.out m hlt).ex
   have hcall := worldmintref29_possible.calls kp s.Ab s.cb s.L A4 c4 ins A5 c5 outs (m : Int) _ wr (Kd.C_below ok.hr hstr.fb) hcb (Kd.F_now hstr.f4) hc4 (Kd.F_now hstr.f5) hc5 hkp
   have Hcall := Aside0.mk hcall
   have Hstr := Aside0.mk hstr
   clear hcall hkp hstr
   cases hp : posL (s.L.map cv) ins outs m
   ·rw [hp] at Hcall
    go_wp2_with fail
    refine Hcall.out.mono ?_
    rintro e w1 ⟨rfl, hb1⟩
    have HB1 := Aside0.mk (HB.out.trans (hb1.mono HB.out.size))
    have Hno1 := Aside0.mk (show ∀ j, j < m + 1 → posL (s.L.map cv) ins outs j = false from fun j hj => by
     by_cases e : j = m
     ·subst e; exact hp
     ·exact Hno.out j (by omega))
    clear hb1 Hcall HB Hno Hstr
    go_wp2
    go_roundw
    case rel => exact ⟨m + 1, by omega, by go_num, Hno1, HB1⟩
    case measure => simp [intOf]; omega
   ·rw [hp] at Hcall
    go_wp2_with fail
    refine Hcall.out.mono ?_
    rintro e w1 ⟨rfl, hb1⟩
    have hst1 := Hstr.out.step hb1
    have hfirst : firstPos (s.L.map cv) ins outs = some m := firstPos_some (by rw [List.length_map]; exact hlt) Hno.out hp
    obtain ⟨hz0, hz1, hzf0, hzf1⟩ := hst1.cells
    have Hst1 := Aside0.mk hst1
    have Hfirst := Aside0.mk hfirst
    clear hb1 Hcall HB Hno Hstr hst1 hfirst
    have hw1 : IntKind.i64.wrap ((ns.length : Int) + 1) = (ns.length : Int) + 1 := IntWalk.i64_in _ (by have := Hlen.out; have := Nat.two_pow_pos (f + 1); omega)
    obtain ⟨x, hx⟩ : ∃ x : S34, x = ⟨(m : Int), (ns.length : Int) + 1, 0, []⟩ := ⟨_, rfl⟩
    have hFK : ∀ W : World, Kd.FK k34 W (fun _ => False) x [.int .i64 (m : Int), .int .i64 ((ns.length : Int) + 1), .int .i64 0, .slice none 0 0] := fun W => by
     rw [hx]
     exact k34_mkF W (fun _ => False) ⟨(m : Int), (ns.length : Int) + 1, 0, []⟩ (Nat.le_refl _) (Kd.F_nil _ W _)
    go_upto_region 9 with ((with_reducible refine gate_builtin (b := .append) (xs := #[.tmp 33, .tmp 38]) rfl ?_); at_builtin; refine Kd.N_append k34 (w0 := w1) s.base rfl (.tmp 33) (.tmp 38) 28 34 _ 48 rfl Try.underlying28 info34 rfl (by decide) (by omega) (.slice Av ns.length cv_) ns x [.int .i64 (m : Int), .int .i64 ((ns.length : Int) + 1), .int .i64 0, .slice none 0 0] (fun k => (okn k ∧ k < w.heap.size) ∨ w.heap.size + 2 ≤ k) (fun _ => False) rfl rfl (hFK _) (fun _ hk => hk.elim) ?aF Hst1.out.hN ?aB ?aS ?aL ?_; (case aF => exact fun k hk => .inr (Nat.le_trans Hst1.out.sz hk)); (case aB => exact Below.refl _ _); (case aS => exact Nat.le_trans hbw (Nat.le_trans Hst1.out.gr.size (Nat.le_refl _))); (case aL => have := Hlen.out; have := Nat.two_pow_pos (f + 1); omega); intro v7 w7 ho7 hb7 hg7 hat7; have Hst7 := Aside0.mk (Hst1.out.mv hg7 ho7 hat7); obtain ⟨A7, c7, ev7⟩ := Kd.N_slice ho7; rw [List.length_append, List.length_singleton] at ev7; subst ev7; clear ho7 hb7 hg7 hat7 hz0 hz1 hzf0 hzf1; obtain ⟨hz0, hz1, hzf0, hzf1⟩ := Hst7.out.cells)
    obtain ⟨w8, hw8⟩ : ∃ w8, w8 = w7.setCell ⟨w.heap.size, 1, none⟩ (.slice A7 (ns.length + 1) c7) := ⟨_, rfl⟩
    have Hst8 := Aside0.mk (show GSt s w okn P (.slice Av ns.length cv_ : Value).ownBlock A4 ins A5 outs w8 (.slice A7 (ns.length + 1) c7) (.slice A7 (ns.length + 1) c7) (ns ++ [x]) from by rw [hw8]; exact Hst7.out.put _)
    rw [← hw8]
    clear hw8 hz0 hz1 hzf0 hzf1 Hst7 Hst1
    have hC4 := Kd.F_now Hst8.out.f4
    go_upto_region 10 with ((with_reducible refine gate_builtin (b := .append) (xs := #[.tmp 41, .tmp 42]) rfl ?_); at_builtin; refine Kd.R_append_row (Value.int .i64) (0 : Int) (h1 := fun _ => rfl) (w0 := w8) w8.heap.size rfl (.tmp 41) (.tmp 42) 22 3 (.int .i64 0) 8 rfl Try.underlying22 info3 rfl (by decide) (.slice none 0 0) [] ins A4 ins.length c4 (fun k => w8.heap.size ≤ k) rfl rfl (fun _ hk => hk) ?aO hC4 ?aB ?aS ?aL ?_; (case aO => exact Kd.R_nil _ _ _ _ _); (case aB => exact Below.refl _ _); (case aS => exact Nat.le_refl _); (case aL => simp only [List.length_nil]; omega); intro v9 w9 ho9 hb9 hg9 hat9)
    rw [List.nil_append] at ho9
    obtain ⟨A9, c9, ev9⟩ := Kd.R_slice ho9
    subst ev9
    have Ho9 := Aside0.mk ho9
    have Hb9 := Aside0.mk hb9
    clear ho9 hb9 hg9 hat9 hC4
    obtain ⟨hz0, hz1, hzf0, hzf1⟩ := (Hst8.out.step Hb9.out).cells
    have hkeep : ∀ w', Below w8.heap.size w8 w' → w'.cell? ⟨w.heap.size, 0, none⟩ = some (.int .i64 s.v) ∧ w'.cell? ⟨w.heap.size, 1, none⟩ = some (.slice A7 (ns.length + 1) c7) := fun w' hb => by
     obtain ⟨h0, h1, _⟩ := (Hst8.out.step hb).cells
     exact ⟨h0, h1⟩
    have Hkeep := Aside0.mk hkeep
    clear hkeep hzf0 hzf1
    refine wp_region_last_drew (ds := [9]) (S := fun w' => w'.cell? ⟨w.heap.size, 0, none⟩ = some (.int .i64 s.v) ∧ w'.cell? ⟨w.heap.size, 1, none⟩ = some (.slice A7 (ns.length + 1) c7)) (by kernel_rfl) (Hkeep.out w9.drew (below_drew1 Hb9.out)) ?_
    intro hS0
    refine wpAnyLast_take (i := 0) (v := ?_) rfl (by kernel_rfl) (by kernel_rfl) (by kernel_rfl) (by kernel_rfl) (by kernel_rfl) (fun _ _ _ h => h) (Or.inl ⟨by rfl, ?_⟩) (by assumption) ?_
    rotate_left
    ·(intro w_ hSw_; (try dsimp only at hSw_); go_simp; try with_reducible rfl)
    try simp only [Act.put, List.getElem_toArray, List.getElem_cons_zero, List.getElem_cons_succ, List.setIfInBounds_toArray, List.set_cons_zero, List.set_cons_succ]
    refine wpAnyLast_take (i := 1) (v := ?_) rfl (by kernel_rfl) (by kernel_rfl) (by kernel_rfl) (by kernel_rfl) (by kernel_rfl) (fun _ _ _ h => h) (Or.inl ⟨by rfl, ?_⟩) (by assumption) ?_
    rotate_left
    ·(intro w_ hSw_; (try dsimp only at hSw_); go_simp; try with_reducible rfl)
    try simp only [Act.put, List.getElem_toArray, List.getElem_cons_zero, List.getElem_cons_succ, List.setIfInBounds_toArray, List.set_cons_zero, List.set_cons_succ]
    refine wpAnyLast_take (i := 2) (v := ?_) rfl (by kernel_rfl) (by kernel_rfl) (by kernel_rfl) (by kernel_rfl) (by kernel_rfl) (fun _ _ _ h => h) (Or.inl ⟨by rfl, ?_⟩) (by assumption) ?_
    rotate_left
    ·(intro w_ hSw_; (try dsimp only at hSw_); go_simp; try with_reducible rfl)
    try simp only [Act.put, List.getElem_toArray, List.getElem_cons_zero, List.getElem_cons_succ, List.setIfInBounds_toArray, List.set_cons_zero, List.set_cons_succ]
    refine wpAnyLast_take (i := 3) (v := ?_) rfl (by kernel_rfl) (by kernel_rfl) (by kernel_rfl) (by kernel_rfl) (by kernel_rfl) (fun _ _ _ h => h) (Or.inl ⟨by rfl, ?_⟩) (by assumption) ?_
    rotate_left
    ·(intro w_ hSw_; (try dsimp only at hSw_); go_simp; try with_reducible rfl)
    try simp only [Act.put, List.getElem_toArray, List.getElem_cons_zero, List.getElem_cons_succ, List.setIfInBounds_toArray, List.set_cons_zero, List.set_cons_succ]
    refine wpAnyLast_take (i := 4) (v := ?_) rfl (by kernel_rfl) (by kernel_rfl) (by kernel_rfl) (by kernel_rfl) (by kernel_rfl) (fun _ _ _ h => h) (Or.inl ⟨by rfl, ?_⟩) (by assumption) ?_
    rotate_left
    ·(intro w_ hSw_; (try dsimp only at hSw_); go_simp; try with_reducible rfl)
    try simp only [Act.put, List.getElem_toArray, List.getElem_cons_zero, List.getElem_cons_succ, List.setIfInBounds_toArray, List.set_cons_zero, List.set_cons_succ]
    refine wpAnyLast_take (i := 7) (v := ?_) rfl (by kernel_rfl) (by kernel_rfl) (by kernel_rfl) (by kernel_rfl) (by kernel_rfl) (fun _ _ _ h => h) (Or.inl ⟨by rfl, ?_⟩) (by assumption) ?_
    rotate_left
    ·(intro w_ hSw_; (try dsimp only at hSw_); go_simp; try with_reducible rfl)
    try simp only [Act.put, List.getElem_toArray, List.getElem_cons_zero, List.getElem_cons_succ, List.setIfInBounds_toArray, List.set_cons_zero, List.set_cons_succ]
    refine wpAnyLast_ready (rs := [5]) (by kernel_rfl) (by simp) ?_
    refine AllReadyL.cons rfl (by decide) (fun K hK => ?_) AllReadyL.nil
    go_simp
    refine hK.out _ _ (Hkeep.out _ (below_drew1 (Hb9.out.alloc Hb9.out.size _))) (fun hSn_ => ?_)
    clear hK K
    try simp only [Act.put, List.getElem_toArray, List.getElem_cons_zero, List.getElem_cons_succ, List.setIfInBounds_toArray, List.set_cons_zero, List.set_cons_succ]
    refine wpAnyLast_ready (rs := [6]) (by kernel_rfl) (by simp) ?_
    refine AllReadyL.cons rfl (by decide) (fun K hK => ?_) AllReadyL.nil
    rw [show (w9.alloc (.cells #[.int .i64 (m : Int)] 3)).drew = w9.drew.alloc (.cells [Value.int .i64 (m : Int)].toArray 3) from rfl]
    refine Kd.R_append_step (Kd.int .i64) (w0 := w8) w8.heap.size (by kernel_rfl) (.tmp 47) (.tmp 49) 22 3 (.int .i64 0) 8 rfl Try.underlying22 info3 rfl (by decide) (by decide) (.slice A9 ins.length c9) ins (m : Int) [.int .i64 (m : Int)] (fun k => w8.heap.size ≤ k) (fun _ => False) rfl rfl rfl (fun _ h => h.elim) (fun k hk => Nat.le_trans Hb9.out.size hk) (Kd.R_drew Ho9.out) (below_drew1 Hb9.out) Hb9.out.size (by omega) ?_
    intro v10 w10 ho10 hb10 hg10 hat10
    obtain ⟨A10, c10, ev10⟩ := Kd.R_slice ho10
    have hlc10 := (Kd.R_reads' (A := A10) (c := c10) (n := (ins ++ [(m : Int)]).length) (by rw [ev10] at ho10; exact ho10)).2.1
    rw [List.length_append, List.length_singleton] at ev10
    subst ev10
    refine hK.out _ _ (Hkeep.out _ hb10) (fun hSn_ => ?_)
    clear hK K
    try simp only [Act.put, List.getElem_toArray, List.getElem_cons_zero, List.getElem_cons_succ, List.setIfInBounds_toArray, List.set_cons_zero, List.set_cons_succ]
    have Hst10 := Aside0.mk (Hst8.out.step hb10)
    have hsz8 := Hst8.out.sz
    obtain ⟨hdec1, hdec2⟩ := Hd.out.take m hlt hp
    have hgc := Ih (ns ++ [x]) (ins ++ [(m : Int)]) outs (.slice A7 (ns.length + 1) c7) A10 c10 A5 c5 w10 (fun k => (P k ∧ k < w.heap.size) ∨ w8.heap.size ≤ k) (fun k => (okn k ∧ k < w.heap.size) ∨ (w.heap.size + 2 ≤ k ∧ k < w8.heap.size)) (Nat.le_trans hbw Hst10.out.gr.size)
     (Kd.N_mono (Kd.N_below (Kd.N_bound Hst8.out.hN) hb10) (fun k hk => hk.1.elim .inl (fun h => .inr ⟨h, hk.2⟩)))
     Hst10.out.fb (by rw [List.length_append, List.length_singleton]; exact Kd.F_mono (Kd.R_F ho10) (fun k hk => .inr hk)) hlc10 (Kd.F_mono Hst10.out.f5 (fun _ hk => .inl hk)) hc5 Hst8.out.apart hdec1 (by rw [List.length_append, List.length_singleton]; have := Hfu.out; omega) (by rw [List.length_append, List.length_singleton]; have h1 := Hlen.out; have := Nat.two_pow_pos f; rw [Nat.pow_succ] at h1; omega)
    rw [List.length_append, List.length_singleton] at hgc
    have hszb := hb10.size
    have hgl := growP_len (s.L.map cv) s.n f (ns ++ [x]) (ins ++ [(m : Int)]) outs
    rw [List.length_append, List.length_singleton] at hgl
    have hga := growP_at (s.L.map cv) s.n f ns x (ins ++ [(m : Int)]) outs
    have hres : growP (s.L.map cv) s.n (f + 1) ns ins outs = growP (s.L.map cv) s.n f ((growP (s.L.map cv) s.n f (ns ++ [x]) (ins ++ [(m : Int)]) outs).set ns.length ⟨(m : Int), (ns.length : Int) + 1, ((growP (s.L.map cv) s.n f (ns ++ [x]) (ins ++ [(m : Int)]) outs).length : Int), []⟩) ins (outs ++ [(m : Int)]) := by
     rw [hx]
     conv => lhs; unfold growP
     rw [Hfirst.out]
    have Hgc := Aside0.mk hgc
    have Hres := Aside0.mk hres
    have Hdec2 := Aside0.mk hdec2
    clear hgc hres hdec1 hdec2 hlc10 ho10 hg10 hat10 Hfirst Hpos
    generalize growP (s.L.map cv) s.n f (ns ++ [x]) (ins ++ [(m : Int)]) outs = a at *
    refine wpAnyLast_ready (rs := [8]) (by kernel_rfl) (by simp) ?_
    refine AllReadyL.cons rfl (by decide) (fun K hK => ?_) AllReadyL.nil
    go_simp
    refine Hgc.out.mono ?_
    rintro e w11 ⟨v11, rfl, ho11, hg11, hat11⟩
    obtain ⟨A11, c11, ev11⟩ := Kd.N_slice ho11
    subst ev11
    have Hst11 := Aside0.mk (Hst10.out.mv hg11 (Kd.N_mono ho11 (fun k hk => by rcases hk with (hk | hk) | hk; exact .inl hk; exact .inr hk.1; exact .inr (Nat.le_trans hsz8 (Nat.le_trans hszb hk)))) hat11)
    refine hK.out _ _ (by exact ⟨Hst11.out.cells.1, Hst11.out.cells.2.1⟩) (fun hSn_ => ?_)
    clear hK K
    try simp only [Act.put, List.getElem_toArray, List.getElem_cons_zero, List.getElem_cons_succ, List.setIfInBounds_toArray, List.set_cons_zero, List.set_cons_succ]
    clear ho11 hg11 hat11 Hgc Hst10 Hst8 hb10
    obtain ⟨hz0, hz1, hzf0, hzf1⟩ := Hst11.out.cells
    refine wpAnyLast_ready (rs := [9]) (by kernel_rfl) (by simp) ?_
    refine AllReadyL.cons_last rfl (by decide) (fun K hK => ?_) AllReadyL.nil
    go_simp
    refine hK.out _ _ ?_
    clear hK K
    try simp only [Act.put, List.getElem_toArray, List.getElem_cons_zero, List.getElem_cons_succ, List.setIfInBounds_toArray, List.set_cons_zero, List.set_cons_succ]
    refine wpAnyLast_done (by kernel_rfl) ?_ _
    obtain ⟨w12, hw12⟩ : ∃ w12, w12 = (w11.setCell ⟨w.heap.size, 0, none⟩ (.int .i64 s.v)).setCell ⟨w.heap.size, 1, none⟩ (.slice A11 a.length c11) := ⟨_, rfl⟩
    have hst12 : GSt s w okn P (.slice Av ns.length cv_ : Value).ownBlock A4 ins A5 outs w12 (.slice A11 a.length c11) (.slice A11 a.length c11) a := by rw [hw12]; exact Hst11.out.put0.put _
    rw [← hw12]
    have hal : ns.length < a.length := (List.getElem?_eq_some_iff.1 hga).1
    obtain ⟨g11, cc, ev, _, hgl11, cells11, hcells11⟩ := Kd.N_form hst12.hN (by omega)
    injection ev with ev _ ecc
    subst ev
    subst ecc
    obtain ⟨c, hcl, hFKc, hcc, hfr⟩ := Kd.N_elem hst12.hN z34 (ns.length : Int) (by omega) (by omega)
    rw [show a.getD (ns.length : Int).toNat z34 = x by simp [List.getD, hga], hx] at hFKc
    obtain ⟨A2, c2, ec, hl2, hF2⟩ := k34_openF hFKc
    obtain ⟨hN13, hg13⟩ := Kd.N_seg hst12.hN (ns.length : Int) (by omega) (by omega) (c := c) (seg := [.int .i64 (a.length : Int)]) (j := 2) (okp := fun k => ((okn k ∧ k < w.heap.size) ∨ w.heap.size + 2 ≤ k) ∧ k ≠ g11) hcl hcc (by show 2 + 1 ≤ 4; omega) (x' := ⟨(m : Int), (ns.length : Int) + 1, (a.length : Int), []⟩) (by rw [ec]; exact k34_mkF _ _ ⟨(m : Int), (ns.length : Int) + 1, (a.length : Int), []⟩ hl2 hF2) (fun _ hk => hk)
    rw [Int.toNat_natCast] at hcc hfr hN13 hg13
    have hx2 : w12.cell? ⟨g11, ns.length * 4 + 2, none⟩ = some (.int .i64 0) := hcc 2 (.int .i64 0) (by rw [ec]; rfl)
    have hf2 : w12.frozen? ⟨g11, ns.length * 4 + 2, none⟩ = false := hfr 2
    have hst13 : GSt s w okn P (.slice Av ns.length cv_ : Value).ownBlock A4 ins A5 outs (w12.setCell ⟨g11, ns.length * 4 + 2, none⟩ (.int .i64 (a.length : Int))) (.slice (some ⟨g11, 0, none⟩) a.length c11) (.slice (some ⟨g11, 0, none⟩) a.length c11) (a.set ns.length ⟨(m : Int), (ns.length : Int) + 1, (a.length : Int), []⟩) := hst12.mv hg13 hN13 (.inl rfl)
    obtain ⟨hz0, hz1, hzf0, hzf1⟩ := hst12.cells
    have Hst13 := Aside0.mk hst13
    have halI : (ns.length : Int) < (a.length : Int) := by omega
    clear hw12 Hst11 hfr hcc hcl ec hFKc hst12 hst13 hN13 hg13 hF2 hl2 hga hcells11
    go_upto_region 13 with (fail)
    obtain ⟨w13, hw13⟩ : ∃ w13, w13 = w12.setCell ⟨g11, ns.length * 4 + 2, none⟩ (.int .i64 (a.length : Int)) := ⟨_, rfl⟩
    rw [← hw13] at Hst13
    rw [← hw13]
    clear hw13 hx2 hf2 hz0 hz1 hzf0 hzf1
    obtain ⟨b, hb⟩ : ∃ b, b = a.set ns.length (⟨(m : Int), (ns.length : Int) + 1, (a.length : Int), []⟩ : S34) := ⟨_, rfl⟩
    have hbl : b.length = a.length := by rw [hb, List.length_set]
    have Hres2 := Aside0.mk (show growP (s.L.map cv) s.n (f + 1) ns ins outs = growP (s.L.map cv) s.n f b ins (outs ++ [(m : Int)]) from by rw [hb]; exact Hres.out)
    rw [← hb] at Hst13
    clear hb Hres
    have hC5 := Kd.F_now Hst13.out.f5
    go_upto_region 14 with ((with_reducible refine gate_builtin (b := .append) (xs := #[.tmp 61, .tmp 62]) rfl ?_); at_builtin; refine Kd.R_append_row (Value.int .i64) (0 : Int) (h1 := fun _ => rfl) (w0 := w13) w13.heap.size rfl (.tmp 61) (.tmp 62) 22 3 (.int .i64 0) 8 rfl Try.underlying22 info3 rfl (by decide) (.slice none 0 0) [] outs A5 outs.length c5 (fun k => w13.heap.size ≤ k) rfl rfl (fun _ hk => hk) ?aO hC5 ?aB ?aS ?aL ?_; (case aO => exact Kd.R_nil _ _ _ _ _); (case aB => exact Below.refl _ _); (case aS => exact Nat.le_refl _); (case aL => simp only [List.length_nil]; omega); intro v15 w15 ho15 hb15 hg15 hat15)
    rw [List.nil_append] at ho15
    obtain ⟨A15, c15, ev15⟩ := Kd.R_slice ho15
    subst ev15
    have Ho15 := Aside0.mk ho15
    have Hb15 := Aside0.mk hb15
    clear ho15 hb15 hg15 hat15 hC5 Hkeep Hb9 Ho9
    obtain ⟨hz0, hz1, hzf0, hzf1⟩ := (Hst13.out.step Hb15.out).cells
    have hkeep : ∀ w', Below w13.heap.size w13 w' → w'.cell? ⟨w.heap.size, 0, none⟩ = some (.int .i64 s.v) ∧ w'.cell? ⟨w.heap.size, 1, none⟩ = some (.slice (some ⟨g11, 0, none⟩) a.length c11) := fun w' hb => by
     obtain ⟨h0, h1, _⟩ := (Hst13.out.step hb).cells
     exact ⟨h0, h1⟩
    have Hkeep := Aside0.mk hkeep
    clear hkeep hzf0 hzf1
    refine wp_region_last_drew (ds := [9]) (S := fun w' => w'.cell? ⟨w.heap.size, 0, none⟩ = some (.int .i64 s.v) ∧ w'.cell? ⟨w.heap.size, 1, none⟩ = some (.slice (some ⟨g11, 0, none⟩) a.length c11)) (by kernel_rfl) (Hkeep.out w15.drew (below_drew1 Hb15.out)) ?_
    intro hS0
    refine wpAnyLast_take (i := 0) (v := ?_) rfl (by kernel_rfl) (by kernel_rfl) (by kernel_rfl) (by kernel_rfl) (by kernel_rfl) (fun _ _ _ h => h) (Or.inl ⟨by rfl, ?_⟩) (by assumption) ?_
    rotate_left
    ·(intro w_ hSw_; (try dsimp only at hSw_); go_simp; try with_reducible rfl)
    try simp only [Act.put, List.getElem_toArray, List.getElem_cons_zero, List.getElem_cons_succ, List.setIfInBounds_toArray, List.set_cons_zero, List.set_cons_succ]
    refine wpAnyLast_take (i := 1) (v := ?_) rfl (by kernel_rfl) (by kernel_rfl) (by kernel_rfl) (by kernel_rfl) (by kernel_rfl) (fun _ _ _ h => h) (Or.inl ⟨by rfl, ?_⟩) (by assumption) ?_
    rotate_left
    ·(intro w_ hSw_; (try dsimp only at hSw_); go_simp; try with_reducible rfl)
    try simp only [Act.put, List.getElem_toArray, List.getElem_cons_zero, List.getElem_cons_succ, List.setIfInBounds_toArray, List.set_cons_zero, List.set_cons_succ]
    refine wpAnyLast_take (i := 2) (v := ?_) rfl (by kernel_rfl) (by kernel_rfl) (by kernel_rfl) (by kernel_rfl) (by kernel_rfl) (fun _ _ _ h => h) (Or.inl ⟨by rfl, ?_⟩) (by assumption) ?_
    rotate_left
    ·(intro w_ hSw_; (try dsimp only at hSw_); go_simp; try with_reducible rfl)
    try simp only [Act.put, List.getElem_toArray, List.getElem_cons_zero, List.getElem_cons_succ, List.setIfInBounds_toArray, List.set_cons_zero, List.set_cons_succ]
    refine wpAnyLast_take (i := 3) (v := ?_) rfl (by kernel_rfl) (by kernel_rfl) (by kernel_rfl) (by kernel_rfl) (by kernel_rfl) (fun _ _ _ h => h) (Or.inl ⟨by rfl, ?_⟩) (by assumption) ?_
    rotate_left
    ·(intro w_ hSw_; (try dsimp only at hSw_); go_simp; try with_reducible rfl)
    try simp only [Act.put, List.getElem_toArray, List.getElem_cons_zero, List.getElem_cons_succ, List.setIfInBounds_toArray, List.set_cons_zero, List.set_cons_succ]
    refine wpAnyLast_take (i := 4) (v := ?_) rfl (by kernel_rfl) (by kernel_rfl) (by kernel_rfl) (by kernel_rfl) (by kernel_rfl) (fun _ _ _ h => h) (Or.inl ⟨by rfl, ?_⟩) (by assumption) ?_
    rotate_left
    ·(intro w_ hSw_; (try dsimp only at hSw_); go_simp; try with_reducible rfl)
    try simp only [Act.put, List.getElem_toArray, List.getElem_cons_zero, List.getElem_cons_succ, List.setIfInBounds_toArray, List.set_cons_zero, List.set_cons_succ]
    refine wpAnyLast_take (i := 5) (v := ?_) rfl (by kernel_rfl) (by kernel_rfl) (by kernel_rfl) (by kernel_rfl) (by kernel_rfl) (fun _ _ _ h => h) (Or.inl ⟨by rfl, ?_⟩) (by assumption) ?_
    rotate_left
    ·(intro w_ hSw_; (try dsimp only at hSw_); go_simp; try with_reducible rfl)
    try simp only [Act.put, List.getElem_toArray, List.getElem_cons_zero, List.getElem_cons_succ, List.setIfInBounds_toArray, List.set_cons_zero, List.set_cons_succ]
    refine wpAnyLast_ready (rs := [6]) (by kernel_rfl) (by simp) ?_
    refine AllReadyL.cons rfl (by decide) (fun K hK => ?_) AllReadyL.nil
    go_simp
    refine hK.out _ _ (Hkeep.out _ (below_drew1 (Hb15.out.alloc Hb15.out.size _))) (fun hSn_ => ?_)
    clear hK K
    try simp only [Act.put, List.getElem_toArray, List.getElem_cons_zero, List.getElem_cons_succ, List.setIfInBounds_toArray, List.set_cons_zero, List.set_cons_succ]
    refine wpAnyLast_ready (rs := [7]) (by kernel_rfl) (by simp) ?_
    refine AllReadyL.cons rfl (by decide) (fun K hK => ?_) AllReadyL.nil
    rw [show (w15.alloc (.cells #[.int .i64 (m : Int)] 3)).drew = w15.drew.alloc (.cells [Value.int .i64 (m : Int)].toArray 3) from rfl]
    refine Kd.R_append_step (Kd.int .i64) (w0 := w13) w13.heap.size (by kernel_rfl) (.tmp 68) (.tmp 70) 22 3 (.int .i64 0) 8 rfl Try.underlying22 info3 rfl (by decide) (by decide) (.slice A15 outs.length c15) outs (m : Int) [.int .i64 (m : Int)] (fun k => w13.heap.size ≤ k) (fun _ => False) rfl rfl rfl (fun _ h => h.elim) (fun k hk => Nat.le_trans Hb15.out.size hk) (Kd.R_drew Ho15.out) (below_drew1 Hb15.out) Hb15.out.size (by omega) ?_
    intro v16 w16 ho16 hb16 hg16 hat16
    obtain ⟨A16, c16, ev16⟩ := Kd.R_slice ho16
    have hlc16 := (Kd.R_reads' (A := A16) (c := c16) (n := (outs ++ [(m : Int)]).length) (by rw [ev16] at ho16; exact ho16)).2.1
    rw [List.length_append, List.length_singleton] at ev16
    subst ev16
    refine hK.out _ _ (Hkeep.out _ hb16) (fun hSn_ => ?_)
    clear hK K
    try simp only [Act.put, List.getElem_toArray, List.getElem_cons_zero, List.getElem_cons_succ, List.setIfInBounds_toArray, List.set_cons_zero, List.set_cons_succ]
    have Hst16 := Aside0.mk (Hst13.out.step hb16)
    have hsz13 := Hst13.out.sz
    have hgc := Ih b ins (outs ++ [(m : Int)]) (.slice (some ⟨g11, 0, none⟩) a.length c11) A4 c4 A16 c16 w16 (fun k => (P k ∧ k < w.heap.size) ∨ w13.heap.size ≤ k) (fun k => (okn k ∧ k < w.heap.size) ∨ (w.heap.size + 2 ≤ k ∧ k < w13.heap.size)) (Nat.le_trans hbw Hst16.out.gr.size)
     (Kd.N_mono (Kd.N_below (Kd.N_bound Hst13.out.hN) hb16) (fun k hk => hk.1.elim .inl (fun h => .inr ⟨h, hk.2⟩)))
     Hst16.out.fb (Kd.F_mono Hst16.out.f4 (fun _ hk => .inl hk)) hc4 (by rw [List.length_append, List.length_singleton]; exact Kd.F_mono (Kd.R_F ho16) (fun k hk => .inr hk)) hlc16 Hst13.out.apart Hdec2.out (by rw [List.length_append, List.length_singleton]; have := Hfu.out; omega) (by rw [hbl]; have h1 := Hlen.out; have := Nat.two_pow_pos f; rw [Nat.pow_succ] at h1; omega)
    rw [List.length_append, List.length_singleton, ← Hres2.out] at hgc
    have hszb2 := hb16.size
    have Hgc := Aside0.mk hgc
    clear hgc hlc16 ho16 hg16 hat16 Hres2 Hdec2
    obtain ⟨z, hz⟩ : ∃ z, z = growP (s.L.map cv) s.n (f + 1) ns ins outs := ⟨_, rfl⟩
    rw [← hz] at Hgc
    have Hz := Aside0.mk hz
    clear hz
    refine wpAnyLast_ready (rs := [8]) (by kernel_rfl) (by simp) ?_
    refine AllReadyL.cons rfl (by decide) (fun K hK => ?_) AllReadyL.nil
    go_simp
    refine Hgc.out.mono ?_
    rintro e w17 ⟨v17, rfl, ho17, hg17, hat17⟩
    obtain ⟨A17, c17, ev17⟩ := Kd.N_slice ho17
    subst ev17
    have Hst17 := Aside0.mk (Hst16.out.mv hg17 (Kd.N_mono ho17 (fun k hk => by rcases hk with (hk | hk) | hk; exact .inl hk; exact .inr hk.1; exact .inr (Nat.le_trans hsz13 (Nat.le_trans hszb2 hk)))) hat17)
    refine hK.out _ _ (by exact ⟨Hst17.out.cells.1, Hst17.out.cells.2.1⟩) (fun hSn_ => ?_)
    clear hK K
    try simp only [Act.put, List.getElem_toArray, List.getElem_cons_zero, List.getElem_cons_succ, List.setIfInBounds_toArray, List.set_cons_zero, List.set_cons_succ]
    clear ho17 hg17 hat17 Hgc Hst16 Hst13 hb16 Hkeep
    obtain ⟨hy0, hy1, hyf0, hyf1⟩ := Hst17.out.cells10
    refine wpAnyLast_ready (rs := [9]) (by kernel_rfl) (by simp) ?_
    refine AllReadyL.cons_last rfl (by decide) (fun K hK => ?_) AllReadyL.nil
    go_simp
    refine hK.out _ _ ?_
    clear hK K
    try simp only [Act.put, List.getElem_toArray, List.getElem_cons_zero, List.getElem_cons_succ, List.setIfInBounds_toArray, List.set_cons_zero, List.set_cons_succ]
    refine wpAnyLast_done (by kernel_rfl) ?_ _
    obtain ⟨w18, hw18⟩ : ∃ w18, w18 = (w17.setCell ⟨w.heap.size + 1, 0, none⟩ (.int .i64 s.v)).setCell ⟨w.heap.size + 1, 1, none⟩ (.slice A17 z.length c17) := ⟨_, rfl⟩
    have hb18 : w18.heap[w.heap.size + 1]? = some (.cells #[.int .i64 s.v, .slice A17 z.length c17] 30 (0, 0)) := by
     rw [hw18]
     refine blk_put (cs := #[.int .i64 s.v, .slice none 0 0]) ?_ 1 _ rfl
     exact blk_put Hst17.out.b10 0 _ rfl
    have hfin := Hst17.out.fin (.inr ⟨_, _, hw18⟩)
    rw [← hw18]
    have hy0 : w18.cell? ⟨w.heap.size + 1, 0, none⟩ = some (.int .i64 s.v) := (blk_cell hb18 0).trans rfl
    have hy1 : w18.cell? ⟨w.heap.size + 1, 1, none⟩ = some (.slice A17 z.length c17) := (blk_cell hb18 1).trans rfl
    have Hfin := Aside0.mk hfin
    have Hb18 := Aside0.mk hb18
    clear hw18 hb18 hfin Hst17
    go_wp2
    refine bodyPost_ret (results_cell_row rfl _ _ (w.heap.size + 1) 30 #[.int .i64 s.v, .slice A17 z.length c17] (0, 0) _ rfl Hb18.out Try.underlying30 rfl (by kernel_rfl)) rfl ?_
    rw [← Hz.out]
    exact ⟨_, rfl, Hfin.out⟩
  ·obtain rfl : m = s.L.length := by omega
   have hnone : firstPos (s.L.map cv) ins outs = none := firstPos_none (fun j hj => Hno.out j (by rwa [List.length_map] at hj))
   have hres : growP (s.L.map cv) s.n (f + 1) ns ins outs = ns ++ [⟨-1, 0, 0, List.replicate s.n 0⟩] := by
    conv => lhs; unfold growP
    rw [hnone]
   have hn8 := ok.n8
   have hmk := print_make (P := Try.prog) 22 3 .i64 8 Try.underlying22 infoW (by decide) s.n (by omega)
   rw [made_zerosW] at hmk
   obtain ⟨hz0, hz1, hzf0, hzf1⟩ := hstr.cells
   have hkeep : ∀ w', Below wr.heap.size wr w' → w'.cell? ⟨w.heap.size, 1, none⟩ = some (.slice Av ns.length cv_) := fun w' hb => (hstr.step hb).cells.2.1
   have Hkeep := Aside0.mk hkeep
   have Hstr := Aside0.mk hstr
   have Hres := Aside0.mk hres
   clear hkeep hstr hres hnone Hno Hpos Hd Hst
   go_upto_region 15 with (fail)
   refine wp_region_last_drew (ds := [8]) (S := fun w' => w'.cell? ⟨w.heap.size, 1, none⟩ = some (.slice Av ns.length cv_)) (by kernel_rfl) (Hkeep.out wr.drew (below_drew1 (Below.refl _ _))) ?_
   intro hS0
   refine wpAnyLast_take (i := 0) (v := ?_) rfl (by kernel_rfl) (by kernel_rfl) (by kernel_rfl) (by kernel_rfl) (by kernel_rfl) (fun _ _ _ h => h) (Or.inl ⟨by rfl, ?_⟩) (by assumption) ?_
   rotate_left
   ·(intro w_ hSw_; (try dsimp only at hSw_); go_simp; try with_reducible rfl)
   try simp only [Act.put, List.getElem_toArray, List.getElem_cons_zero, List.getElem_cons_succ, List.setIfInBounds_toArray, List.set_cons_zero, List.set_cons_succ]
   refine wpAnyLast_take (i := 1) (v := ?_) rfl (by kernel_rfl) (by kernel_rfl) (by kernel_rfl) (by kernel_rfl) (by kernel_rfl) (fun _ _ _ h => h) (Or.inl ⟨by rfl, ?_⟩) (by assumption) ?_
   rotate_left
   ·(intro w_ hSw_; (try dsimp only at hSw_); go_simp; try with_reducible rfl)
   try simp only [Act.put, List.getElem_toArray, List.getElem_cons_zero, List.getElem_cons_succ, List.setIfInBounds_toArray, List.set_cons_zero, List.set_cons_succ]
   refine wpAnyLast_take (i := 2) (v := ?_) rfl (by kernel_rfl) (by kernel_rfl) (by kernel_rfl) (by kernel_rfl) (by kernel_rfl) (fun _ _ _ h => h) (Or.inl ⟨by rfl, ?_⟩) (by assumption) ?_
   rotate_left
   ·(intro w_ hSw_; (try dsimp only at hSw_); go_simp; try with_reducible rfl)
   try simp only [Act.put, List.getElem_toArray, List.getElem_cons_zero, List.getElem_cons_succ, List.setIfInBounds_toArray, List.set_cons_zero, List.set_cons_succ]
   refine wpAnyLast_ready (rs := [3]) (by kernel_rfl) (by simp) ?_
   refine AllReadyL.cons rfl (by decide) (fun K hK => ?_) AllReadyL.nil
   go_simp
   refine hK.out _ _ (Hkeep.out _ (below_drew1 ((Below.refl _ wr).alloc (Nat.le_refl _) _))) (fun hSn_ => ?_)
   clear hK K
   try simp only [Act.put, List.getElem_toArray, List.getElem_cons_zero, List.getElem_cons_succ, List.setIfInBounds_toArray, List.set_cons_zero, List.set_cons_succ]
   refine wpAnyLast_take (i := 4) (v := ?_) rfl (by kernel_rfl) (by kernel_rfl) (by kernel_rfl) (by kernel_rfl) (by kernel_rfl) (fun _ _ _ h => h) (Or.inl ⟨by rfl, ?_⟩) (by assumption) ?_
   rotate_left
   ·(intro w_ hSw_; (try dsimp only at hSw_); go_simp; try with_reducible rfl)
   try simp only [Act.put, List.getElem_toArray, List.getElem_cons_zero, List.getElem_cons_succ, List.setIfInBounds_toArray, List.set_cons_zero, List.set_cons_succ]
   refine wpAnyLast_ready (rs := [5]) (by kernel_rfl) (by simp) ?_
   refine AllReadyL.cons rfl (by decide) (fun K hK => ?_) AllReadyL.nil
   go_simp
   refine hK.out _ _ (Hkeep.out _ (below_drew1 (((Below.refl _ wr).alloc (Nat.le_refl _) _).alloc (by simp) _))) (fun hSn_ => ?_)
   clear hK K
   try simp only [Act.put, List.getElem_toArray, List.getElem_cons_zero, List.getElem_cons_succ, List.setIfInBounds_toArray, List.set_cons_zero, List.set_cons_succ]
   refine wpAnyLast_ready (rs := [6]) (by kernel_rfl) (by simp) ?_
   refine AllReadyL.cons rfl (by decide) (fun K hK => ?_) AllReadyL.nil
   have hszr := Hstr.out.sz
   have hRz : (Kd.int .i64).R 3 (wr.alloc (.cells (Array.replicate s.n (Value.int .i64 0)) 3)).drew wr.heap.size (fun k => k = wr.heap.size) (.slice (some ⟨wr.heap.size, 0, none⟩) s.n s.n) (List.replicate s.n 0) :=
    Kd.R_drew (Kd.R_of_own (enc := Value.int .i64) (h1 := fun _ => rfl) ⟨by simp [encs], .inr ⟨wr.heap.size, s.n, Array.replicate s.n (Value.int .i64 0), by simp, Nat.le_refl _, heap_alloc_new wr _, by simp, by simp only [maxLen]; omega, by simp, by simp [encs]⟩⟩ (fun k hk => by simp [Value.ownBlock] at hk; omega))
   have hFK : Kd.FK k34 (wr.alloc (.cells (Array.replicate s.n (Value.int .i64 0)) 3)).drew (fun k => k = wr.heap.size) ⟨-1, 0, 0, List.replicate s.n 0⟩ [.int .i64 (-1), .int .i64 0, .int .i64 0, .slice (some ⟨wr.heap.size, 0, none⟩) s.n s.n] := by
    have h := k34_mkF (wr.alloc (.cells (Array.replicate s.n (Value.int .i64 0)) 3)).drew (fun k => k = wr.heap.size) ⟨-1, 0, 0, List.replicate s.n 0⟩ (A3 := some ⟨wr.heap.size, 0, none⟩) (c3 := s.n) (by simp) (by
     have h2 := Kd.R_F hRz
     simpa using h2)
    simpa using h
   have hNr : Kd.N k34 34 (wr.alloc (.cells (Array.replicate s.n (Value.int .i64 0)) 3)).drew s.base (fun k => (okn k ∧ k < w.heap.size) ∨ w.heap.size + 2 ≤ k) (.slice Av ns.length cv_) ns := Kd.N_drew (Kd.N_alloc Hstr.out.hN _)
   have hlt0 := Kd.N_lt Hstr.out.hN
   have hsz1 : (wr.alloc (.cells (Array.replicate s.n (Value.int .i64 0)) 3)).drew.heap.size = wr.heap.size + 1 := World.size_alloc _ _
   rw [show ((wr.alloc (.cells (Array.replicate s.n (Value.int .i64 0)) 3)).alloc (.cells #[.int .i64 (-1), .int .i64 0, .int .i64 0, .slice (some ⟨wr.heap.size, 0, none⟩) s.n s.n] 34)).drew = (wr.alloc (.cells (Array.replicate s.n (Value.int .i64 0)) 3)).drew.alloc (.cells [Value.int .i64 (-1), Value.int .i64 0, Value.int .i64 0, Value.slice (some ⟨wr.heap.size, 0, none⟩) s.n s.n].toArray 34) from rfl]
   refine Kd.N_append_step k34 (w0 := wr) s.base (by kernel_rfl) (.tmp 74) (.tmp 78) 28 34 _ 48 rfl Try.underlying28 info34 rfl (by decide) (by decide) (.slice Av ns.length cv_) ns ⟨-1, 0, 0, List.replicate s.n 0⟩ _ (fun k => (okn k ∧ k < w.heap.size) ∨ w.heap.size + 2 ≤ k) (fun k => k = wr.heap.size) rfl (by rw [hsz1]; rfl) hFK (fun k hk => ⟨.inr (by omega), fun e => by have := hlt0 k e.symm; omega⟩) (fun k hk => .inr (by have : wr.heap.size ≤ k := Nat.le_trans (by simp) hk; omega)) hNr ((below_drew1 ((Below.refl _ wr).alloc (Nat.le_refl _) _)).mono (Nat.le_trans hbw Hstr.out.gr.size)) (Nat.le_trans (Nat.le_trans hbw Hstr.out.gr.size) (by simp)) (by have := Hlen.out; have := Nat.two_pow_pos (f + 1); omega) ?_
   intro v20 w20 ho20 hb20 hg20 hat20
   have hgr : wr.grownBy w20 (.slice Av ns.length cv_ : Value).ownBlock := by
    have hB : Below wr.heap.size wr (wr.alloc (.cells (Array.replicate s.n (Value.int .i64 0)) 3)).drew := below_drew1 ((Below.refl _ wr).alloc (Nat.le_refl _) _)
    have hs1 := hB.size
    exact ⟨hg20.os.trans hB.os, hg20.tape.trans hB.tape, hg20.output.trans hB.output, Nat.le_trans hs1 hg20.size, fun k hk hn => (hg20.block k (by omega) hn).trans (hB.block k hk)⟩
   have Hst20 := Aside0.mk (Hstr.out.mv hgr ho20 (hat20.elim .inl (fun ⟨b, e, hb⟩ => .inr ⟨b, e, Nat.le_trans (by simp) hb⟩)))
   obtain ⟨A20, c20, ev20⟩ := Kd.N_slice ho20
   rw [← Hres.out] at ev20 ho20
   have Hst20 := Aside0.mk (show GSt s w okn P (.slice Av ns.length cv_ : Value).ownBlock A4 ins A5 outs w20 (.slice Av ns.length cv_) v20 (growP (s.L.map cv) s.n (f + 1) ns ins outs) from by rw [Hres.out]; exact Hst20.out)
   obtain ⟨z, hz⟩ : ∃ z, z = growP (s.L.map cv) s.n (f + 1) ns ins outs := ⟨_, rfl⟩
   rw [← hz] at ev20 Hst20
   subst ev20
   have Hz := Aside0.mk hz
   clear hz ho20 hb20 hg20 hat20 hgr hRz hFK hNr hlt0 Hres
   refine hK.out _ _ (Hst20.out.cells.2.1) (fun hSn_ => ?_)
   clear hK K
   try simp only [Act.put, List.getElem_toArray, List.getElem_cons_zero, List.getElem_cons_succ, List.setIfInBounds_toArray, List.set_cons_zero, List.set_cons_succ]
   refine wpAnyLast_take (i := 7) (v := ?_) rfl (by kernel_rfl) (by kernel_rfl) (by kernel_rfl) (by kernel_rfl) (by kernel_rfl) (fun _ _ _ h => h) (Or.inl ⟨by rfl, ?_⟩) (by assumption) ?_
   rotate_left
   ·(intro w_ hSw_; (try dsimp only at hSw_); go_simp; try with_reducible rfl)
   try simp only [Act.put, List.getElem_toArray, List.getElem_cons_zero, List.getElem_cons_succ, List.setIfInBounds_toArray, List.set_cons_zero, List.set_cons_succ]
   obtain ⟨hz0, hz1, hzf0, hzf1⟩ := Hst20.out.cells
   refine wpAnyLast_ready (rs := [8]) (by kernel_rfl) (by simp) ?_
   refine AllReadyL.cons_last rfl (by decide) (fun K hK => ?_) AllReadyL.nil
   go_simp
   refine hK.out _ _ ?_
   clear hK K
   try simp only [Act.put, List.getElem_toArray, List.getElem_cons_zero, List.getElem_cons_succ, List.setIfInBounds_toArray, List.set_cons_zero, List.set_cons_succ]
   refine wpAnyLast_done (by kernel_rfl) ?_ _
   obtain ⟨w21, hw21⟩ : ∃ w21, w21 = w20.setCell ⟨w.heap.size, 1, none⟩ (.slice A20 z.length c20) := ⟨_, rfl⟩
   have Hst21 := Aside0.mk (show GSt s w okn P (.slice Av ns.length cv_ : Value).ownBlock A4 ins A5 outs w21 (.slice A20 z.length c20) (.slice A20 z.length c20) z from by rw [hw21]; exact Hst20.out.put _)
   rw [← hw21]
   clear hw21 Hst20 hz0 hz1 hzf0 hzf1 Hkeep
   obtain ⟨hz0, hz1, hzf0, hzf1⟩ := Hst21.out.cells
   obtain ⟨hy0, hy1, hyf0, hyf1⟩ := Hst21.out.cells10
   go_wp2
   obtain ⟨w22, hw22⟩ : ∃ w22, w22 = (w21.setCell ⟨w.heap.size + 1, 0, none⟩ (.int .i64 s.v)).setCell ⟨w.heap.size + 1, 1, none⟩ (.slice A20 z.length c20) := ⟨_, rfl⟩
   have hb22 : w22.heap[w.heap.size + 1]? = some (.cells #[.int .i64 s.v, .slice A20 z.length c20] 30 (0, 0)) := by
    rw [hw22]
    refine blk_put (cs := #[.int .i64 s.v, .slice none 0 0]) ?_ 1 _ rfl
    exact blk_put Hst21.out.b10 0 _ rfl
   have hfin := Hst21.out.fin (.inr ⟨_, _, hw22⟩)
   rw [← hw22]
   refine bodyPost_ret (results_cell_row rfl _ _ (w.heap.size + 1) 30 #[.int .i64 s.v, .slice A20 z.length c20] (0, 0) _ rfl hb22 Try.underlying30 rfl (by kernel_rfl)) rfl ?_
   rw [← Hz.out]
   exact ⟨_, rfl, hfin⟩
theorem grow_all (s : GCx) (ok : GOk s) : ∀ f, GrowC s f
 | 0 => by
  intro ns ins outs vs A4 c4 A5 c5 w P okn hbw hN hFb hF4 hc4 hF5 hc5 hap hd hfu hlen
  have hdl := dec_len s.L.length (ins ++ outs) (fun k hk => by
   rcases List.mem_append.1 hk with h | h
   ·exact hd.ri k h
   ·exact hd.ro k h) hd.nd
  rw [List.length_append] at hdl
  omega
 | f + 1 => grow_step s ok f (grow_all s ok f)
def fullOk (a0 : Int) (l1 : List S85) : Bool := decide (0 ≤ a0) && decide (a0 ≤ 8) && decide (l1.length ≤ 10) && l1.all fun b => decide (b.f2.length ≤ 9223372036854775807)
def worldmintref29_Full.f (a0 : Int) (l1 : List S85) (a2 : Int) : Option (Int × List S34) := if fullOk a0 l1 then some (a2, growP (l1.map cv) a0.toNat (l1.length + 1) [] [] []) else none
set_option maxHeartbeats 2000000 in
set_option maxRecDepth 100000 in
theorem worldmintref29_Full.calls (a0 : Int) (A1 : Option Addr) (c1 : Nat) (l1 : List S85) (a2 : Int) (r1 : Int) (r2 : List S34) (w : World) (hr1 : Kd.C k85 w A1 l1.length l1) (hc1 : l1.length ≤ c1) (h : worldmintref29_Full.f a0 l1 a2 = some (r1, r2)) :
  Calls Try.prog 14 #[.int .i64 a0, .slice A1 l1.length c1, .int .i64 a2] w fun e w' => ∃ v1_ : Value, e = .returned (.agg #[.int .i64 r1, v1_]) ∧ Kd.N k34 34 w' w.heap.size (fun k_ => w.heap.size ≤ k_) v1_ r2 ∧ Below w.heap.size w w' := by
 unfold worldmintref29_Full.f at h
 by_cases hok : fullOk a0 l1 = true
 case neg => rw [if_neg hok] at h; cases h
 rw [if_pos hok] at h
 obtain ⟨rfl, hr⟩ := Prod.mk.inj (Option.some.inj h)
 unfold fullOk at hok
 simp only [Bool.and_eq_true, decide_eq_true_eq, List.all_eq_true] at hok
 obtain ⟨⟨⟨h0, h8⟩, h10⟩, hf2⟩ := hok
 obtain ⟨n, rfl⟩ := Int.eq_ofNat_of_zero_le h0
 rw [Int.toNat_natCast] at hr
 have ok : GOk ⟨n, a2, A1, c1, l1, w⟩ := ⟨by show n ≤ 8; omega, h10, hf2, hc1, hr1⟩
 obtain ⟨W2, hW2⟩ : ∃ W2, W2 = ((w.alloc (.cells #[.int .i64 0, .slice none 0 0] 30)).alloc (.cells #[.int .i64 a2, .slice none 0 0] 30)) := ⟨_, rfl⟩
 have hB2 : Below w.heap.size w W2 := by rw [hW2]; exact ((Below.refl _ w).alloc (Nat.le_refl _) _).alloc (by simp) _
 have hsz2 : W2.heap.size = w.heap.size + 2 := by rw [hW2]; simp
 have hb6 : W2.heap[w.heap.size]? = some (.cells #[.int .i64 0, .slice none 0 0] 30 (0, 0)) := by
  rw [hW2]
  exact (Below.heap_alloc _ _ _ (by simp)).trans (heap_alloc_new w _)
 have hb7 : W2.heap[w.heap.size + 1]? = some (.cells #[.int .i64 a2, .slice none 0 0] 30 (0, 0)) := by
  have h_ := heap_alloc_new (w.alloc (.cells #[.int .i64 0, .slice none 0 0] 30)) (.cells #[.int .i64 a2, .slice none 0 0] 30)
  rw [World.size_alloc] at h_
  rw [hW2]
  exact h_
 have hp2 : 2 ^ (l1.length + 1) ≤ 2 ^ 11 := Nat.pow_le_pow_right (by omega) (by omega)
 have hcall := grow_all ⟨n, a2, A1, c1, l1, w⟩ ok (l1.length + 1) [] [] [] (.slice none 0 0) none 0 none 0 W2 (fun _ => False) (fun k => W2.heap.size ≤ k) hB2.size (Kd.N_nil _ _ _ _ _) hB2 (Kd.F_nil _ _ _) (Nat.le_refl _) (Kd.F_nil _ _ _) (Nat.le_refl _) (fun _ h => h.elim) ⟨by simp, by simp, by simp⟩ (by show l1.length < 0 + 0 + (l1.length + 1); omega) (by show 0 + 2 ^ (l1.length + 1) ≤ 100000; omega)
 have hcall2 : Calls Try.prog 46 #[.int .i64 (n : Int), .slice A1 l1.length c1, .agg #[.int .i64 a2, .slice none 0 0], .slice none 0 0, .slice none 0 0] W2
   (fun e w' => ∃ vs', e = .returned (.agg #[.int .i64 a2, vs']) ∧ Kd.N k34 34 w' w.heap.size (fun k => W2.heap.size ≤ k ∨ W2.heap.size ≤ k) vs' r2 ∧ W2.grownBy w' (Value.slice none 0 0).ownBlock ∧ (vs'.ownBlock = (Value.slice none 0 0).ownBlock ∨ ∃ b, vs'.ownBlock = some b ∧ W2.heap.size ≤ b)) := by
  rw [← hr]; exact hcall
 have Hcall := Aside0.mk hcall2
 have HB2 := Aside0.mk hB2
 have hz0 : W2.cell? ⟨w.heap.size + 1, 0, none⟩ = some (.int .i64 a2) := (blk_cell hb7 0).trans rfl
 have hz1 : W2.cell? ⟨w.heap.size + 1, 1, none⟩ = some (.slice none 0 0) := (blk_cell hb7 1).trans rfl
 have Hb6 := Aside0.mk hb6
 clear hcall hcall2 hB2 hb6 hb7 ok hp2 hr hf2
 go_enter Try.func14, Try.ntmps14
 go_upto_region 2 with (fail)
 rw [← hW2]
 clear hW2
 go_wp2_with fail
 refine Hcall.out.mono ?_
 rintro e w3 ⟨v3, rfl, ho3, hg3, _⟩
 have hB3 : Below W2.heap.size W2 w3 := ⟨hg3.os, hg3.tape, hg3.output, hg3.size, fun k hk => hg3.block k hk (by simp [Value.ownBlock])⟩
 have hb6 := (hB3.block _ (by omega)).trans Hb6.out
 have hy0 : w3.cell? ⟨w.heap.size, 0, none⟩ = some (.int .i64 0) := (blk_cell hb6 0).trans rfl
 have hy1 : w3.cell? ⟨w.heap.size, 1, none⟩ = some (.slice none 0 0) := (blk_cell hb6 1).trans rfl
 have hyf0 := blk_frozen hb6 0
 have hyf1 := blk_frozen hb6 1
 obtain ⟨A3, c3, ev3⟩ := Kd.N_slice ho3
 subst ev3
 have HB3 := Aside0.mk (HB2.out.trans (hB3.mono HB2.out.size))
 have Hb6' := Aside0.mk hb6
 have HN3 := Aside0.mk ho3
 clear ho3 hg3 hB3 hb6 Hcall Hb6
 go_wp2
 have hne : ∀ k, W2.heap.size ≤ k ∨ W2.heap.size ≤ k → k ≠ w.heap.size := fun k hk => by omega
 refine bodyPost_ret (results_cell_row rfl _ _ w.heap.size 30 #[.int .i64 a2, .slice A3 r2.length c3] (0, 0) _ rfl (by
  refine blk_put (cs := #[.int .i64 a2, .slice none 0 0]) ?_ 1 _ rfl
  exact blk_put Hb6'.out 0 _ rfl) Try.underlying30 rfl (by kernel_rfl)) rfl ?_
 exact ⟨_, rfl, Kd.N_mono (Kd.N_far (p := ⟨w.heap.size, 1, none⟩) (Kd.N_far (p := ⟨w.heap.size, 0, none⟩) HN3.out hne _) hne _) (fun k hk => by omega), (HB3.out.setCell (p := ⟨w.heap.size, 0, none⟩) (Nat.le_refl _) _).setCell (p := ⟨w.heap.size, 1, none⟩) (Nat.le_refl _) _⟩
end Go.Proofs.Ytdamibblnjeooaa.H

/- The checker's walk over a certificate: each node once, against the count of parents. Plain. -/
namespace Go.Proofs.Ytdamibblnjeooaa.H
open Go.RowKit
set_option linter.unusedVariables false
set_option linter.unusedSimpArgs false
section
variable (n : Int) (l : List S82) (v : Int) (nodes : List S55)
def stepR (go : Nat → List Int → Bool) (len i : Nat) (dec : List Int) (b : Nat) (k d : Int) : Bool := if (i : Int) < k ∧ k < len then go k.toNat (dec.set b d) else false
def stepV (go : Nat → List Nat) (len i : Nat) (k : Int) : List Nat := if (i : Int) < k ∧ k < len then go k.toNat else []
/-- Is the certificate right from node i on? -/
def rightP : Nat → Nat → List Int → Bool
 | 0, _, _ => false
 | f + 1, i, dec =>
  if (nodes.getD i z55).f0 = -1 then leafP n l v dec (nodes.getD i z55) else
  if (nodes.getD i z55).f0 < 0 ∨ (l.length : Int) ≤ (nodes.getD i z55).f0 ∨ possP l dec (nodes.getD i z55).f0.toNat = false ∨ 0 < (nodes.getD i z55).f3.length then false else
  stepR (rightP f) nodes.length i dec (nodes.getD i z55).f0.toNat (nodes.getD i z55).f1 1 && stepR (rightP f) nodes.length i dec (nodes.getD i z55).f0.toNat (nodes.getD i z55).f2 2
/-- The nodes that are met from node i on. -/
def visP : Nat → Nat → List Nat
 | 0, _ => []
 | f + 1, i => i :: (if (nodes.getD i z55).f0 = -1 then [] else stepV (visP f) nodes.length i (nodes.getD i z55).f1 ++ stepV (visP f) nodes.length i (nodes.getD i z55).f2)
end
section
variable {n : Int} {l : List S82} {v : Int} {nodes : List S55}
theorem getD_set_true (st : List Bool) (i j : Nat) : (st.set i true).getD j true = (st.getD j true || decide (j = i)) := by
 simp only [List.getD, List.getElem?_set]
 by_cases h : i = j
 ·subst h
  by_cases h2 : i < st.length <;> simp [h2]
 ·rw [if_neg h]
  simp [show ¬ j = i from fun e => h e.symm]
def NR (n : Int) (l : List S82) (v : Int) (nodes : List S55) (f : Nat) : Prop := ∀ i dec st,
 ((nodeP n l v nodes f i dec st).1 = true ↔ rightP n l v nodes f i dec = true ∧ (visP nodes f i).Nodup ∧ ∀ j ∈ visP nodes f i, st.getD j true = false) ∧
 ((nodeP n l v nodes f i dec st).1 = true → ∀ j, (nodeP n l v nodes f i dec st).2.getD j true = (st.getD j true || decide (j ∈ visP nodes f i)))
theorem step_right {f : Nat} (ih : NR n l v nodes f) (i : Nat) (dec : List Int) (b : Nat) (k d : Int) (st : List Bool) :
  ((stepP (nodeP n l v nodes f) nodes.length i dec b k d st).1 = true ↔ stepR (rightP n l v nodes f) nodes.length i dec b k d = true ∧ (stepV (visP nodes f) nodes.length i k).Nodup ∧ ∀ j ∈ stepV (visP nodes f) nodes.length i k, st.getD j true = false) ∧
  ((stepP (nodeP n l v nodes f) nodes.length i dec b k d st).1 = true → ∀ j, (stepP (nodeP n l v nodes f) nodes.length i dec b k d st).2.getD j true = (st.getD j true || decide (j ∈ stepV (visP nodes f) nodes.length i k))) := by
 unfold stepP stepR stepV
 by_cases h : (i : Int) < k ∧ k < (nodes.length : Int)
 ·simp only [if_pos h]
  exact ih _ _ _
 ·simp only [if_neg h]
  simp
theorem node_right : ∀ f, NR n l v nodes f
 | 0 => by intro i dec st; simp [nodeP, rightP]
 | f + 1 => by
  have ih := node_right f
  intro i dec st
  unfold nodeP rightP visP
  by_cases h0 : st.getD i true = true
  ·simp only [if_pos h0]
   constructor
   ·constructor
    ·intro h; simp at h
    ·rintro ⟨_, _, h⟩
     have := h i (by simp)
     rw [h0] at this
     cases this
   ·intro h; simp at h
  ·have h0' : st.getD i true = false := by simpa using h0
   simp only [if_neg h0]
   by_cases h1 : (nodes.getD i z55).f0 = -1
   ·simp only [if_pos h1]
    constructor
    ·constructor
     ·intro h; exact ⟨h, by simp, by simpa using h0'⟩
     ·intro h; exact h.1
    ·intro _ j
     rw [getD_set_true]
     simp
   ·simp only [if_neg h1]
    by_cases h2 : (nodes.getD i z55).f0 < 0 ∨ (l.length : Int) ≤ (nodes.getD i z55).f0 ∨ possP l dec (nodes.getD i z55).f0.toNat = false ∨ 0 < (nodes.getD i z55).f3.length
    ·simp only [if_pos h2]
     simp
    ·simp only [if_neg h2]
     generalize nodes.getD i z55 = x at *
     obtain ⟨a1, a2⟩ := step_right ih i dec x.f0.toNat x.f1 1 (st.set i true)
     unfold bothP
     generalize stepP (nodeP n l v nodes f) nodes.length i dec x.f0.toNat x.f1 1 (st.set i true) = A at *
     obtain ⟨b1, b2⟩ := step_right ih i dec x.f0.toNat x.f2 2 A.2
     generalize stepP (nodeP n l v nodes f) nodes.length i dec x.f0.toNat x.f2 2 A.2 = B at *
     generalize stepR (rightP n l v nodes f) nodes.length i dec x.f0.toNat x.f1 1 = r1 at *
     generalize stepR (rightP n l v nodes f) nodes.length i dec x.f0.toNat x.f2 2 = r2 at *
     generalize stepV (visP nodes f) nodes.length i x.f1 = va at *
     generalize stepV (visP nodes f) nodes.length i x.f2 = vb at *
     have hset : ∀ j, (st.set i true).getD j true = false ↔ st.getD j true = false ∧ j ≠ i := by
      intro j
      rw [getD_set_true]
      simp
     cases hA : A.1
     ·simp only [Bool.false_eq_true, if_false, hA]
      constructor
      ·constructor
       ·intro h; cases h
       ·rintro ⟨h3, h4, h5⟩
        simp only [Bool.and_eq_true] at h3
        rw [List.nodup_cons, List.nodup_append] at h4
        have : A.1 = true := a1.2 ⟨h3.1, h4.2.1, fun j hj => (hset j).2 ⟨h5 j (by simp [hj]), fun e => h4.1 (by rw [← e]; simp [hj])⟩⟩
        rw [hA] at this
        cases this
      ·intro h; cases h
     ·simp only [if_true]
      have ha := a1.1 hA
      have hA2 := a2 hA
      have hA2' : ∀ j, A.2.getD j true = false ↔ st.getD j true = false ∧ j ≠ i ∧ ¬ j ∈ va := by
       intro j
       rw [hA2 j]
       simp only [Bool.or_eq_false_iff, decide_eq_false_iff_not, hset j, and_assoc]
      constructor
      ·rw [b1]
       simp only [Bool.and_eq_true, List.nodup_cons, List.nodup_append, List.mem_append, List.mem_cons, not_or]
       constructor
       ·rintro ⟨h3, h4, h5⟩
        refine ⟨⟨ha.1, h3⟩, ⟨⟨fun h => ((hset i).1 (ha.2.2 i h)).2 rfl, fun h => ((hA2' i).1 (h5 i h)).2.1 rfl⟩, ha.2.1, h4, fun a h6 b h7 e => ((hA2' b).1 (h5 b h7)).2.2 (e ▸ h6)⟩, ?_⟩
        rintro j (rfl | h | h)
        ·exact h0'
        ·exact ((hset j).1 (ha.2.2 j h)).1
        ·exact ((hA2' j).1 (h5 j h)).1
       ·rintro ⟨⟨h3, h4⟩, ⟨⟨h5, h6⟩, h7, h8, h9⟩, h10⟩
        exact ⟨h4, h8, fun j hj => (hA2' j).2 ⟨h10 j (.inr (.inr hj)), fun e => h6 (e ▸ hj), fun h => h9 j h j hj rfl⟩⟩
      ·intro hB j
       rw [b2 hB j, hA2 j, getD_set_true]
       simp only [List.mem_cons, List.mem_append]
       by_cases e1 : j = i <;> by_cases e2 : j ∈ va <;> by_cases e3 : j ∈ vb <;> simp [e1, e2, e3]
/-- How many times node k names node j as one below it. -/
def ptrP (nodes : List S55) (j k : Nat) : Nat := if (nodes.getD k z55).f0 = -1 then 0 else (if (nodes.getD k z55).f1 = (j : Int) then 1 else 0) + (if (nodes.getD k z55).f2 = (j : Int) then 1 else 0)
def parP (nodes : List S55) (j : Nat) : Nat := ((List.range nodes.length).map (ptrP nodes j)).sum
theorem stepR_true {go : Nat → List Int → Bool} {len i : Nat} {dec : List Int} {b : Nat} {k d : Int} (h : stepR go len i dec b k d = true) : (i : Int) < k ∧ k < len ∧ go k.toNat (dec.set b d) = true := by
 unfold stepR at h
 split at h
 ·rename_i c; exact ⟨c.1, c.2, h⟩
 ·cases h
theorem vis_count (j : Nat) : ∀ f i dec, rightP n l v nodes f i dec = true → (visP nodes f i).count j = (if j = i then 1 else 0) + ((visP nodes f i).map (ptrP nodes j)).sum
 | 0, _, _, h => by simp [rightP] at h
 | f + 1, i, dec, h => by
  unfold rightP at h
  unfold visP
  by_cases h1 : (nodes.getD i z55).f0 = -1
  ·simp only [if_pos h1]
   have hp : ptrP nodes j i = 0 := by unfold ptrP; rw [if_pos h1]
   simp only [List.map_cons, List.map_nil, List.sum_cons, List.sum_nil, hp, List.count_cons, List.count_nil]
   by_cases e : j = i
   ·simp [e]
   ·simp [e, show ¬ i = j from fun x => e x.symm]
  ·simp only [if_neg h1] at h ⊢
   split at h
   ·cases h
   ·simp only [Bool.and_eq_true] at h
    obtain ⟨ha0, ha1, ha⟩ := stepR_true h.1
    obtain ⟨hb0, hb1, hb⟩ := stepR_true h.2
    have iha := vis_count j f _ _ ha
    have ihb := vis_count j f _ _ hb
    have hp : ptrP nodes j i = (if j = (nodes.getD i z55).f1.toNat then 1 else 0) + (if j = (nodes.getD i z55).f2.toNat then 1 else 0) := by
     unfold ptrP
     rw [if_neg h1]
     congr 1
     ·by_cases e : j = (nodes.getD i z55).f1.toNat
      ·rw [if_pos e, if_pos (by omega)]
      ·rw [if_neg e, if_neg (by omega)]
     ·by_cases e : j = (nodes.getD i z55).f2.toNat
      ·rw [if_pos e, if_pos (by omega)]
      ·rw [if_neg e, if_neg (by omega)]
    unfold stepV
    rw [if_pos ⟨ha0, ha1⟩, if_pos ⟨hb0, hb1⟩]
    simp only [List.count_cons, List.count_append, List.map_cons, List.sum_cons, List.map_append, List.sum_append, hp, iha, ihb]
    have hbe : (if (i == j) = true then 1 else 0) = (if j = i then 1 else 0) := by
     by_cases e : j = i
     ·simp [e]
     ·simp [e, show ¬ i = j from fun x => e x.symm]
    rw [hbe]
    omega
theorem vis_lt : ∀ f i dec, i < nodes.length → rightP n l v nodes f i dec = true → ∀ k ∈ visP nodes f i, k < nodes.length ∧ ((nodes.getD k z55).f0 ≠ -1 → (k : Int) < (nodes.getD k z55).f1 ∧ (k : Int) < (nodes.getD k z55).f2)
 | 0, _, _, _, h => by simp [rightP] at h
 | f + 1, i, dec, hi, h => by
  unfold rightP at h
  unfold visP
  by_cases h1 : (nodes.getD i z55).f0 = -1
  ·simp only [if_pos h1]
   intro k hk
   rw [List.mem_singleton] at hk
   subst hk
   exact ⟨hi, fun e => absurd h1 e⟩
  ·simp only [if_neg h1] at h ⊢
   split at h
   ·cases h
   ·simp only [Bool.and_eq_true] at h
    obtain ⟨ha0, ha1, ha⟩ := stepR_true h.1
    obtain ⟨hb0, hb1, hb⟩ := stepR_true h.2
    have iha := vis_lt f _ _ (by omega) ha
    have ihb := vis_lt f _ _ (by omega) hb
    unfold stepV
    rw [if_pos ⟨ha0, ha1⟩, if_pos ⟨hb0, hb1⟩]
    intro k hk
    rcases List.mem_cons.1 hk with rfl | hk
    ·exact ⟨hi, fun _ => ⟨ha0, hb0⟩⟩
    ·rcases List.mem_append.1 hk with hk | hk
     ·exact iha k hk
     ·exact ihb k hk
theorem sum_map_add (g h : Nat → Nat) : ∀ L : List Nat, (L.map fun k => g k + h k).sum = (L.map g).sum + (L.map h).sum
 | [] => rfl
 | x :: L => by simp only [List.map_cons, List.sum_cons, sum_map_add g h L]; omega
theorem sum_one (g : Nat → Nat) (a : Nat) : ∀ m, ((List.range m).map fun k => (if k = a then 1 else 0) * g k).sum = if a < m then g a else 0
 | 0 => by simp
 | m + 1 => by
  rw [List.range_succ, List.map_append, List.sum_append, sum_one g a m]
  simp only [List.map_cons, List.map_nil, List.sum_cons, List.sum_nil]
  by_cases h : m = a
  ·subst h; simp
  ·by_cases h2 : a < m
   ·have h3 : a < m + 1 := by omega
    simp [h2, h, h3]
   ·have h3 : ¬ a < m + 1 := by omega
    simp [h2, h, h3]
/-- A sum over what is met, as a sum over all nodes. -/
theorem sum_count (g : Nat → Nat) (m : Nat) : ∀ L : List Nat, (∀ k ∈ L, k < m) → (L.map g).sum = ((List.range m).map fun k => L.count k * g k).sum
 | [], _ => by
  have : ∀ L : List Nat, (L.map fun k => ([] : List Nat).count k * g k).sum = 0 := by
   intro L
   induction L with
   | nil => rfl
   | cons x L ih => simp only [List.map_cons, List.sum_cons, ih]; simp
  rw [this]; rfl
 | x :: L, h => by
  have ih := sum_count g m L (fun k hk => h k (by simp [hk]))
  have hx := h x (by simp)
  have e : (fun k => (x :: L).count k * g k) = fun k => (if k = x then 1 else 0) * g k + L.count k * g k := by
   funext k
   rw [List.count_cons, Nat.add_mul, Nat.add_comm]
   congr 2
   by_cases e : k = x
   ·simp [e]
   ·simp [e, show ¬ x = k from fun y => e y.symm]
  rw [List.map_cons, List.sum_cons, ih, e, sum_map_add, sum_one, if_pos hx]
theorem sum_le_of (g h : Nat → Nat) : ∀ L : List Nat, (∀ k ∈ L, g k ≤ h k) → (L.map g).sum ≤ (L.map h).sum
 | [], _ => by simp
 | x :: L, hh => by
  have h1 := sum_le_of g h L (fun k hk => hh k (by simp [hk]))
  have h2 := hh x (by simp)
  simp only [List.map_cons, List.sum_cons]
  omega
theorem sum_ge_of (g : Nat → Nat) : ∀ (L : List Nat) (a : Nat), a ∈ L → g a ≤ (L.map g).sum
 | x :: L, a, h => by
  simp only [List.map_cons, List.sum_cons]
  rcases List.mem_cons.1 h with rfl | h
  ·omega
  ·have := sum_ge_of g L a h; omega
theorem sum_pos (g : Nat → Nat) : ∀ (L : List Nat), 0 < (L.map g).sum → ∃ a ∈ L, 0 < g a
 | [], h => by simp at h
 | x :: L, h => by
  simp only [List.map_cons, List.sum_cons] at h
  by_cases hx : 0 < g x
  ·exact ⟨x, by simp, hx⟩
  ·obtain ⟨a, ha, h2⟩ := sum_pos g L (by omega)
   exact ⟨a, by simp [ha], h2⟩
theorem ptr_pos {j k : Nat} (h : 0 < ptrP nodes j k) : (nodes.getD k z55).f0 ≠ -1 ∧ ((nodes.getD k z55).f1 = (j : Int) ∨ (nodes.getD k z55).f2 = (j : Int)) := by
 unfold ptrP at h
 split at h
 ·omega
 ·rename_i c
  refine ⟨c, ?_⟩
  by_cases e1 : (nodes.getD k z55).f1 = (j : Int)
  ·exact .inl e1
  ·by_cases e2 : (nodes.getD k z55).f2 = (j : Int)
   ·exact .inr e2
   ·rw [if_neg e1, if_neg e2] at h; omega
/-- The reference's two looks ahead: each node but the first has one parent, and names later nodes. -/
def OnePar (nodes : List S55) : Prop := ∀ j, j < nodes.length → parP nodes j = if j = 0 then 0 else 1
def Later (nodes : List S55) : Prop := ∀ k, k < nodes.length → (nodes.getD k z55).f0 ≠ -1 → (k : Int) < (nodes.getD k z55).f1 ∧ (k : Int) < (nodes.getD k z55).f2
theorem count_eq (f : Nat) (dec : List Int) (h0 : 0 < nodes.length) (h : rightP n l v nodes f 0 dec = true) (j : Nat) : (visP nodes f 0).count j = (if j = 0 then 1 else 0) + ((List.range nodes.length).map fun k => (visP nodes f 0).count k * ptrP nodes j k).sum := by
 rw [vis_count j f 0 dec h, sum_count (ptrP nodes j) nodes.length _ (fun k hk => (vis_lt f 0 dec h0 h k hk).1)]
theorem tree_of_seen (f : Nat) (dec : List Int) (h0 : 0 < nodes.length) (h : rightP n l v nodes f 0 dec = true) (hn : (visP nodes f 0).Nodup) (ha : ∀ j, j < nodes.length → j ∈ visP nodes f 0) : OnePar nodes ∧ Later nodes := by
 refine ⟨fun j hj => ?_, fun k hk => (vis_lt f 0 dec h0 h k (ha k hk)).2⟩
 have hc : ∀ k, k < nodes.length → (visP nodes f 0).count k = 1 := fun k hk => by rw [hn.count, if_pos (ha k hk)]
 have he := count_eq f dec h0 h j
 have e : (List.range nodes.length).map (fun k => (visP nodes f 0).count k * ptrP nodes j k) = (List.range nodes.length).map (ptrP nodes j) := List.map_congr_left (fun k hk => by rw [hc k (List.mem_range.1 hk), Nat.one_mul])
 rw [e, hc j hj] at he
 unfold parP
 by_cases e : j = 0
 ·rw [if_pos e] at he ⊢; omega
 ·rw [if_neg e] at he ⊢; omega
theorem seen_of_tree (f : Nat) (dec : List Int) (h0 : 0 < nodes.length) (h : rightP n l v nodes f 0 dec = true) (hp : OnePar nodes) (hl : Later nodes) : (visP nodes f 0).Nodup ∧ ∀ j, j < nodes.length → j ∈ visP nodes f 0 := by
 have hlt : ∀ j k, k < nodes.length → 0 < ptrP nodes j k → k < j := by
  intro j k hk hpos
  obtain ⟨h1, h2⟩ := ptr_pos hpos
  have h3 := hl k hk h1
  omega
 have hle : ∀ j, j < nodes.length → (visP nodes f 0).count j ≤ 1 := by
  intro j
  induction j using Nat.strongRecOn with
  | _ j ih =>
   intro hj
   have he := count_eq f dec h0 h j
   have hs : ((List.range nodes.length).map fun k => (visP nodes f 0).count k * ptrP nodes j k).sum ≤ parP nodes j := by
    refine sum_le_of _ _ _ (fun k hk => ?_)
    have hk := List.mem_range.1 hk
    by_cases hz : 0 < ptrP nodes j k
    ·have := ih k (hlt j k hk hz) hk
     have h1 : (visP nodes f 0).count k * ptrP nodes j k ≤ 1 * ptrP nodes j k := Nat.mul_le_mul_right _ this
     omega
    ·rw [show ptrP nodes j k = 0 by omega]; simp
   rw [hp j hj] at hs
   by_cases e : j = 0
   ·rw [if_pos e] at he hs; omega
   ·rw [if_neg e] at he hs; omega
 have hge : ∀ j, j < nodes.length → 1 ≤ (visP nodes f 0).count j := by
  intro j
  induction j using Nat.strongRecOn with
  | _ j ih =>
   intro hj
   have he := count_eq f dec h0 h j
   by_cases e : j = 0
   ·rw [if_pos e] at he; omega
   ·have h1 := hp j hj
    rw [if_neg e] at h1
    obtain ⟨k, hk, hk2⟩ := sum_pos (ptrP nodes j) (List.range nodes.length) (by unfold parP at h1; omega)
    have hkl := List.mem_range.1 hk
    have h3 := ih k (hlt j k hkl hk2) hkl
    have h4 := sum_ge_of (fun k => (visP nodes f 0).count k * ptrP nodes j k) (List.range nodes.length) k hk
    have h5 : 1 * 1 ≤ (visP nodes f 0).count k * ptrP nodes j k := Nat.mul_le_mul h3 hk2
    have h6 : (visP nodes f 0).count k * ptrP nodes j k ≤ ((List.range nodes.length).map fun k => (visP nodes f 0).count k * ptrP nodes j k).sum := h4
    omega
 refine ⟨?_, fun j hj => List.count_pos_iff.1 (hge j hj)⟩
 rw [List.nodup_iff_count]
 intro a
 by_cases ha : a ∈ visP nodes f 0
 ·exact hle a (vis_lt f 0 dec h0 h a ha).1
 ·rw [List.count_eq_zero_of_not_mem ha]; omega
/-- The checker accepts exactly where the reference does. -/
theorem root_tree (f : Nat) (dec : List Int) (h0 : 0 < nodes.length) :
  ((nodeP n l v nodes f 0 dec (List.replicate nodes.length false)).1 = true ∧ (nodeP n l v nodes f 0 dec (List.replicate nodes.length false)).2.all id = true) ↔ (OnePar nodes ∧ Later nodes ∧ rightP n l v nodes f 0 dec = true) := by
 obtain ⟨h1, h2⟩ := node_right (n := n) (l := l) (v := v) (nodes := nodes) f 0 dec (List.replicate nodes.length false)
 have hlen := nodeP_len n l v nodes f 0 dec (List.replicate nodes.length false)
 rw [List.length_replicate] at hlen
 have hrep : ∀ j, j < nodes.length → (List.replicate nodes.length false).getD j true = false := by
  intro j hj
  simp [List.getD, List.getElem?_replicate, hj]
 constructor
 ·rintro ⟨ha, hb⟩
  obtain ⟨h3, h4, h5⟩ := h1.1 ha
  have h6 := h2 ha
  obtain ⟨t1, t2⟩ := tree_of_seen f dec h0 h3 h4 (fun j hj => by
   have h7 := h6 j
   rw [hrep j hj, Bool.false_or] at h7
   have h8 : (nodeP n l v nodes f 0 dec (List.replicate nodes.length false)).2.getD j true = true := by
    rw [List.all_eq_true] at hb
    have hjl : j < (nodeP n l v nodes f 0 dec (List.replicate nodes.length false)).2.length := by omega
    rw [List.getD, List.getElem?_eq_getElem hjl]
    exact hb _ (List.getElem_mem hjl)
   rw [h8] at h7
   exact of_decide_eq_true h7.symm)
  exact ⟨t1, t2, h3⟩
 ·rintro ⟨hp, hl, hr⟩
  obtain ⟨h3, h4⟩ := seen_of_tree f dec h0 hr hp hl
  have ha := h1.2 ⟨hr, h3, fun j hj => hrep j (vis_lt f 0 dec h0 hr j hj).1⟩
  refine ⟨ha, ?_⟩
  rw [List.all_eq_true]
  intro x hx
  obtain ⟨j, hj, rfl⟩ := List.mem_iff_getElem.1 hx
  have h6 := h2 ha j
  rw [List.getD, List.getElem?_eq_getElem hj, Option.getD_some] at h6
  rw [h6, decide_eq_true (h4 j (by omega))]
  simp
end
end Go.Proofs.Ytdamibblnjeooaa.H

/- The certificate that Make grows is accepted. Plain. -/
namespace Go.Proofs.Ytdamibblnjeooaa.H
open Go.RowKit Go.Proofs.YtdamibblnjeooaaW.PrintWords Go.Proofs.YtdamibblnjeooaaW.PrintLast
set_option linter.unusedVariables false
set_option linter.unusedSimpArgs false
theorem sumF_range' (f : Nat → Int) : ∀ n i, sumF f n i = ((List.range' i n).map f).sum
 | 0, i => by simp [sumF]
 | n + 1, i => by
  rw [List.range'_succ, List.map_cons, List.sum_cons, ← sumF_range' f n (i + 1)]
  rfl
def inB (dec : List Int) (i : Nat) : Bool := decide (dec.getD i 0 = 1)
theorem inS_valB (l : List S82) (dec : List Int) : inS l dec l.length = valB l (inB dec) := by
 unfold inS valB
 rw [sumF_range', List.range_eq_range']
 congr 1
 refine List.map_congr_left (fun k _ => ?_)
 unfold inB prc
 by_cases h : dec.getD k 0 = 1
 ·rw [if_pos h, if_pos (decide_eq_true h)]
 ·rw [if_neg h, if_neg (by simpa using h)]
theorem frS_zero (ks : List Int) (n : Nat) : ∀ m, frS ks (List.replicate n 0) m = 0
 | 0 => rfl
 | m + 1 => by
  rw [frS_succ, frS_zero ks n m]
  have : (List.replicate n (0 : Int)).getD m 0 = 0 := by
   by_cases h : m < n
   ·simp [List.getD, h]
   ·simp [List.getD, h]
  rw [this]
  split <;> rfl
theorem spS_none (l : List S82) (dec ps : List Int) (h : ∀ b, b < l.length → possP l dec b = false) : ∀ m, m ≤ l.length → spS l dec ps m = []
 | 0, _ => rfl
 | m + 1, hm => by rw [spS_succ, h m (by omega), spS_none l dec ps h m (by omega)]; rfl
/-- Decisions whose winners are feasible. -/
def DIn (l : List S82) (dec : List Int) : Prop := dec.length = l.length ∧ FeasU (fun _ => true) l (inB dec)
theorem getD_setne (dec : List Int) (b i : Nat) (d : Int) (h : ¬ b = i) : (dec.set b d).getD i 0 = dec.getD i 0 := by
 simp only [List.getD, List.getElem?_set, if_neg h]
theorem getD_seteq (dec : List Int) (b : Nat) (d : Int) (hb : b < dec.length) : (dec.set b d).getD b 0 = d := by
 simp [List.getD, List.getElem?_set, hb]
theorem inB_set1 (dec : List Int) (b i : Nat) (hb : b < dec.length) : inB (dec.set b 1) i = (decide (i = b) || inB dec i) := by
 unfold inB
 by_cases h : b = i
 ·subst h
  rw [getD_seteq dec b 1 hb]
  simp
 ·rw [getD_setne dec b i 1 h, show decide (i = b) = false from decide_eq_false (fun e => h e.symm), Bool.false_or]
theorem inB_set2 (dec : List Int) (b i : Nat) (hb : b < dec.length) (h0 : dec.getD b 0 = 0) : inB (dec.set b 2) i = inB dec i := by
 unfold inB
 by_cases h : b = i
 ·subst h
  rw [h0, getD_seteq dec b 2 hb]
  rfl
 ·rw [getD_setne dec b i 2 h]
theorem poss_conf {l : List S82} {dec : List Int} {b : Nat} (h : possP l dec b = true) (k : Nat) (hk : k < dec.length) (hi : inB dec k = true) : cj l k b = false := by
 unfold possP at h
 simp only [Bool.and_eq_true, Bool.not_eq_true'] at h
 have h2 := h.2
 cases hc : cj l k b
 ·rfl
 ·have : (List.range dec.length).any (oddsP l dec b) = true := List.any_eq_true.2 ⟨k, List.mem_range.2 hk, by
   unfold oddsP
   unfold inB at hi
   rw [hi]
   exact hc⟩
  rw [this] at h2
  cases h2
theorem mhyp_ok (n : Nat) (l : List S82) (hV : validP (n : Int) l = 0) : MHyp n l (searchP (fun _ => true) l).2 (DIn l) := by
 obtain ⟨hn1, hn2, hl10, hbb⟩ := validP_bids (n : Int) l hV
 refine ⟨hl10, by omega, by omega, hbb, ?_, fun dec h => h.1, ?_, ?_⟩
 ·refine ⟨List.length_replicate .., fun a ha h => rfl, fun a b ha hb hne h1 h2 => ?_⟩
  unfold inB at h1
  have : (List.replicate l.length (0 : Int)).getD a 0 = 0 := by simp [List.getD, ha]
  rw [this] at h1
  simp at h1
 ·intro dec b hd hb hp
  obtain ⟨hdl, hf⟩ := hd
  have h0 := poss_zero hp
  refine ⟨⟨by rw [List.length_set]; exact hdl, fun _ _ _ => rfl, fun a c ha hc hne h1 h2 => ?_⟩, ⟨by rw [List.length_set]; exact hdl, fun _ _ _ => rfl, fun a c ha hc hne h1 h2 => ?_⟩⟩
  ·rw [inB_set1 dec b _ (by omega)] at h1 h2
   by_cases ea : a = b
   ·subst ea
    have hc2 : inB dec c = true := by
     rw [decide_eq_false (fun e => hne e.symm)] at h2
     exact h2
    rw [cj_comm]
    exact poss_conf hp c (by omega) hc2
   ·rw [decide_eq_false ea] at h1
    by_cases ec : c = b
    ·subst ec
     exact poss_conf hp a (by omega) h1
    ·rw [decide_eq_false ec] at h2
     exact hf.2 a c ha hc hne h1 h2
  ·rw [inB_set2 dec b _ (by omega) h0] at h1 h2
   exact hf.2 a c ha hc hne h1 h2
 ·intro dec hd hno
  obtain ⟨hdl, hf⟩ := hd
  obtain ⟨p, hb, hs⟩ := search_best (fun _ => true) l (fun b hb => (hbb b hb).1.1)
  rw [hs]
  unfold boundD
  rw [frS_zero, spS_none l dec _ hno l.length (Nat.le_refl _), hdl, inS_valB]
  have := hb.max (inB dec) hf
  simp only [List.map_nil, List.sum_nil]
  omega
theorem less_ok (a b : List Int) (ha : a.length ≤ 1000) (hb : b.length ≤ 1000) : Ev (fun k => worldmintref28_Less.f k a b) (lessP a b) := by
 have : ∀ (d e : List Int) (p : Nat), a.drop p = d → b.drop p = e → p ≤ a.length → p ≤ b.length → Ev (fun k => worldmintref28_Less.l0 k a b (p : Int)) (lessP d e) := by
  intro d
  induction d with
  | nil =>
   intro e p hd he hp1 hp2
   have := drop_nil a p hp1 hd
   refine Ev.succ ?_
   simp only [worldmintref28_Less.l0, if_neg (show ¬ (p : Int) < (a.length : Int) by omega)]
   refine Ev.succ ?_
   simp only [worldmintref28_Less.j1, Bool.false_eq_true, if_false]
   cases e with
   | nil =>
    have h2 := drop_nil b p hp2 he
    simp only [decide_eq_false (show ¬ (a.length : Int) < (b.length : Int) by omega), lessP]
    exact Ev.some_
   | cons z e =>
    obtain ⟨_, _, hlt⟩ := drop_cons b p z e he
    simp only [decide_eq_true (show (a.length : Int) < (b.length : Int) by omega), lessP]
    exact Ev.some_
  | cons y d ih =>
   intro e p hd he hp1 hp2
   obtain ⟨hx, hd', hlt⟩ := drop_cons a p y d hd
   refine Ev.succ ?_
   simp only [worldmintref28_Less.l0, if_pos (show (p : Int) < (a.length : Int) by omega)]
   refine Ev.succ ?_
   cases e with
   | nil =>
    have h2 := drop_nil b p hp2 he
    simp only [decide_eq_false (show ¬ (p : Int) < (b.length : Int) by omega), worldmintref28_Less.j1, Bool.false_eq_true, if_false, decide_eq_false (show ¬ (a.length : Int) < (b.length : Int) by omega), lessP]
    exact Ev.some_
   | cons z e =>
    obtain ⟨hx2, he', hlt2⟩ := drop_cons b p z e he
    have hw : wrap64 ((p : Int) + 1) = ((p + 1 : Nat) : Int) := by rw [w64 _ (by omega) (by omega)]; omega
    simp only [decide_eq_true (show (p : Int) < (b.length : Int) by omega), worldmintref28_Less.j1, if_true, if_pos (show (0 : Int) ≤ (p : Int) by omega), if_pos (show (p : Int) < (a.length : Int) by omega), if_pos (show (p : Int) < (b.length : Int) by omega), rd_at a p y hx, rd_at b p z hx2, hw, lessP]
    by_cases c : y = z
    ·subst c
     simp only [if_true]
     exact ih e (p + 1) hd' he' (by omega) (by omega)
    ·simp only [if_neg c]
     exact Ev.some_
 exact this a b 0 rfl rfl (Nat.zero_le _) (Nat.zero_le _)
end Go.Proofs.Ytdamibblnjeooaa.H

/- The reference's best choice is the search's. -/
namespace Go.Proofs.Ytdamibblnjeooaa.H
open Go.RowKit Go.Proofs.YtdamibblnjeooaaW.PrintWords Go.Proofs.YtdamibblnjeooaaW.PrintLast
set_option linter.unusedVariables false
set_option linter.unusedSimpArgs false
set_option maxHeartbeats 1000000 in
theorem rbest_l1 (l : List S85) (hb : ∀ b ∈ l, b.f2.length ≤ 9223372036854775807) (hl : l.length ≤ 10) (hp : ∀ b ∈ l, 1 ≤ b.f1 ∧ b.f1 ≤ 1099511627776) (x1 : Int) (T : Nat) (hT : 2 ^ l.length = T) (hpow : T ≤ 1024) :
  ∀ (d : Nat) (m : Nat) (win : List Int) (value : Int), T - m = d → m ≤ T → (∃ b0, b0 < T ∧ choiceP l.length b0 0 = win) → okS (fun b => b.f0 != x1) (l.map cv) [] win = true → valP (l.map cv) win = value →
  (∀ b, b < m → okS (fun b => b.f0 != x1) (l.map cv) [] (choiceP l.length b 0) = true → valP (l.map cv) (choiceP l.length b 0) ≤ value ∧ (valP (l.map cv) (choiceP l.length b 0) = value → lessP (choiceP l.length b 0) win = false)) →
  Ev (fun k => worldmintref28_best.l1 k l x1 win value (T : Int) (m : Int)) (searchP (fun b => b.f0 != x1) (l.map cv)) := by
 intro d
 induction d with
 | zero =>
  intro m win value hd hm hw0 hok hv hall
  obtain ⟨b0, h0, hw⟩ := hw0
  have hu := best_unique (U := fun b => b.f0 != x1) (l := l.map cv) (fun b hb' => by obtain ⟨y, hy, rfl⟩ := List.mem_map.1 hb'; exact (hp y hy).1) win value b0 (by rw [List.length_map, hT]; exact h0) (by simpa using hw) hok hv (fun b hbl => by
   rw [List.length_map, hT] at hbl
   have := hall b (by omega)
   simpa using this)
  refine Ev.succ ?_
  simp only [worldmintref28_best.l1, if_neg (show ¬ (m : Int) < (T : Int) by omega)]
  rw [← hu]
  exact Ev.some_
 | succ d ih =>
  intro m win value hd hm hw0 hok hv hall
  have hwm : wrap64 ((m : Int) + 1) = ((m + 1 : Nat) : Int) := by rw [w64 _ (by omega) (by omega)]; omega
  have hch := choice_ok l.length (by omega) l.length 0 m [] (by omega) (by omega) (by simp) (by omega)
  rw [List.nil_append] at hch
  have hrise := choice_rise l.length m
  have hclen := choice_len l.length m 0
  have hsplit := okS_split (fun b => b.f0 != x1) (l.map cv) (choiceP l.length m 0) []
  have hwin : win.length ≤ 1000 := by obtain ⟨b0, _, rfl⟩ := hw0; have := choice_len l.length b0 0; omega
  obtain ⟨c, hc⟩ : ∃ c, c = choiceP l.length m 0 := ⟨_, rfl⟩
  rw [← hc] at hch hrise hclen hsplit
  have hval := rvalue_ok l c hrise.1 (by omega) (fun b hb' => by have := hp b hb'; omega)
  have hfe := rfeas_ok l hb c hrise (by omega)
  -- THE STEP, WHATEVER IS FOUND OF THIS CHOICE
  have hnew : okS (fun b => b.f0 != x1) (l.map cv) [] c = true → (value < valP (l.map cv) c ∨ (valP (l.map cv) c = value ∧ lessP c win = true)) → Ev (fun k => worldmintref28_best.l1 k l x1 c (valP (l.map cv) c) (T : Int) ((m + 1 : Nat) : Int)) (searchP (fun b => b.f0 != x1) (l.map cv)) := fun hokc hbet => by
   refine ih (m + 1) c _ (by omega) (by omega) ⟨m, by omega, hc.symm⟩ hokc rfl (fun b hbm hbo => ?_)
   rcases Nat.lt_or_ge b m with hlt | hge
   ·obtain ⟨h1, h2⟩ := hall b hlt hbo
    refine ⟨by omega, fun e => ?_⟩
    rcases hbet with hg | ⟨he, hle⟩
    ·omega
    ·have h3 := h2 (by omega)
     cases hc2 : lessP (choiceP l.length b 0) c with
     | false => rfl
     | true => rw [less_trans _ _ _ hc2 hle] at h3; cases h3
   ·obtain rfl : b = m := by omega
    rw [← hc]
    exact ⟨Int.le_refl _, fun _ => less_irrefl c⟩
  have hold : (okS (fun b => b.f0 != x1) (l.map cv) [] c = true → valP (l.map cv) c ≤ value ∧ (valP (l.map cv) c = value → lessP c win = false)) → Ev (fun k => worldmintref28_best.l1 k l x1 win value (T : Int) ((m + 1 : Nat) : Int)) (searchP (fun b => b.f0 != x1) (l.map cv)) := fun hno => by
   refine ih (m + 1) win value (by omega) (by omega) hw0 hok hv (fun b hbm hbo => ?_)
   rcases Nat.lt_or_ge b m with hlt | hge
   ·exact hall b hlt hbo
   ·obtain rfl : b = m := by omega
    rw [← hc] at hbo ⊢
    exact hno hbo
  have hl2 : ∀ (e : List Int) (p : Nat) (v : Bool), c.drop p = e → p ≤ c.length → (v && e.all fun k => ((l.map cv).getD k.toNat z82).f0 != x1) = okS (fun b => b.f0 != x1) (l.map cv) [] c →
    Ev (fun k => worldmintref28_best.l2 k l x1 win value (T : Int) (m : Int) c v (p : Int)) (searchP (fun b => b.f0 != x1) (l.map cv)) := by
   intro e
   induction e with
   | nil =>
    intro p v hde hpc hvv
    have hpl := drop_nil c p hpc hde
    simp only [List.all_nil, Bool.and_true] at hvv
    refine Ev.succ ?_
    simp only [worldmintref28_best.l2, if_neg (show ¬ (p : Int) < (c.length : Int) by omega), hwm]
    refine Ev.bind hval ?_
    cases hvb : v
    ·simp only [Bool.false_eq_true, if_false]
     exact hold (fun h => by rw [← hvv, hvb] at h; cases h)
    ·have hokc : okS (fun b => b.f0 != x1) (l.map cv) [] c = true := by rw [← hvv, hvb]
     simp only [if_true]
     by_cases c1 : valP (l.map cv) c > value
     ·simp only [if_pos c1]
      exact hnew hokc (.inl c1)
     ·simp only [if_neg c1]
      by_cases c2 : valP (l.map cv) c = value
      ·simp only [if_pos c2]
       refine Ev.bind (less_ok c win (by omega) hwin) ?_
       cases hle : lessP c win
       ·simp only [Bool.false_eq_true, if_false]
        exact hold (fun _ => ⟨by omega, fun _ => hle⟩)
       ·simp only [if_true]
        exact hnew hokc (.inr ⟨c2, hle⟩)
      ·simp only [if_neg c2]
       exact hold (fun _ => ⟨by omega, fun h => absurd h c2⟩)
   | cons y e ih2 =>
    intro p v hde hpc hvv
    obtain ⟨hx, hd', hlt⟩ := drop_cons c p y e hde
    obtain ⟨hy0, hy1⟩ := hrise.1 y (List.mem_of_getElem? hx)
    have hwp : wrap64 ((p : Int) + 1) = ((p + 1 : Nat) : Int) := by rw [w64 _ (by omega) (by omega)]; omega
    have he : ∀ k, worldmintref28_best.l2 (k + 1) l x1 win value (T : Int) (m : Int) c v (p : Int) = worldmintref28_best.l2 k l x1 win value (T : Int) (m : Int) c (v && ((l.map cv).getD y.toNat z82).f0 != x1) ((p + 1 : Nat) : Int) := by
     intro k
     rw [worldmintref28_best.l2, if_pos (Int.ofNat_lt.2 hlt), hwp, rd_at c p y hx, if_pos (Int.natCast_nonneg p), if_pos hy0, if_pos hy1, ← rdR_cv]
     cases v
     ·rfl
     ·rfl
    have hrec := ih2 (p + 1) (v && ((l.map cv).getD y.toNat z82).f0 != x1) hd' hlt (by rw [← hvv, List.all_cons, Bool.and_assoc])
    refine Ev.succ ?_
    simp only [he]
    exact hrec
  refine Ev.succ ?_
  simp only [worldmintref28_best.l1, if_pos (show (m : Int) < (T : Int) by omega)]
  refine Ev.bind (a := c) ?_ ?_
  ·rw [hc] at hch ⊢
   exact hch
  ·refine Ev.bind hfe ?_
   refine hl2 c 0 _ rfl (Nat.zero_le _) ?_
   rw [hsplit]
theorem rbest_ok (l : List S85) (hb : ∀ b ∈ l, b.f2.length ≤ 9223372036854775807) (hl : l.length ≤ 10) (hp : ∀ b ∈ l, 1 ≤ b.f1 ∧ b.f1 ≤ 1099511627776) (x1 : Int) :
  Ev (fun k => worldmintref28_best.f k l x1) (searchP (fun b => b.f0 != x1) (l.map cv)) := by
 have hpow1 : 2 ^ l.length ≤ 1024 := Nat.le_trans (Nat.pow_le_pow_right (by omega) hl) (by simp)
 have h1 := rbest_l1 l hb hl hp x1 (2 ^ l.length) rfl hpow1 _ 0 [] 0 rfl (Nat.zero_le _) ⟨0, Nat.two_pow_pos _, by
  have : ∀ n i, choiceP n 0 i = [] := by
   intro n
   induction n with
   | zero => intro i; rfl
   | succ n ih => intro i; simp [choiceP, ih]
  exact this _ _⟩ rfl rfl (fun b hb => by omega)
 have : ∀ (d p : Nat), l.length - p = d → p ≤ l.length → Ev (fun k => worldmintref28_best.l0 k l x1 0 ((2 ^ p : Nat) : Int) (p : Int)) (searchP (fun b => b.f0 != x1) (l.map cv)) := by
  intro d
  induction d with
  | zero =>
   intro p hd hpl
   obtain rfl : p = l.length := by omega
   refine Ev.succ ?_
   simp only [worldmintref28_best.l0, if_neg (show ¬ (l.length : Int) < (l.length : Int) by omega)]
   exact h1
  | succ d ih =>
   intro p hd hpl
   have hpow : 2 ^ p ≤ 1024 := Nat.le_trans (Nat.pow_le_pow_right (by omega) (show p ≤ 10 by omega)) (by simp)
   have hw : wrap64 ((p : Int) + 1) = ((p + 1 : Nat) : Int) := by rw [w64 _ (by omega) (by omega)]; omega
   have hw2 : wrap64 (((2 ^ p : Nat) : Int) * 2) = ((2 ^ (p + 1) : Nat) : Int) := by
    rw [Nat.pow_succ]
    generalize 2 ^ p = P at *
    rw [w64 _ (by omega) (by omega)]; omega
   refine Ev.succ ?_
   simp only [worldmintref28_best.l0, if_pos (show (p : Int) < (l.length : Int) by omega), hw, hw2]
   exact ih (p + 1) (by omega) (by omega)
 exact this _ 0 rfl (Nat.zero_le _)
/-- Where every bidder has a number, leaving out nobody's bids leaves out none. -/
theorem search_all (l : List S82) (x1 : Int) (h : ∀ b ∈ l, b.f0 ≠ x1) : searchP (fun b => b.f0 != x1) l = searchP (fun _ => true) l := by
 have hr : ∀ left : List S82, (∀ b ∈ left, b.f0 ≠ x1) → restOf (fun b => b.f0 != x1) left = restOf (fun _ => true) left := by
  intro left
  induction left with
  | nil => intro _; rfl
  | cons b left ih =>
   intro hh
   have := hh b (by simp)
   simp only [restOf, ih (fun x hx => hh x (by simp [hx]))]
   simp [this]
 have : ∀ (left : List S82) (i : Nat) (value : Int) (win : List Int) (st : Int × List Int × Int), (∀ b ∈ left, b.f0 ≠ x1) → tryP (fun b => b.f0 != x1) l left i value win st = tryP (fun _ => true) l left i value win st := by
  intro left
  induction left with
  | nil => intro i value win st _; rfl
  | cons b left ih =>
   intro i value win st hh
   obtain ⟨best, out, val⟩ := st
   have hb : (b.f0 != x1) = true := by simpa using hh b (by simp)
   have hl : ∀ x ∈ left, x.f0 ≠ x1 := fun x hx => hh x (by simp [hx])
   simp only [tryP, hr (b :: left) hh, hb, ih _ _ _ _ hl]
 unfold searchP
 rw [this l 0 0 [] (-1, [], 0) h]
end Go.Proofs.Ytdamibblnjeooaa.H

/- Bids that are fine. Plain. -/
namespace Go.Proofs.Ytdamibblnjeooaa.H
open Go.RowKit
set_option linter.unusedVariables false
set_option linter.unusedSimpArgs false
/-- A good bid, its price raised. -/
def Fine (n : Int) (b : S82) : Prop := 1 ≤ b.f0 ∧ b.f0 ≤ 1073741824 ∧ 1 ≤ b.f1 ∧ b.f1 ≤ 1000 ∧ b.f2.length ≠ 0 ∧ lotsOk n (-1) b.f2 = true
theorem fine_err (n : Int) : ∀ l : List S82, (∀ b ∈ l, Fine n b) → bidsErr n l = 0
 | [], _ => rfl
 | b :: l, h => by
  obtain ⟨h1, h2, h3, h4, h5, h6⟩ := h b (by simp)
  unfold bidsErr
  rw [if_neg (by simp; omega), if_neg (by simp; omega), if_neg (by simpa using h5), h6]
  simpa using fine_err n l (fun x hx => h x (by simp [hx]))
theorem fine_valid (n : Int) (l : List S82) (h1 : 1 ≤ n) (h8 : n ≤ 8) (hl : l.length ≤ 10) (h : ∀ b ∈ l, Fine n b) : validP n l = 0 := by
 unfold validP
 rw [if_neg (by simp; omega), if_neg (by omega)]
 exact fine_err n l h
end Go.Proofs.Ytdamibblnjeooaa.H

/- Win: a feasible choice. A leaf at the root. Plain. -/
namespace Go.Proofs.Ytdamibblnjeooaa.H
open Go.RowKit Go.Proofs.YtdamibblnjeooaaW.PrintWords Go.Proofs.YtdamibblnjeooaaW.PrintLast
set_option linter.unusedVariables false
set_option linter.unusedSimpArgs false
theorem wf_any (x : Int) : (Lit.int .i64 (wrap64 x)).wf = true := by
 have h : -9223372036854775808 ≤ wrap64 x ∧ wrap64 x ≤ 9223372036854775807 := by unfold wrap64; omega
 simpa [Lit.wf, IntKind.min, IntKind.max, IntKind.signed, IntKind.bits] using h
theorem okS_take (l : List S82) : ∀ (s win : List Int) (m : Nat), okS (fun _ => true) l win s = true → okS (fun _ => true) l win (s.take m) = true
 | [], _, _, h => by simpa using h
 | k :: s, win, 0, _ => by simp [okS]
 | k :: s, win, m + 1, h => by
  simp only [okS, Bool.and_eq_true, List.take_succ_cons] at h ⊢
  exact ⟨h.1, okS_take l s _ m h.2⟩
theorem feas_sel (l : List S82) (s : List Int) (h0 : ∀ k ∈ s, 0 ≤ k ∧ k < l.length) (h1 : s.Pairwise (· < ·)) (h : okS (fun _ => true) l [] s = true) : feasP l [] s = true := by
 rw [feas_ok l s [] h0 h1 (by simp)]; exact h
theorem win_ok (t : Int) (L : List S85) (hL : L.length ≤ 10) (hb : ∀ b ∈ L, b.f2.length ≤ 9223372036854775807) (hp : ∀ b ∈ L, 1 ≤ b.f1 ∧ b.f1 ≤ 1099511627776) (h0 : ∀ b ∈ L, b.f0 ≠ 0) (hv : validP t (L.map cv) = 0) (a : Int) (wa : (Lit.int .i64 a).wf = true) :
  ∃ win, Ev (fun k => worldmintref29_Win.f k t L a) win ∧ feasP (L.map cv) [] win = true := by
 have hpc : ∀ b ∈ L.map cv, 1 ≤ b.f1 := fun b hb => by
  obtain ⟨y, hy, rfl⟩ := List.mem_map.1 hb
  exact (hp y hy).1
 have hlm : (L.map cv).length = L.length := List.length_map ..
 have hbest := rbest_ok L hb hL hp 0
 rw [search_all (L.map cv) 0 (fun b hb => by
  obtain ⟨y, hy, rfl⟩ := List.mem_map.1 hb
  exact h0 y hy)] at hbest
 obtain ⟨p, hib, hse⟩ := search_best (fun _ => true) (L.map cv) hpc
 rw [hse] at hbest
 have hBest : Ev (fun k => worldmintref28_Best.f k t L) (sel p (L.map cv).length 0, valB (L.map cv) p, 0) := by
  unfold worldmintref28_Best.f
  refine Ev.bind (rvalid_ok t L hb) ?_
  rw [hv]
  simp only [if_true]
  exact Ev.bind hbest Ev.some_
 have hok := (ok_sel (fun _ => true) (L.map cv) p).2 hib.feas
 have hsr : ∀ k ∈ sel p (L.map cv).length 0, 0 ≤ k ∧ k < (L.map cv).length := fun k hk => by
  obtain ⟨q, hq, _, rfl⟩ := (mem_sel0 _ _ _).1 hk
  omega
 have hsp := rise_sel p (L.map cv).length 0
 have hsl := sel_len p (L.map cv).length 0
 obtain ⟨r4, hr4, _, _⟩ := around_ok a 4 wa (by omega)
 obtain ⟨c, hc, hc0, hc1⟩ := around_ok (wrap64 (Int.tdiv a 4)) 1024 (wf_any _) (by omega)
 generalize sel p (L.map cv).length 0 = s at *
 unfold worldmintref29_Win.f
 by_cases h4 : r4 > 0
 ·refine ⟨s, Ev.bind hBest ?_, feas_sel _ s hsr hsp hok⟩
  simp only [hr4, Option.bind_some, if_pos h4]
  exact Ev.some_
 ·have hch := choice_ok L.length (by omega) L.length 0 c.toNat [] (Nat.sub_zero _) (Nat.zero_le _) (Nat.le_refl _) (by omega)
  rw [List.nil_append, show ((c.toNat : Nat) : Int) = c by omega] at hch
  have hcr := choice_rise L.length c.toNat
  have hcl := choice_len L.length c.toNat 0
  have hfe := rfeas_ok L hb (choiceP L.length c.toNat 0) hcr (by omega)
  cases hq : okS (fun _ => true) (L.map cv) [] (choiceP L.length c.toNat 0)
  ·rw [hq] at hfe
   have hw : wrap64 ((s.length : Int) / 2) = ((s.length / 2 : Nat) : Int) := by rw [w64 _ (by omega) (by omega)]; omega
   refine ⟨s.take (s.length / 2), Ev.bind hBest ?_, feas_sel _ _ (fun k hk => hsr k (List.mem_of_mem_take hk)) (hsp.sublist (List.take_sublist ..)) (okS_take _ _ _ _ hok)⟩
   simp only [hr4, hc, Option.bind_some, if_neg h4]
   refine Ev.bind (a := choiceP L.length c.toNat 0) hch ?_
   refine Ev.bind hfe ?_
   simp only [Bool.false_eq_true, if_false, hw, if_pos (show (0 : Int) ≤ ((s.length / 2 : Nat) : Int) by omega), if_pos (show ((s.length / 2 : Nat) : Int) ≤ (s.length : Int) by omega), Int.toNat_natCast]
   exact Ev.some_
  ·rw [hq] at hfe
   refine ⟨choiceP L.length c.toNat 0, Ev.bind hBest ?_, feas_sel _ _ (by rw [hlm]; exact hcr.1) hcr.2 hq⟩
   simp only [hr4, hc, Option.bind_some, if_neg h4]
   refine Ev.bind (a := choiceP L.length c.toNat 0) hch ?_
   refine Ev.bind hfe ?_
   simp only [if_true]
   exact Ev.some_
end Go.Proofs.Ytdamibblnjeooaa.H

/- The sum of a map of greatest surpluses, as the references reckon it: for each first bid of a bidder the greatest one. Plain. -/
namespace Go.Proofs.Ytdamibblnjeooaa.H
open Go.RowKit
set_option linter.unusedVariables false
set_option linter.unusedSimpArgs false
end Go.Proofs.Ytdamibblnjeooaa.H

/- The reference's Bound (chapter 29) is the checker's. Plain. -/
namespace Go.Proofs.Ytdamibblnjeooaa.H
open Go.RowKit Go.Proofs.YtdamibblnjeooaaW.PrintWords Go.Proofs.YtdamibblnjeooaaW.PrintLast
set_option linter.unusedVariables false
set_option linter.unusedSimpArgs false
/-- What is known of the bids and the prices. -/
structure BOk (L : List S85) (ps : List Int) : Prop where
 l10 : L.length ≤ 10
 p8 : ps.length ≤ 8
 pr : ∀ x ∈ ps, 0 ≤ x ∧ x ≤ 1099511627776
 f1 : ∀ b ∈ L, 1 ≤ b.f1 ∧ b.f1 ≤ 1099511627776
 f2 : ∀ b ∈ L, b.f2.length ≤ 8 ∧ ∀ k ∈ b.f2, 0 ≤ k ∧ k < ps.length
section
variable {L : List S85} {ps : List Int} (ok : BOk L ps) (dec ins outs : List Int) (hd : DecR L.length dec ins outs)
include ok
include hd
omit hd in
omit hd in
omit hd in
omit ok hd in
omit hd in
end
section
variable (L : List S85) (hb : ∀ b ∈ L, b.f2.length ≤ 9223372036854775807)
include hb in
end
def cn (x : S34) : S55 := ⟨x.f0, x.f1, x.f2, x.f3⟩
theorem rdN_at (l : List S34) (i : Nat) (x : S34) (h : l[i]? = some x) : rd_T34 l (i : Int) = x := by
 simp [rd_T34, List.getD, h]
/-- Decisions as a row and as two lists without repeats. -/
structure DN (m : Nat) (dec ins outs : List Int) : Prop where
 r : DecR m dec ins outs
 ro : ∀ k ∈ outs, 0 ≤ k ∧ k < (m : Int)
 nd : (ins ++ outs).Nodup
theorem nd_len (m : Nat) : ∀ s : List Int, (∀ k ∈ s, 0 ≤ k ∧ k < (m : Int)) → s.Nodup → s.length ≤ m := by
 induction m with
 | zero =>
  intro s h _
  cases s with
  | nil => simp
  | cons x s => have := h x (by simp); omega
 | succ m ih =>
  intro s h hn
  have h1 := ih (s.erase (m : Int)) (fun k hk => by
   have h2 := h k (List.mem_of_mem_erase hk)
   have h3 := ((List.Nodup.mem_erase_iff hn).1 hk).1
   omega) (hn.erase _)
  by_cases hm : (m : Int) ∈ s
  ·have := List.length_erase_of_mem hm
   have : 0 < s.length := List.length_pos_of_mem hm
   omega
  ·rw [List.erase_of_not_mem hm] at h1; omega
theorem DN.len {m : Nat} {dec ins outs : List Int} (h : DN m dec ins outs) : ins.length + outs.length ≤ m := by
 have := nd_len m (ins ++ outs) (fun k hk => by
  rcases List.mem_append.1 hk with x | x
  ·exact h.r.ri k x
  ·exact h.ro k x) h.nd
 rwa [List.length_append] at this
theorem DN.zero (m : Nat) : DN m (List.replicate m 0) [] [] := by
 refine ⟨⟨List.length_replicate, by simp, by simp, by simp, fun k hk => ?_, fun k hk => ?_⟩, by simp, by simp⟩
 ·simp [List.getD, List.getElem?_replicate, hk]
 ·simp [List.getD, List.getElem?_replicate, hk]
theorem DN.take {m : Nat} {dec ins outs : List Int} (hm : m ≤ 100) (h : DN m dec ins outs) (b : Nat) (hb : b < m) (h0 : dec.getD b 0 = 0) :
  DN m (dec.set b 1) (ins ++ [(b : Int)]) outs ∧ DN m (dec.set b 2) ins (outs ++ [(b : Int)]) := by
 have hl := h.len
 obtain ⟨n1, n2⟩ := (h.r.i0 b hb).1 h0
 have hlen := h.r.len
 have hg : ∀ (d : Int) (k : Nat), (dec.set b d).getD k 0 = if k = b then d else dec.getD k 0 := by
  intro d k
  simp only [List.getD, List.getElem?_set]
  by_cases e : b = k
  ·subst e; simp [hlen, hb]
  ·rw [if_neg e, if_neg (fun x => e x.symm)]
 constructor
 ·refine ⟨⟨by simpa using hlen, by simp; omega, by omega, fun k hk => ?_, fun k hk => ?_, fun k hk => ?_⟩, h.ro, ?_⟩
  ·rcases List.mem_append.1 hk with x | x
   ·exact h.r.ri k x
   ·rw [List.mem_singleton] at x; omega
  ·rw [hg, List.mem_append, List.mem_singleton]
   by_cases e : k = b
   ·simp [e]
   ·rw [if_neg e, h.r.i1 k hk]
    constructor
    ·exact .inl
    ·rintro (x | x)
     ·exact x
     ·omega
  ·rw [hg, List.mem_append, List.mem_singleton]
   by_cases e : k = b
   ·simp [e]
   ·rw [if_neg e, h.r.i0 k hk]
    constructor
    ·rintro ⟨x, y⟩
     exact ⟨fun z => z.elim x (fun w => e (by omega)), y⟩
    ·rintro ⟨x, y⟩
     exact ⟨fun z => x (.inl z), y⟩
  ·have := h.nd
   rw [List.nodup_append] at this ⊢
   refine ⟨?_, this.2.1, ?_⟩
   ·rw [List.nodup_append]
    refine ⟨this.1, by simp, ?_⟩
    intro a ha c hc e
    rw [List.mem_singleton] at hc
    subst hc; subst e
    exact n1 ha
   ·intro a ha c hc e
    rcases List.mem_append.1 ha with x | x
    ·exact this.2.2 a x c hc e
    ·rw [List.mem_singleton] at x
     subst x; subst e
     exact n2 hc
 ·refine ⟨⟨by simpa using hlen, by omega, by simp; omega, h.r.ri, fun k hk => ?_, fun k hk => ?_⟩, fun k hk => ?_, ?_⟩
  ·rw [hg]
   by_cases e : k = b
   ·subst e
    simp [n1]
   ·rw [if_neg e, h.r.i1 k hk]
  ·rw [hg, List.mem_append, List.mem_singleton]
   by_cases e : k = b
   ·simp [e]
   ·rw [if_neg e, h.r.i0 k hk]
    constructor
    ·rintro ⟨x, y⟩
     exact ⟨x, fun z => z.elim y (fun w => e (by omega))⟩
    ·rintro ⟨x, y⟩
     exact ⟨x, fun z => y (.inl z)⟩
  ·rcases List.mem_append.1 hk with x | x
   ·exact h.ro k x
   ·rw [List.mem_singleton] at x; omega
  ·have := h.nd
   rw [← List.append_assoc, List.nodup_append]
   refine ⟨this, by simp, ?_⟩
   intro a ha c hc e
   rw [List.mem_singleton] at hc
   subst hc; subst e
   rcases List.mem_append.1 ha with x | x
   ·exact n1 x
   ·exact n2 x
/-- What is known where Valid found nothing. -/
structure VOk (n : Int) (L : List S85) : Prop where
 n8 : 1 ≤ n ∧ n ≤ 8
 l10 : L.length ≤ 10
 f1 : ∀ b ∈ L, 1 ≤ b.f1 ∧ b.f1 ≤ 1099511627776
 f2 : ∀ b ∈ L, b.f2.length ≤ 8 ∧ ∀ k ∈ b.f2, 0 ≤ k ∧ k < n
theorem VOk.of {n : Int} {L : List S85} (h : validP n (L.map cv) = 0) : VOk n L := by
 obtain ⟨hn1, hn2, hl10, hbb⟩ := validP_bids n (L.map cv) h
 rw [List.length_map] at hl10
 exact ⟨⟨hn1, hn2⟩, hl10, fun b hb => (hbb _ (List.mem_map_of_mem (f := cv) hb)).1, fun b hb => (hbb _ (List.mem_map_of_mem (f := cv) hb)).2⟩
section
variable {n : Int} {L : List S85} (ok : VOk n L) (v : Int) (NS : List S34)
include ok
end
theorem cert_ok (v : Int) (NS : List S34) (hl : NS.length < 2932031007402) : Ev (fun k => worldmintlaw29_certificate.f k v NS) (v, NS.map cn) := by
 have : ∀ (d : List S34) (p : Nat), NS.drop p = d → p ≤ NS.length → Ev (fun k => worldmintlaw29_certificate.l0 k (p : Int) v NS v ((NS.take p).map cn)) (v, NS.map cn) := by
  intro d
  induction d with
  | nil =>
   intro p hd hp
   have := drop_nil NS p hp hd
   subst this
   rw [List.take_length]
   refine Ev.succ ?_
   simp only [worldmintlaw29_certificate.l0, if_neg (show ¬ (NS.length : Int) < (NS.length : Int) by omega)]
   exact Ev.some_
  | cons y d ih =>
   intro p hd hp
   obtain ⟨hy, hd', hlt⟩ := drop_cons NS p y d hd
   have hwp : wrap64 ((p : Int) + 1) = ((p + 1 : Nat) : Int) := by rw [w64 _ (by omega) (by omega)]; omega
   have ht : (NS.take (p + 1)).map cn = (NS.take p).map cn ++ [(⟨y.f0, y.f1, y.f2, y.f3⟩ : S55)] := by
    rw [List.take_succ_eq_append_getElem hlt, List.map_append]
    obtain ⟨_, e⟩ := List.getElem?_eq_some_iff.1 hy
    rw [e]
    rfl
   have h1 := ih (p + 1) hd' (by omega)
   rw [ht] at h1
   refine Ev.succ ?_
   simp only [worldmintlaw29_certificate.l0, if_pos (show (p : Int) < (NS.length : Int) by omega), if_pos (show (0 : Int) ≤ (p : Int) by omega), if_pos (show ((NS.take p).map cn).length < 2932031007402 by rw [List.length_map, List.length_take]; omega), rdN_at NS p y hy, hwp]
   exact h1
 have h := this NS 0 rfl (Nat.zero_le _)
 simpa [worldmintlaw29_certificate.f] using h
theorem full_ok (t : Int) (L : List S85) (v : Int) (h0 : 0 ≤ t) (h8 : t ≤ 8) (hl : L.length ≤ 10) (hb : ∀ b ∈ L, b.f2.length ≤ 8) :
  worldmintref29_Full.f t L v = some (v, growP (L.map cv) t.toNat (L.length + 1) [] [] []) ∧ (growP (L.map cv) t.toNat (L.length + 1) [] [] []).length ≤ 2047 := by
 constructor
 ·unfold worldmintref29_Full.f
  rw [if_pos]
  unfold fullOk
  simp only [Bool.and_eq_true, decide_eq_true_eq, List.all_eq_true]
  exact ⟨⟨⟨h0, h8⟩, hl⟩, fun b hb' => by have := hb b hb'; omega⟩
 ·have h1 := growP_len (L.map cv) t.toNat (L.length + 1) [] [] []
  have h2 : 2 ^ (L.length + 1) ≤ 2 ^ 11 := Nat.pow_le_pow_right (by omega) (by omega)
  simp only [List.length_nil] at h1
  omega
theorem best_feas (n : Int) (l : List S82) (hV : validP n l = 0) : feasP l [] (searchP (fun _ => true) l).1 = true ∧ (searchP (fun _ => true) l).2 = valP l (searchP (fun _ => true) l).1 := by
 obtain ⟨_, _, _, hbb⟩ := validP_bids n l hV
 obtain ⟨p, hib, hse⟩ := search_best (fun _ => true) l (fun b hb => (hbb b hb).1.1)
 have hok := (ok_sel (fun _ => true) l p).2 hib.feas
 have hsr : ∀ k ∈ sel p l.length 0, 0 ≤ k ∧ k < l.length := fun k hk => by
  obtain ⟨q, hq, _, rfl⟩ := (mem_sel0 _ _ _).1 hk
  omega
 rw [hse]
 exact ⟨feas_sel _ _ hsr (rise_sel p l.length 0) hok, (valB_sel l p).symm⟩
def nc (x : S55) : S34 := ⟨x.f0, x.f1, x.f2, x.f3⟩
theorem rdP_at (l : List S55) (i : Nat) (x : S55) (h : l[i]? = some x) : rd_T55 l (i : Int) = x := by
 simp [rd_T55, List.getD, h]
theorem taken_ok (v : Int) (NS : List S55) (hl : NS.length < 2932031007402) : Ev (fun k => worldmintlaw29_taken.f k v NS) (v, NS.map nc) := by
 have : ∀ (d : List S55) (p : Nat), NS.drop p = d → p ≤ NS.length → Ev (fun k => worldmintlaw29_taken.l0 k (p : Int) v NS v ((NS.take p).map nc)) (v, NS.map nc) := by
  intro d
  induction d with
  | nil =>
   intro p hd hp
   have := drop_nil NS p hp hd
   subst this
   rw [List.take_length]
   refine Ev.succ ?_
   simp only [worldmintlaw29_taken.l0, if_neg (show ¬ (NS.length : Int) < (NS.length : Int) by omega)]
   exact Ev.some_
  | cons y d ih =>
   intro p hd hp
   obtain ⟨hy, hd', hlt⟩ := drop_cons NS p y d hd
   have hwp : wrap64 ((p : Int) + 1) = ((p + 1 : Nat) : Int) := by rw [w64 _ (by omega) (by omega)]; omega
   have ht : (NS.take (p + 1)).map nc = (NS.take p).map nc ++ [(⟨y.f0, y.f1, y.f2, y.f3⟩ : S34)] := by
    rw [List.take_succ_eq_append_getElem hlt, List.map_append]
    obtain ⟨_, e⟩ := List.getElem?_eq_some_iff.1 hy
    rw [e]
    rfl
   have h1 := ih (p + 1) hd' (by omega)
   rw [ht] at h1
   refine Ev.succ ?_
   simp only [worldmintlaw29_taken.l0, if_pos (show (p : Int) < (NS.length : Int) by omega), if_pos (show (0 : Int) ≤ (p : Int) by omega), if_pos (show ((NS.take p).map nc).length < 2932031007402 by rw [List.length_map, List.length_take]; omega), rdP_at NS p y hy, hwp]
   exact h1
 have h := this NS 0 rfl (Nat.zero_le _)
 simpa [worldmintlaw29_taken.f] using h
theorem best_f (n : Int) (l : List S82) (hV : validP n l = 0) : clear_Best.f n l = some ((searchP (fun _ => true) l).1, (searchP (fun _ => true) l).2, 0) := by
 unfold clear_Best.f
 rw [if_pos hV]
end Go.Proofs.Ytdamibblnjeooaa.H

/- Bound is no less than any feasible choice: plain lemmas. -/
namespace Go.Proofs.Ytdamibblnjeooaa.H
open Go.RowKit
set_option linter.unusedVariables false
set_option linter.unusedSimpArgs false
/-- What a sum loses when one place is set to nothing. -/
theorem sum_set0 (ps : List Int) (x : Nat) (hx : x < ps.length) : ps.sum = ps.getD x 0 + (ps.set x 0).sum := by
 induction ps generalizing x with
 | nil => simp at hx
 | cons p ps ih =>
  cases x with
  | zero => simp [List.getD]
  | succ x =>
   have := ih x (by simpa using hx)
   simp only [List.getD, List.getElem?_cons_succ, List.set_cons_succ, List.sum_cons] at this ⊢
   omega
theorem sum_nonneg_ : ∀ ps : List Int, (∀ p ∈ ps, 0 ≤ p) → 0 ≤ ps.sum
 | [], _ => by simp
 | p :: ps, h => by
  have h1 := h p (by simp)
  have h2 := sum_nonneg_ ps (fun x hx => h x (by simp [hx]))
  simp only [List.sum_cons]
  omega
theorem lots_le : ∀ (X : List Int) (ps : List Int), (∀ p ∈ ps, 0 ≤ p) → X.Nodup → (∀ x ∈ X, 0 ≤ x ∧ x < ps.length) → (X.map fun k => ps.getD k.toNat 0).sum ≤ ps.sum
 | [], ps, hp, _, _ => by
  simp only [List.map_nil, List.sum_nil]
  exact sum_nonneg_ ps hp
 | x :: X, ps, hp, hn, hr => by
  obtain ⟨hx0, hx1⟩ := hr x (by simp)
  obtain ⟨n1, n2⟩ := List.nodup_cons.1 hn
  have hxl : x.toNat < ps.length := by omega
  have ih := lots_le X (ps.set x.toNat 0) (fun p hpm => by
   rcases List.mem_or_eq_of_mem_set hpm with h | h
   ·exact hp p h
   ·omega) n2 (fun y hy => by have := hr y (by simp [hy]); rw [List.length_set]; exact this)
  have he : (X.map fun k => (ps.set x.toNat 0).getD k.toNat 0) = X.map fun k => ps.getD k.toNat 0 := by
   refine List.map_congr_left (fun y hy => ?_)
   have hy0 := (hr y (by simp [hy])).1
   have hne : x.toNat ≠ y.toNat := fun e => n1 (by rw [show x = y from by omega]; exact hy)
   simp only [List.getD, List.getElem?_set, if_neg hne]
  rw [he] at ih
  have := sum_set0 ps x.toNat hxl
  simp only [List.map_cons, List.sum_cons]
  omega
/-- The map without a key. -/
def dropK (m : List (Int × Int)) (k : Int) : List (Int × Int) := m.filter fun e => e.1 != k
theorem look_dropK (k k2 : Int) (h : k2 ≠ k) : ∀ m, lookI (dropK m k) k2 = lookI m k2
 | [] => rfl
 | (j, v) :: m => by
  have ih := look_dropK k k2 h m
  unfold dropK at ih ⊢
  by_cases hj : j = k
  ·have : ((j, v).1 != k) = false := by simpa using hj
   rw [List.filter_cons_of_neg (by simp [hj]), ih]
   simp only [lookI]
   rw [if_neg (by omega)]
  ·rw [List.filter_cons_of_pos (by simpa using hj)]
   simp only [lookI, ih]
theorem sum_dropK (k v : Int) : ∀ m : List (Int × Int), (∀ e ∈ m, 0 ≤ e.2) → lookI m k = some v → v + ((dropK m k).map (·.2)).sum ≤ (m.map (·.2)).sum
 | [], _, h => by simp [lookI] at h
 | (j, u) :: m, h0, h => by
  have hu := h0 (j, u) (by simp)
  have hm : ∀ e ∈ m, 0 ≤ e.2 := fun e he => h0 e (by simp [he])
  simp only [lookI] at h
  by_cases hj : j = k
  ·rw [if_pos hj] at h
   injection h with h
   subst h
   unfold dropK
   rw [List.filter_cons_of_neg (by simp [hj])]
   have : ∀ m : List (Int × Int), (∀ e ∈ m, 0 ≤ e.2) → ((m.filter fun e => e.1 != k).map (·.2)).sum ≤ (m.map (·.2)).sum := by
    intro m
    induction m with
    | nil => intro _; simp
    | cons e m ih =>
     intro h
     have h1 := h e (by simp)
     have h2 := ih (fun x hx => h x (by simp [hx]))
     by_cases c : (e.1 != k) = true
     ·rw [List.filter_cons_of_pos (p := fun e : Int × Int => e.1 != k) c]; simp only [List.map_cons, List.sum_cons]; omega
     ·rw [List.filter_cons_of_neg (p := fun e : Int × Int => e.1 != k) c]; simp only [List.map_cons, List.sum_cons]; omega
   have := this m hm
   simp only [List.map_cons, List.sum_cons]
   omega
  ·rw [if_neg hj] at h
   have ih := sum_dropK k v m hm h
   unfold dropK at ih ⊢
   rw [List.filter_cons_of_pos (by simpa using hj)]
   simp only [List.map_cons, List.sum_cons]
   omega
theorem look_addS_same (k s : Int) : ∀ m, ∃ v, lookI (addS m k s) k = some v ∧ s ≤ v
 | [] => by
  refine ⟨if 0 < s then s else 0, by simp [addS, lookI], ?_⟩
  split <;> omega
 | (j, u) :: m => by
  by_cases h : j = k
  ·refine ⟨if u < s then s else u, by simp [addS, lookI, h], ?_⟩
   split <;> omega
  ·obtain ⟨v, h1, h2⟩ := look_addS_same k s m
   exact ⟨v, by simp [addS, lookI, h, h1], h2⟩
theorem look_addS_other (k s k2 v : Int) : ∀ m, lookI m k2 = some v → ∃ v', lookI (addS m k s) k2 = some v' ∧ v ≤ v'
 | [], h => by simp [lookI] at h
 | (j, u) :: m, h => by
  simp only [lookI] at h
  by_cases h2 : j = k2
  ·rw [if_pos h2] at h
   injection h with h
   subst h
   by_cases hk : j = k
   ·refine ⟨if u < s then s else u, ?_, by split <;> omega⟩
    simp only [addS, if_pos hk, lookI]
    rw [if_pos (by omega)]
   ·refine ⟨u, ?_, Int.le_refl _⟩
    simp only [addS, if_neg hk, lookI, if_pos h2]
  ·rw [if_neg h2] at h
   by_cases hk : j = k
   ·refine ⟨v, ?_, Int.le_refl _⟩
    simp only [addS, if_pos hk, lookI]
    rw [if_neg (by omega)]
    exact h
   ·obtain ⟨v', e1, e2⟩ := look_addS_other k s k2 v m h
    refine ⟨v', ?_, e2⟩
    simp only [addS, if_neg hk, lookI, if_neg h2]
    exact e1
/-- Bids of different bidders: their surpluses together are no more than the map's values. -/
theorem surps_le (ps : List Int) : ∀ (s : List S82) (m : List (Int × Int)), (∀ e ∈ m, 0 ≤ e.2) → s.Pairwise (fun a b => a.f0 ≠ b.f0) → (∀ b ∈ s, ∃ v, lookI m b.f0 = some v ∧ surp ps b ≤ v) → (s.map (surp ps)).sum ≤ (m.map (·.2)).sum
 | [], m, h0, _, _ => by
  simp only [List.map_nil, List.sum_nil]
  exact sum_nonneg_ _ (fun x hx => by obtain ⟨e, he, rfl⟩ := List.mem_map.1 hx; exact h0 e he)
 | b :: s, m, h0, hs, hl => by
  obtain ⟨h1, h2⟩ := List.pairwise_cons.1 hs
  obtain ⟨v, hv, hle⟩ := hl b (by simp)
  have hd := sum_dropK b.f0 v m h0 hv
  have ih := surps_le ps s (dropK m b.f0) (fun e he => h0 e (List.mem_filter.1 he).1) h2 (fun c hc => by
   obtain ⟨u, hu, hle2⟩ := hl c (by simp [hc])
   exact ⟨u, by rw [look_dropK b.f0 c.f0 (fun e => h1 c hc e.symm)]; exact hu, hle2⟩)
  simp only [List.map_cons, List.sum_cons]
  omega
theorem conf_no {a b : S82} (h : conf a b = false) : a.f0 ≠ b.f0 ∧ ∀ x ∈ a.f2, x ∉ b.f2 := by
 simp only [conf, Bool.or_eq_false_iff] at h
 refine ⟨by simpa using h.1, fun x hx hb => ?_⟩
 have := List.any_eq_false.1 h.2 x hb
 simp [hx] at this
theorem lotsOk_nodup (n : Int) : ∀ (ks : List Int) (last : Int), lotsOk n last ks = true → ks.Nodup
 | [], _, _ => List.nodup_nil
 | k :: ks, last, h => by
  simp only [lotsOk] at h
  split at h
  ·simp at h
  ·refine List.nodup_cons.2 ⟨fun hm => ?_, lotsOk_nodup n ks k h⟩
   have := (lotsOk_len n ks k h).2 k hm
   omega
theorem flat_nodup : ∀ B : List S82, (∀ b ∈ B, b.f2.Nodup) → B.Pairwise (fun a b => conf a b = false) → (B.flatMap (·.f2)).Nodup
 | [], _, _ => by simp
 | b :: B, h, hp => by
  obtain ⟨h1, h2⟩ := List.pairwise_cons.1 hp
  rw [List.flatMap_cons, List.nodup_append]
  refine ⟨h b (by simp), flat_nodup B (fun x hx => h x (by simp [hx])) h2, fun x hx y hy e => ?_⟩
  subst e
  obtain ⟨c, hc, hy⟩ := List.mem_flatMap.1 hy
  exact (conf_no (h1 c hc)).2 x hx hy
theorem split_sum (ps : List Int) : ∀ B : List S82, (B.map (·.f1)).sum = (B.map (surp ps)).sum + ((B.flatMap (·.f2)).map fun k => ps.getD k.toNat 0).sum
 | [] => by simp
 | b :: B => by
  have ih := split_sum ps B
  rw [List.flatMap_cons, List.map_append, List.sum_append]
  simp only [List.map_cons, List.sum_cons]
  have : surp ps b = b.f1 - (b.f2.map fun k => ps.getD k.toNat 0).sum := rfl
  omega
end Go.Proofs.Ytdamibblnjeooaa.H

/- Soundness of the certificates. Plain. -/
namespace Go.Proofs.Ytdamibblnjeooaa.H
open Go.RowKit Go.Proofs.YtdamibblnjeooaaW.PrintWords Go.Proofs.YtdamibblnjeooaaW.PrintLast
set_option linter.unusedVariables false
set_option linter.unusedSimpArgs false
theorem addS_nn (k s : Int) : ∀ M : List (Int × Int), (∀ e ∈ M, 0 ≤ e.2) → ∀ e ∈ addS M k s, 0 ≤ e.2
 | [], _, e, he => by
  simp only [addS, List.mem_singleton] at he
  subst he
  show 0 ≤ if 0 < s then s else 0
  split <;> omega
 | (j, v) :: M, h, e, he => by
  have hv : 0 ≤ v := h (j, v) (by simp)
  unfold addS at he
  split at he
  ·rcases List.mem_cons.1 he with he | he
   ·subst he
    show 0 ≤ if v < s then s else v
    split <;> omega
   ·exact h e (by simp [he])
  ·rcases List.mem_cons.1 he with he | he
   ·subst he; exact hv
   ·exact addS_nn k s M (fun x hx => h x (by simp [hx])) e he
theorem spS_nn (l : List S82) (dec ps : List Int) : ∀ m, ∀ e ∈ spS l dec ps m, 0 ≤ e.2
 | 0, e, he => by simp [spS] at he
 | m + 1, e, he => by
  rw [spS_succ] at he
  split at he
  ·exact addS_nn _ _ _ (spS_nn l dec ps m) e he
  ·exact spS_nn l dec ps m e he
theorem spS_look (l : List S82) (dec ps : List Int) (i : Nat) (hp : possP l dec i = true) : ∀ m, i < m → ∃ v, lookI (spS l dec ps m) (l.getD i z82).f0 = some v ∧ surp ps (l.getD i z82) ≤ v
 | 0, h => by omega
 | m + 1, h => by
  rw [spS_succ]
  by_cases e : i = m
  ·subst e
   rw [if_pos hp]
   exact look_addS_same _ _ _
  ·obtain ⟨v, h1, h2⟩ := spS_look l dec ps i hp m (by omega)
   split
   ·obtain ⟨v', h3, h4⟩ := look_addS_other (l.getD m z82).f0 (surp ps (l.getD m z82)) _ v _ h1
    exact ⟨v', h3, by omega⟩
   ·exact ⟨v, h1, h2⟩
/-- A choice agrees with decisions. -/
def Agree (l : List S82) (dec : List Int) (p : Nat → Bool) : Prop := dec.length = l.length ∧ ∀ b, b < l.length → (inB dec b = true → p b = true) ∧ (p b = true → inB dec b = true ∨ dec.getD b 0 = 0)
def rest (dec : List Int) (p : Nat → Bool) (m : Nat) : List Nat := (List.range m).filter fun b => p b && !inB dec b
theorem rest_succ (dec : List Int) (p : Nat → Bool) (m : Nat) : rest dec p (m + 1) = rest dec p m ++ (if (p m && !inB dec m) = true then [m] else []) := by
 unfold rest
 rw [List.range_succ, List.filter_append]
 congr 1
 simp only [List.filter_cons, List.filter_nil]
theorem split_val (l : List S82) (dec : List Int) (p : Nat → Bool) : ∀ m, (∀ b, b < m → inB dec b = true → p b = true) → ((List.range m).map fun k => if p k then prc l k else 0).sum = inS l dec m + (((rest dec p m).map fun k => l.getD k z82).map (·.f1)).sum
 | 0, _ => by simp [inS, rest]
 | m + 1, h => by
  have ih := split_val l dec p m (fun b hb => h b (by omega))
  rw [List.range_succ, List.map_append, List.sum_append, ih, inS_succ, rest_succ, List.map_append, List.map_append, List.sum_append]
  have hm := h m (by omega)
  simp only [List.map_cons, List.map_nil, List.sum_cons, List.sum_nil]
  by_cases h1 : dec.getD m 0 = 1
  ·have hi : inB dec m = true := decide_eq_true h1
   rw [if_pos h1, hm hi, hi]
   simp [prc]
   omega
  ·have hi : inB dec m = false := decide_eq_false h1
   rw [if_neg h1, hi]
   cases hp : p m
   ·simp
   ·simp [prc]
    omega
theorem tkS_mem (l : List S82) (dec : List Int) (x : Int) : ∀ m, x ∈ tkS l dec m → ∃ i, i < m ∧ inB dec i = true ∧ x ∈ (l.getD i z82).f2
 | 0, h => by simp [tkS] at h
 | m + 1, h => by
  rw [tkS_succ] at h
  split at h
  ·rename_i h1
   have hadd : ∀ (X ks : List Int), x ∈ X.foldl addK ks → x ∈ ks ∨ x ∈ X := by
    intro X
    induction X with
    | nil => intro ks h; exact .inl h
    | cons y X ih =>
     intro ks h
     rcases ih _ h with h | h
     ·unfold addK at h
      split at h
      ·exact .inl h
      ·rcases List.mem_append.1 h with h | h
       ·exact .inl h
       ·rw [List.mem_singleton] at h; exact .inr (by simp [h])
     ·exact .inr (by simp [h])
   rcases hadd _ _ h with h | h
   ·obtain ⟨i, a, b, c⟩ := tkS_mem l dec x m h
    exact ⟨i, by omega, b, c⟩
   ·exact ⟨m, by omega, decide_eq_true h1, h⟩
  ·obtain ⟨i, a, b, c⟩ := tkS_mem l dec x m h
   exact ⟨i, by omega, b, c⟩
theorem rest_pair (l : List S82) (dec : List Int) (p : Nat → Bool) (hf : FeasU (fun _ => true) l p) : ((rest dec p l.length).map fun k => l.getD k z82).Pairwise (fun a b => conf a b = false) := by
 rw [List.pairwise_map]
 unfold rest
 refine (List.Pairwise.filter _ List.nodup_range).imp_of_mem (fun {a b} ha hb hne => ?_)
 obtain ⟨a1, a2⟩ := List.mem_filter.1 ha
 obtain ⟨b1, b2⟩ := List.mem_filter.1 hb
 simp only [Bool.and_eq_true] at a2 b2
 exact hf.2 a b (List.mem_range.1 a1) (List.mem_range.1 b1) hne a2.1 b2.1
theorem leaf_sound (n : Nat) (l : List S82) (dec ps : List Int) (p : Nat → Bool) (hl : ∀ b ∈ l, b.f2.Nodup ∧ ∀ x ∈ b.f2, 0 ≤ x ∧ x < (n : Int)) (hn : ps.length = n) (hps : ∀ x ∈ ps, 0 ≤ x ∧ x ≤ 1099511627776) (hf : FeasU (fun _ => true) l p) (ha : Agree l dec p) : valB l p ≤ boundD l dec ps := by
 obtain ⟨hdl, hag⟩ := ha
 have hv : valB l p = inS l dec l.length + (((rest dec p l.length).map fun k => l.getD k z82).map (·.f1)).sum := by
  unfold valB
  rw [sumF_range', ← List.range_eq_range']
  exact split_val l dec p l.length (fun b hb => (hag b hb).1)
 have hB : ∀ k ∈ rest dec p l.length, k < l.length ∧ p k = true ∧ inB dec k = false := fun k hk => by
  unfold rest at hk
  obtain ⟨h1, h2⟩ := List.mem_filter.1 hk
  simp only [Bool.and_eq_true, Bool.not_eq_true'] at h2
  exact ⟨List.mem_range.1 h1, h2.1, h2.2⟩
 have hposs : ∀ k ∈ rest dec p l.length, possP l dec k = true := fun k hk => by
  obtain ⟨h1, h2, h3⟩ := hB k hk
  unfold possP
  simp only [Bool.and_eq_true, decide_eq_true_eq, Bool.not_eq_true']
  refine ⟨?_, ?_⟩
  ·rcases (hag k h1).2 h2 with h | h
   ·rw [h3] at h; cases h
   ·exact h
  ·rw [List.any_eq_false]
   intro j hj ho
   unfold oddsP at ho
   simp only [Bool.and_eq_true] at ho
   have hj := List.mem_range.1 hj
   have hij : inB dec j = true := ho.1
   have hne : j ≠ k := fun e => by subst e; rw [h3] at hij; cases hij
   have := hf.2 j k (by omega) h1 hne ((hag j (by omega)).1 hij) h2
   unfold cj at this
   rw [this] at ho
   cases ho.2
 have hpw := rest_pair l dec p hf
 have hmem : ∀ b ∈ ((rest dec p l.length).map fun k => l.getD k z82), ∃ k, k ∈ rest dec p l.length ∧ l.getD k z82 = b := fun b hb => List.mem_map.1 hb
 have hsur := surps_le ps ((rest dec p l.length).map fun k => l.getD k z82) (spS l dec ps l.length) (spS_nn l dec ps l.length) (hpw.imp (fun h => (conf_no h).1)) (fun b hb => by
  obtain ⟨k, hk, rfl⟩ := hmem b hb
  exact spS_look l dec ps k (hposs k hk) l.length (hB k hk).1)
 have hin : ∀ b ∈ ((rest dec p l.length).map fun k => l.getD k z82), b ∈ l := fun b hb => by
  obtain ⟨k, hk, rfl⟩ := hmem b hb
  have := (hB k hk).1
  simp [List.getD, this]
 have hnt : ∀ x ∈ (((rest dec p l.length).map fun k => l.getD k z82).flatMap (·.f2)), x ∉ tkS l dec l.length := fun x hx ht => by
  obtain ⟨b, hb, hx⟩ := List.mem_flatMap.1 hx
  obtain ⟨k, hk, rfl⟩ := hmem b hb
  obtain ⟨i, h1, h2, h3⟩ := tkS_mem l dec x l.length ht
  have hne : i ≠ k := fun e => by subst e; rw [(hB i hk).2.2] at h2; cases h2
  have hc := hf.2 i k h1 (hB k hk).1 hne ((hag i h1).1 h2) (hB k hk).2.1
  exact (conf_no (show conf (l.getD i z82) (l.getD k z82) = false from hc)).2 x h3 hx
 have hlots := lots_le (((rest dec p l.length).map fun k => l.getD k z82).flatMap (·.f2)) ((List.range ps.length).map fun (k : Nat) => if (k : Int) ∈ tkS l dec l.length then 0 else ps.getD k 0) (fun q hq => by
  obtain ⟨k, hk, rfl⟩ := List.mem_map.1 hq
  have hk := List.mem_range.1 hk
  have := (hps (ps.getD k 0) (by simp [List.getD, hk])).1
  split <;> omega) (flat_nodup _ (fun b hb => (hl b (hin b hb)).1) hpw) (fun x hx => by
  obtain ⟨b, hb, hx⟩ := List.mem_flatMap.1 hx
  have := (hl b (hin b hb)).2 x hx
  rw [List.length_map, List.length_range]
  omega)
 have heq : ((((rest dec p l.length).map fun k => l.getD k z82).flatMap (·.f2)).map fun k => ((List.range ps.length).map fun (k : Nat) => if (k : Int) ∈ tkS l dec l.length then 0 else ps.getD k 0).getD k.toNat 0) = (((rest dec p l.length).map fun k => l.getD k z82).flatMap (·.f2)).map fun k => ps.getD k.toNat 0 := by
  refine List.map_congr_left (fun x hx => ?_)
  have hnx := hnt x hx
  obtain ⟨b, hb, hx⟩ := List.mem_flatMap.1 hx
  have h0 := (hl b (hin b hb)).2 x hx
  have hlt : x.toNat < ps.length := by omega
  have : ((List.range ps.length).map fun (k : Nat) => if (k : Int) ∈ tkS l dec l.length then 0 else ps.getD k 0).getD x.toNat 0 = if ((x.toNat : Nat) : Int) ∈ tkS l dec l.length then 0 else ps.getD x.toNat 0 := by
   simp [List.getD, hlt]
  rw [this, if_neg (by rw [Int.toNat_of_nonneg h0.1]; exact hnx)]
 rw [heq] at hlots
 rw [hv, split_sum ps]
 unfold boundD
 rw [hdl]
 have hfr : frS (tkS l dec l.length) ps ps.length = (((List.range ps.length).map fun (k : Nat) => if (k : Int) ∈ tkS l dec l.length then 0 else ps.getD k 0)).sum := rfl
 omega
theorem agree_set {l : List S82} {dec : List Int} {p : Nat → Bool} (h : Agree l dec p) (b : Nat) (hb : b < l.length) (h0 : dec.getD b 0 = 0) : (p b = true → Agree l (dec.set b 1) p) ∧ (p b = false → Agree l (dec.set b 2) p) := by
 obtain ⟨hdl, hag⟩ := h
 constructor
 ·intro hp
  refine ⟨by rw [List.length_set]; exact hdl, fun k hk => ?_⟩
  rw [inB_set1 dec b k (by omega)]
  by_cases e : k = b
  ·subst e
   exact ⟨fun _ => hp, fun _ => .inl (by simp)⟩
  ·rw [getD_setne dec b k 1 (fun x => e x.symm), show decide (k = b) = false from decide_eq_false e, Bool.false_or]
   exact hag k hk
 ·intro hp
  refine ⟨by rw [List.length_set]; exact hdl, fun k hk => ?_⟩
  rw [inB_set2 dec b k (by omega) h0]
  by_cases e : k = b
  ·subst e
   refine ⟨(hag k hk).1, fun h => ?_⟩
   rw [hp] at h; cases h
  ·rw [getD_setne dec b k 2 (fun x => e x.symm)]
   exact hag k hk
theorem right_sound (n : Nat) (l : List S82) (v : Int) (ns : List S55) (hl : ∀ b ∈ l, b.f2.Nodup ∧ ∀ x ∈ b.f2, 0 ≤ x ∧ x < (n : Int)) (p : Nat → Bool) (hf : FeasU (fun _ => true) l p) : ∀ f i dec, rightP (n : Int) l v ns f i dec = true → Agree l dec p → valB l p ≤ v
 | 0, _, _, h, _ => by simp [rightP] at h
 | f + 1, i, dec, h, ha => by
  unfold rightP at h
  generalize ns.getD i z55 = x at h
  by_cases c0 : x.f0 = -1
  ·rw [if_pos c0] at h
   unfold leafP at h
   simp only [Bool.and_eq_true, decide_eq_true_eq, Bool.not_eq_true'] at h
   obtain ⟨⟨⟨⟨_, _⟩, h3⟩, h4⟩, h5⟩ := h
   have := leaf_sound n l dec x.f3 p hl (by omega) (fun y hy => by
    have := List.any_eq_false.1 h4 y hy
    unfold badPrice at this
    simp only [Bool.or_eq_true, decide_eq_true_eq, not_or] at this
    omega) hf ha
   omega
  ·rw [if_neg c0] at h
   split at h
   ·cases h
   ·rename_i hn
    have hb1 : ¬ x.f0 < 0 := fun e => hn (.inl e)
    have hb2 : ¬ (l.length : Int) ≤ x.f0 := fun e => hn (.inr (.inl e))
    have hpo : possP l dec x.f0.toNat = true := by
     cases hh : possP l dec x.f0.toNat
     ·exact absurd (.inr (.inr (.inl hh))) hn
     ·rfl
    have h0 := poss_zero hpo
    simp only [Bool.and_eq_true] at h
    obtain ⟨s1, s2⟩ := h
    obtain ⟨a1, a2⟩ := agree_set ha x.f0.toNat (by omega) h0
    cases hp : p x.f0.toNat
    ·exact right_sound n l v ns hl p hf f _ _ (stepR_true s2).2.2 (a2 hp)
    ·exact right_sound n l v ns hl p hf f _ _ (stepR_true s1).2.2 (a1 hp)
/-- What Check accepts bounds every feasible choice. -/
theorem check_sound (n : Nat) (l : List S82) (win : List Int) (v : Int) (ns : List S55) (hl : ∀ b ∈ l, b.f2.Nodup ∧ ∀ x ∈ b.f2, 0 ≤ x ∧ x < (n : Int)) (h : checkP (n : Int) l win v ns = 0) (c : List Int) (hc : feasP l [] c = true) : valP l c ≤ v := by
 unfold checkP at h
 split at h
 ·rename_i h1; exact absurd h h1
 ·split at h
  ·cases h
  ·split at h
   ·cases h
   ·split at h
    ·cases h
    ·rename_i h4
     split at h
     ·rename_i h5
      have h0 : 0 < ns.length := Nat.pos_of_ne_zero (fun e => h4 (.inl e))
      unfold rootP at h5
      obtain ⟨_, _, hr⟩ := (root_tree (n := (n : Int)) (l := l) (v := v) (nodes := ns) ns.length (List.replicate l.length 0) h0).1 h5
      obtain ⟨hcr, hcp, _⟩ := feasP_facts l c [] hc
      obtain ⟨p, hp⟩ : ∃ p : Nat → Bool, p = fun (k : Nat) => decide ((k : Int) ∈ c) := ⟨_, rfl⟩
      have hcs : c = sel p l.length 0 := by rw [hp]; exact sel_of l.length c hcr hcp
      have hok : okS (fun _ => true) l [] c = true := by
       rw [← feas_ok l c [] hcr hcp (by simp)]
       exact hc
      rw [hcs] at hok
      have hf := (ok_sel (fun _ => true) l p).1 hok
      have hb := right_sound n l v ns hl p hf ns.length 0 _ hr ⟨List.length_replicate .., fun b hb => ?_⟩
      ·rw [hcs, valB_sel]
       exact hb
      ·have hz : (List.replicate l.length (0 : Int)).getD b 0 = 0 := by simp [List.getD, hb]
       refine ⟨fun h => ?_, fun _ => .inr hz⟩
       unfold inB at h
       rw [hz] at h
       simp at h
     ·cases h
theorem wf_of (n : Int) (h0 : -9223372036854775808 ≤ n) (h1 : n ≤ 9223372036854775807) : (Lit.int .i64 n).wf = true := by
 simpa [Lit.wf, IntKind.min, IntKind.max, IntKind.signed, IntKind.bits] using And.intro h0 h1
theorem tdiv_wf (n m : Int) (hm : 0 < m) (h : (Lit.int .i64 n).wf = true) : (Lit.int .i64 (IntKind.i64.wrap (Int.tdiv n m))).wf = true := by
 obtain ⟨h0, h1⟩ := wf_bounds n h
 have hb : -9223372036854775808 ≤ Int.tdiv n m ∧ Int.tdiv n m ≤ 9223372036854775807 := by
  by_cases hn : 0 ≤ n
  ·have := Int.tdiv_nonneg hn (Int.le_of_lt hm)
   have := Int.tdiv_le_self m hn
   omega
  ·obtain ⟨p, rfl⟩ : ∃ p : Int, n = -p := ⟨-n, by omega⟩
   rw [Int.neg_tdiv]
   have := Int.tdiv_nonneg (a := p) (b := m) (by omega) (Int.le_of_lt hm)
   have := Int.tdiv_le_self (a := p) m (by omega)
   omega
 have hw : IntKind.i64.wrap (Int.tdiv n m) = Int.tdiv n m := IntWalk.i64_in _ (by omega)
 rw [hw]
 exact wf_of _ hb.1 hb.2
theorem growP_f3 (l : List S82) (n : Nat) : ∀ f ns ins outs, (∀ x ∈ ns, x.f3.length ≤ n) → ∀ x ∈ growP l n f ns ins outs, x.f3.length ≤ n
 | 0, ns, _, _, h => by simpa [growP] using h
 | f + 1, ns, ins, outs, h => by
  unfold growP
  split
  ·intro x hx
   rcases List.mem_append.1 hx with hx | hx
   ·exact h x hx
   ·rw [List.mem_singleton] at hx
    subst hx
    simp
  ·rename_i i _
   have h1 := growP_f3 l n f (ns ++ [⟨(i : Int), (ns.length : Int) + 1, 0, []⟩]) (ins ++ [(i : Int)]) outs (fun x hx => by
    rcases List.mem_append.1 hx with hx | hx
    ·exact h x hx
    ·rw [List.mem_singleton] at hx
     subst hx
     exact Nat.zero_le _)
   refine growP_f3 l n f _ ins (outs ++ [(i : Int)]) (fun x hx => ?_)
   rcases List.mem_or_eq_of_mem_set hx with hx | hx
   ·exact h1 x hx
   ·subst hx
    exact Nat.zero_le _
theorem spoilt9_ok (v : Int) (NS : List S34) (a1 a2 a3 : Int) (h1 : (Lit.int .i64 a1).wf = true) (h2 : (Lit.int .i64 a2).wf = true) (hl : NS.length ≤ 5000) (B : Nat) (hB : B ≤ 900) (hf : ∀ x ∈ NS, x.f3.length ≤ B) :
  ∃ o, worldmintref29_Spoilt.f v NS a1 a2 a3 = some o ∧ o.2.length ≤ NS.length + 1 ∧ ∀ x ∈ o.2, x.f3.length ≤ B + 1 := by
 unfold worldmintref29_Spoilt.f
 have hok : spo9Ok NS = true := by
  unfold spo9Ok
  simp only [Bool.and_eq_true, decide_eq_true_eq, List.all_eq_true]
  exact ⟨by omega, fun b hb' => by have := hf b hb'; omega⟩
 rw [if_pos hok]
 obtain ⟨t, ht, ht0, ht1⟩ := around_ok a1 (NS.length + 1 : Int) h1 (by omega)
 simp only [ht, Option.bind_some]
 rw [if_pos ⟨ht0, by omega⟩]
 by_cases he : t = (NS.length : Int)
 ·rw [if_pos he]
  obtain ⟨u, hu, hu0, hu1⟩ := around_ok a2 2 h2 (by omega)
  simp only [hu, Option.bind_some]
  refine ⟨_, rfl, by simp, fun x hx => ?_⟩
  rcases List.mem_append.1 hx with hx | hx
  ·have := hf x hx; omega
  ·rw [List.mem_singleton] at hx
   subst hx
   exact Nat.zero_le _
 ·rw [if_neg he]
  obtain ⟨u, hu, hu0, hu1⟩ := around_ok a2 6 h2 (by omega)
  simp only [hu, Option.bind_some]
  rw [if_pos ⟨hu0, hu1⟩]
  have hm : NS.getD t.toNat z34 ∈ NS := by
   have : t.toNat < NS.length := by omega
   simp [List.getD, this]
  have hlen := hf _ hm
  generalize NS.getD t.toNat z34 = x at *
  have hset : ∀ y : S34, y.f3.length ≤ B + 1 → ∃ o, (some (v, NS.set t.toNat y) : Option (Int × List S34)) = some o ∧ o.2.length ≤ NS.length + 1 ∧ ∀ x ∈ o.2, x.f3.length ≤ B + 1 := fun y hy =>
   ⟨_, rfl, by simp, fun b hb' => by
    rcases List.mem_or_eq_of_mem_set hb' with h | h
    ·have := hf b h; omega
    ·subst h; exact hy⟩
  by_cases hp : 4 ≤ u ∧ 0 < x.f3.length
  ·rw [if_pos hp]
   obtain ⟨i, hi, hi0, hi1⟩ := around_ok (IntKind.i64.wrap (Int.tdiv a2 6)) x.f3.length (tdiv_wf a2 6 (by omega) h2) (by omega)
   simp only [hi, Option.bind_some]
   rw [if_pos ⟨hi0, hi1⟩]
   exact hset _ (by show (x.f3.set i.toNat a3).length ≤ B + 1; rw [List.length_set]; omega)
  ·rw [if_neg hp]
   refine hset _ ?_
   unfold spoN
   split
   ·show x.f3.length ≤ B + 1; omega
   ·split
    ·show x.f3.length ≤ B + 1; omega
    ·split
     ·show x.f3.length ≤ B + 1; omega
     ·split
      ·show (x.f3 ++ [a3]).length ≤ B + 1
       rw [List.length_append, List.length_singleton]; omega
      ·omega
theorem rlots_ok (n : Int) (m : List Int) (hm : ∀ x ∈ m, (Lit.int .i64 x).wf = true) (hn0 : 0 ≤ n) (hn8 : n ≤ 8) : ∃ ps, Ev (fun k => worldmintref28_Lots.f k n m) ps ∧ (ps.length : Int) = n ∧ ∀ p ∈ ps, 0 ≤ p ∧ p < 12 := by
 have : ∀ (d : Nat) (acc : List Int), (n - acc.length).toNat = d → (acc.length : Int) ≤ n → (∀ p ∈ acc, 0 ≤ p ∧ p < 12) → ∃ ps, Ev (fun k => worldmintref28_Lots.l0 k n m acc (acc.length : Int)) ps ∧ (ps.length : Int) = n ∧ ∀ p ∈ ps, 0 ≤ p ∧ p < 12 := by
  intro d
  induction d with
  | zero =>
   intro acc hd hl ha
   refine ⟨acc, Ev.succ ?_, by omega, ha⟩
   simp only [worldmintref28_Lots.l0, if_neg (show ¬ (acc.length : Int) < n by omega)]
   exact Ev.some_
  | succ d ih =>
   intro acc hd hl ha
   obtain ⟨r, hr, hr0, hr1⟩ := pick_ok m (acc.length : Int) 12 hm (by omega)
   have hw : wrap64 ((acc.length : Int) + 1) = ((acc ++ [r]).length : Int) := by rw [w64 _ (by omega) (by omega)]; simp
   obtain ⟨ps, h1, h2⟩ := ih (acc ++ [r]) (by simp; omega) (by simp; omega) (fun p hp => by
    rcases List.mem_append.1 hp with h | h
    ·exact ha p h
    ·rw [List.mem_singleton] at h; subst h; exact ⟨hr0, hr1⟩)
   refine ⟨ps, Ev.succ ?_, h2⟩
   simp only [worldmintref28_Lots.l0, if_pos (show (acc.length : Int) < n by omega), hr, Option.bind_some, if_pos (show acc.length < 17592186044416 by omega), hw]
   exact h1
 simpa [worldmintref28_Lots.f] using this _ [] rfl (by simpa using hn0) (by simp)
end Go.Proofs.Ytdamibblnjeooaa.H
