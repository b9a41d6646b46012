/- Texts of this claim, one behind the other. -/
import Derived.Test.YtdamibblnjeooaaMProofMakese
import Derived.Test.YtdamibblnjeooaaMProofMakesb
import Derived.Test.YtdamibblnjeooaaMProofMakesd
import Derived.Test.YtdamibblnjeooaaMProofMakesc
import Derived.Test.YtdamibblnjeooaaMProofMakesf
import Derived.Test.YtdamibblnjeooaaMProofMakesg
import Derived.BigRegion

/- What a printed function computes with rounds enough: its laws; the generators of the reference. -/
namespace Go.Proofs.Ytdamibblnjeooaa.H
open Go.RowKit Go.Proofs.YtdamibblnjeooaaW.PrintWords Go.Proofs.YtdamibblnjeooaaW.PrintLast
set_option linter.unusedVariables false
set_option linter.unusedSimpArgs false
/-- With rounds enough, f tells a. -/
def Ev {α : Type} (f : Nat → Option α) (a : α) : Prop := ∃ K, ∀ k, K ≤ k → f k = some a
section
variable {α β : Type} {f : Nat → Option α} {a : α}
theorem Ev.succ (h : Ev (fun k => f (k + 1)) a) : Ev f a := by
 obtain ⟨K, h⟩ := h
 refine ⟨K + 1, fun k hk => ?_⟩
 obtain ⟨j, rfl⟩ : ∃ j, k = j + 1 := ⟨k - 1, by omega⟩
 exact h j (by omega)
theorem Ev.bind {g : Nat → α → Option β} {b : β} (hf : Ev f a) (hg : Ev (fun k => g k a) b) : Ev (fun k => (f k).bind (g k)) b := by
 obtain ⟨K, h⟩ := hf
 obtain ⟨K2, h2⟩ := hg
 exact ⟨max K K2, fun k hk => by
  show (f k).bind (g k) = some b
  rw [h k (by omega)]
  exact h2 k (by omega)⟩
theorem Ev.some_ : Ev (fun _ => some a) a := ⟨0, fun _ _ => rfl⟩
theorem Ev.ex (h : Ev f a) : ∃ k, f k = some a := by
 obtain ⟨K, h⟩ := h
 exact ⟨K, h K (Nat.le_refl _)⟩
end
theorem wf_bounds (n : Int) (h : (Lit.int .i64 n).wf = true) : -9223372036854775808 ≤ n ∧ n ≤ 9223372036854775807 := by
 simpa [Lit.wf, IntKind.min, IntKind.max, IntKind.signed, IntKind.bits] using h
theorem w64 (x : Int) (h0 : -9223372036854775808 ≤ x) (h1 : x ≤ 9223372036854775807) : wrap64 x = x := by
 unfold wrap64
 omega
theorem around_ok (n most : Int) (hn : (Lit.int .i64 n).wf = true) (hm : 0 < most) : ∃ r, worldmintref01_Around.f n most = some r ∧ 0 ≤ r ∧ r < most := by
 have hb := wf_bounds n hn
 unfold worldmintref01_Around.f
 by_cases h : n < 0
 ·rw [if_pos h, if_neg (by omega), w64 (n + 1) (by omega) (by omega), w64 (-(n + 1)) (by omega) (by omega)]
  exact ⟨_, rfl, Int.tmod_nonneg _ (by omega), Int.tmod_lt_of_pos _ hm⟩
 ·rw [if_neg h, if_neg (by omega)]
  exact ⟨_, rfl, Int.tmod_nonneg _ (by omega), Int.tmod_lt_of_pos _ hm⟩
theorem lots_ok (n : Int) (hn : (Lit.int .i64 n).wf = true) : ∃ r, worldmintref27_Lots.f n = some r ∧ 1 ≤ r ∧ r ≤ 8 := by
 obtain ⟨r, h, h0, h1⟩ := around_ok n 8 hn (by omega)
 unfold worldmintref27_Lots.f
 rw [h, Option.bind_some, w64 _ (by omega) (by omega)]
 exact ⟨_, rfl, by omega, by omega⟩
theorem pick_ok (l : List Int) (i most : Int) (hl : ∀ x ∈ l, (Lit.int .i64 x).wf = true) (hm : 0 < most) : ∃ r, worldmintref01_Pick.f l i most = some r ∧ 0 ≤ r ∧ r < most := by
 unfold worldmintref01_Pick.f
 by_cases h : i < 0
 ·rw [if_pos h]; exact ⟨0, rfl, by omega, hm⟩
 ·rw [if_neg h]
  by_cases h2 : i ≥ (l.length : Int)
  ·rw [if_pos h2]; exact ⟨0, rfl, by omega, hm⟩
  ·rw [if_neg h2, if_pos (by omega), if_pos (by omega)]
   have hm2 : rd l i ∈ l := by
    have : i.toNat < l.length := by omega
    simp [rd, List.getD, this]
   obtain ⟨r, h3, h4, h5⟩ := around_ok (rd l i) most (hl _ hm2) hm
   exact ⟨r, by rw [h3]; rfl, h4, h5⟩
/-- A bid as the reference draws it. -/
def GoodBid (n : Int) (b : S85) : Prop := 1 ≤ b.f0 ∧ b.f0 ≤ 6 ∧ 1 ≤ b.f1 ∧ b.f1 ≤ 450 ∧ b.f2.length ≠ 0 ∧ lotsOk n (-1) b.f2 = true ∧ b.f2.length ≤ 8
theorem lotsOk_snoc (n j : Int) (hj : j < n) : ∀ (ks : List Int) (last : Int), lotsOk n last ks = true → (∀ k ∈ ks, k < j) → last < j → lotsOk n last (ks ++ [j]) = true
 | [], last, _, _, h => by
  simp only [List.nil_append, lotsOk]
  simp [hj, h]
 | k :: ks, last, h, hk, _ => by
  simp only [List.cons_append, lotsOk] at h ⊢
  split at h
  ·simp at h
  ·rename_i hc
   rw [if_neg hc]
   exact lotsOk_snoc n j hj ks k h (fun x hx => hk x (by simp [hx])) (hk k (by simp))
set_option maxHeartbeats 1000000 in
theorem bids_l1 (n : Int) (l : List Int) (most : Int) (x7 : List S85) (x8 f0 f1 : Int) (hn1 : 1 ≤ n) (hn8 : n ≤ 8) (hx7 : x7.length < 3518437208883) (L : List S85)
  (hnext : ∀ ks : List Int, ks.length ≠ 0 → lotsOk n (-1) ks = true → ks.length ≤ 8 → ∃ L, Ev (fun k => worldmintref27_Bids.l0 k n l most (x7 ++ [⟨f0, f1, ks⟩]) (wrap64 (x8 + 1))) L ∧ (L.length : Int) ≤ most ∧ ∀ b ∈ L, GoodBid n b) :
  ∀ (d : Nat) (j : Int) (bs : Int) (ks : List Int), (n - j).toNat = d → 0 ≤ j → j ≤ n → lotsOk n (-1) ks = true → (∀ k ∈ ks, k < j) → (ks.length : Int) ≤ j → (j = n → ks.length ≠ 0) →
  ∃ L, Ev (fun k => worldmintref27_Bids.l1 k n l most x7 x8 bs j f0 f1 ks) L ∧ (L.length : Int) ≤ most ∧ ∀ b ∈ L, GoodBid n b
 | 0, j, bs, ks, hd, h0, hjn, hk, hkj, hkl, hne => by
  obtain ⟨L, h1, h2⟩ := hnext ks (hne (by omega)) hk (by omega)
  refine ⟨L, Ev.succ ?_, h2⟩
  simp only [worldmintref27_Bids.l1]
  simp only [if_neg (show ¬ j < n by omega), if_pos hx7]
  exact h1
 | d + 1, j, bs, ks, hd, h0, hjn, hk, hkj, hkl, hne => by
  have hw : wrap64 (j + 1) = j + 1 := w64 _ (by omega) (by omega)
  have hw2 : wrap64 (n - 1) = n - 1 := w64 _ (by omega) (by omega)
  have happ := fun bs' => bids_l1 n l most x7 x8 f0 f1 hn1 hn8 hx7 L hnext d (j + 1) bs' (ks ++ [j]) (by omega) (by omega) (by omega) (lotsOk_snoc n j (by omega) ks (-1) hk hkj (by omega)) (fun k hk' => by
   rcases List.mem_append.1 hk' with h | h
   ·have := hkj k h; omega
   ·simp at h; omega) (by simp; omega) (fun _ => by simp)
  have hnot := fun bs' (hh : j + 1 = n → ks.length ≠ 0) => bids_l1 n l most x7 x8 f0 f1 hn1 hn8 hx7 L hnext d (j + 1) bs' ks (by omega) (by omega) (by omega) hk (fun k hk' => by have := hkj k hk'; omega) (by omega) hh
  by_cases c1 : Int.tmod bs 2 = 1
  ·obtain ⟨L, h1, h2⟩ := happ (wrap64 (Int.tdiv bs 2))
   refine ⟨L, Ev.succ ?_, h2⟩
   simp only [worldmintref27_Bids.l1]
   simp only [if_pos (show j < n by omega), if_pos c1, if_pos (show ks.length < 17592186044416 by omega), hw]
   exact h1
  ·by_cases c2 : j = n - 1
   ·by_cases c3 : (ks.length : Int) = 0
    ·obtain ⟨L, h1, h2⟩ := happ (wrap64 (Int.tdiv bs 2))
     refine ⟨L, Ev.succ ?_, h2⟩
     simp only [worldmintref27_Bids.l1]
     simp only [if_pos (show j < n by omega), if_neg c1, hw2, if_pos c2, if_pos c3, if_pos (show ks.length < 17592186044416 by omega), hw]
     exact h1
    ·obtain ⟨L, h1, h2⟩ := hnot (wrap64 (Int.tdiv bs 2)) (fun _ => by omega)
     refine ⟨L, Ev.succ ?_, h2⟩
     simp only [worldmintref27_Bids.l1]
     simp only [if_pos (show j < n by omega), if_neg c1, hw2, if_pos c2, if_neg c3, hw]
     exact h1
   ·obtain ⟨L, h1, h2⟩ := hnot (wrap64 (Int.tdiv bs 2)) (fun _ => by omega)
    refine ⟨L, Ev.succ ?_, h2⟩
    simp only [worldmintref27_Bids.l1]
    simp only [if_pos (show j < n by omega), if_neg c1, hw2, if_neg c2, hw]
    exact h1
set_option maxHeartbeats 1000000 in
theorem bids_l0 (n : Int) (l : List Int) (hl : ∀ x ∈ l, (Lit.int .i64 x).wf = true) (most : Int) (hn1 : 1 ≤ n) (hn8 : n ≤ 8) (hm0 : 0 ≤ most) (hm1 : most ≤ 1000) :
  ∀ (d : Nat) (x7 : List S85), (most - x7.length).toNat = d → (x7.length : Int) ≤ most → (∀ b ∈ x7, GoodBid n b) →
  ∃ L, Ev (fun k => worldmintref27_Bids.l0 k n l most x7 x7.length) L ∧ (L.length : Int) ≤ most ∧ ∀ b ∈ L, GoodBid n b := by
 intro d
 induction d with
 | zero =>
  intro x7 hd hx hb
  obtain ⟨r, hr, hr0, hr1⟩ := pick_ok l 0 (most + 1) hl (by omega)
  refine ⟨x7, Ev.succ ?_, hx, hb⟩
  simp only [worldmintref27_Bids.l0, w64 (most + 1) (by omega) (by omega), hr, Option.bind_some]
  simp only [if_neg (show ¬ (x7.length : Int) < r by omega)]
  exact Ev.some_
 | succ d ih =>
  intro x7 hd hx hb
  obtain ⟨r, hr, hr0, hr1⟩ := pick_ok l 0 (most + 1) hl (by omega)
  by_cases hlt : (x7.length : Int) < r
  ·obtain ⟨t, ht, ht0, ht1⟩ := pick_ok l (wrap64 (1 + wrap64 (3 * (x7.length : Int)))) 1000000 hl (by omega)
   obtain ⟨u, hu, hu0, hu1⟩ := pick_ok l (wrap64 (2 + wrap64 (3 * (x7.length : Int)))) 255 hl (by omega)
   obtain ⟨v, hv, hv0, hv1⟩ := pick_ok l (wrap64 (3 + wrap64 (3 * (x7.length : Int)))) 255 hl (by omega)
   have e0 : 0 ≤ Int.tmod t 6 ∧ Int.tmod t 6 < 6 := ⟨Int.tmod_nonneg _ ht0, Int.tmod_lt_of_pos _ (by omega)⟩
   have hq : 0 ≤ Int.tdiv t 6 ∧ Int.tdiv t 6 ≤ t := ⟨Int.tdiv_nonneg ht0 (by omega), Int.tdiv_le_self _ ht0⟩
   have hq2 : 0 ≤ Int.tdiv t 216 ∧ Int.tdiv t 216 ≤ t := ⟨Int.tdiv_nonneg ht0 (by omega), Int.tdiv_le_self _ ht0⟩
   have hw1 : wrap64 (Int.tdiv t 6) = Int.tdiv t 6 := w64 _ (by omega) (by omega)
   have hw2 : wrap64 (Int.tdiv t 216) = Int.tdiv t 216 := w64 _ (by omega) (by omega)
   have e1 : 0 ≤ Int.tmod (Int.tdiv t 6) 9 ∧ Int.tmod (Int.tdiv t 6) 9 < 9 := ⟨Int.tmod_nonneg _ hq.1, Int.tmod_lt_of_pos _ (by omega)⟩
   have e2 : 0 ≤ Int.tmod (Int.tdiv t 216) 50 ∧ Int.tmod (Int.tdiv t 216) 50 < 50 := ⟨Int.tmod_nonneg _ hq2.1, Int.tmod_lt_of_pos _ (by omega)⟩
   have g0 : wrap64 (1 + Int.tmod t 6) = 1 + Int.tmod t 6 := w64 _ (by omega) (by omega)
   have g1 : wrap64 (1 + Int.tmod (Int.tdiv t 6) 9) = 1 + Int.tmod (Int.tdiv t 6) 9 := w64 _ (by omega) (by omega)
   have g2 : wrap64 (1 + Int.tmod (Int.tdiv t 216) 50) = 1 + Int.tmod (Int.tdiv t 216) 50 := w64 _ (by omega) (by omega)
   have hpr : ∀ a b : Int, 1 ≤ a → a ≤ 9 → 1 ≤ b → b ≤ 50 → 1 ≤ a * b ∧ a * b ≤ 450 := fun a b a1 a2 b1 b2 => by
    have h1 : 1 * 1 ≤ a * b := Int.mul_le_mul a1 b1 (by omega) (by omega)
    have h2 : a * b ≤ 9 * 50 := Int.mul_le_mul a2 b2 (by omega) (by omega)
    omega
   have hp := hpr (1 + Int.tmod (Int.tdiv t 6) 9) (1 + Int.tmod (Int.tdiv t 216) 50) (by omega) (by omega) (by omega) (by omega)
   have g3 : wrap64 ((1 + Int.tmod (Int.tdiv t 6) 9) * (1 + Int.tmod (Int.tdiv t 216) 50)) = (1 + Int.tmod (Int.tdiv t 6) 9) * (1 + Int.tmod (Int.tdiv t 216) 50) := w64 _ (by omega) (by omega)
   have hstep : ∀ p : Int, 1 ≤ p → p ≤ 450 → ∃ L, Ev (fun k => worldmintref27_Bids.j1 k n l most x7 (x7.length : Int) (1 + Int.tmod t 6) p) L ∧ (L.length : Int) ≤ most ∧ ∀ b ∈ L, GoodBid n b := fun p hp1 hp2 => by
    obtain ⟨L, h1, h2⟩ := bids_l1 n l most x7 (x7.length : Int) (1 + Int.tmod t 6) p hn1 hn8 (by omega) [] (fun ks hk0 hk1 hk2 => by
     obtain ⟨L, h1, h2⟩ := ih (x7 ++ [⟨1 + Int.tmod t 6, p, ks⟩]) (by simp; omega) (by simp; omega) (fun b hb' => by
      rcases List.mem_append.1 hb' with h | h
      ·exact hb b h
      ·rw [List.mem_singleton] at h; subst h; exact ⟨by show 1 ≤ 1 + _; omega, by show 1 + _ ≤ 6; omega, hp1, hp2, hk0, hk1, hk2⟩)
     refine ⟨L, ?_, h2⟩
     rw [w64 _ (by omega) (by omega)]
     simpa using h1) n.toNat 0 (Go.bits .and .i64 u (Go.bits .or .i64 v 17)) [] (by omega) (by omega) (by omega) rfl (by simp) (by simp) (by omega)
    refine ⟨L, Ev.succ ?_, h2⟩
    simp only [worldmintref27_Bids.j1, hu, hv, Option.bind_some]
    exact h1
   by_cases c : Int.tmod (wrap64 (Int.tdiv t 54)) 4 = 0
   ·obtain ⟨L, h1, h2⟩ := hstep _ hp.1 hp.2
    refine ⟨L, Ev.succ ?_, h2⟩
    simp only [worldmintref27_Bids.l0, w64 (most + 1) (by omega) (by omega), hr, ht, Option.bind_some, if_pos hlt, if_pos c, hw1, hw2, g0, g1, g2, g3]
    exact h1
   ·obtain ⟨L, h1, h2⟩ := hstep (1 + Int.tmod (Int.tdiv t 6) 9) (by omega) (by omega)
    refine ⟨L, Ev.succ ?_, h2⟩
    simp only [worldmintref27_Bids.l0, w64 (most + 1) (by omega) (by omega), hr, ht, Option.bind_some, if_pos hlt, if_neg c, hw1, g0, g1]
    exact h1
  ·refine ⟨x7, Ev.succ ?_, hx, hb⟩
   simp only [worldmintref27_Bids.l0, w64 (most + 1) (by omega) (by omega), hr, Option.bind_some]
   simp only [if_neg hlt]
   exact Ev.some_
theorem bids_ok (n : Int) (l : List Int) (hl : ∀ x ∈ l, (Lit.int .i64 x).wf = true) (most : Int) (hn1 : 1 ≤ n) (hn8 : n ≤ 8) (hm0 : 0 ≤ most) (hm1 : most ≤ 1000) :
  ∃ L, Ev (fun k => worldmintref27_Bids.f k n l most) L ∧ (L.length : Int) ≤ most ∧ ∀ b ∈ L, GoodBid n b := by
 have := bids_l0 n l hl most hn1 hn8 hm0 hm1 _ [] rfl (by simpa using hm0) (by simp)
 simpa [worldmintref27_Bids.f] using this
end Go.Proofs.Ytdamibblnjeooaa.H

/- The search's answer: the best choice, and of equals the least. Plain. -/
namespace Go.Proofs.Ytdamibblnjeooaa.H
open Go.RowKit
set_option linter.unusedVariables false
set_option linter.unusedSimpArgs false
/-- Do places a and b conflict? -/
def cf (l : List S82) (a b : Int) : Bool := conf (l.getD a.toNat z82) (l.getD b.toNat z82)
/-- The places from i on, n of them, whose bit is set. -/
def choiceP : Nat → Nat → Nat → List Int
 | 0, _, _ => []
 | n + 1, bits, i => if bits % 2 = 1 then (i : Int) :: choiceP n (bits / 2) (i + 1) else choiceP n (bits / 2) (i + 1)
/-- Places that go with those taken, and among each other. -/
def okS (U : S82 → Bool) (l : List S82) : List Int → List Int → Bool
 | _, [] => true
 | win, k :: s => U (l.getD k.toNat z82) && !(win.any fun w => cf l w k) && okS U l (win ++ [k]) s
def valP (l : List S82) (s : List Int) : Int := (s.map fun k => (l.getD k.toNat z82).f1).sum
def lessP : List Int → List Int → Bool
 | [], [] => false
 | [], _ :: _ => true
 | _ :: _, [] => false
 | a :: s, b :: t => if a = b then lessP s t else decide (a < b)
/-- The best extension. -/
def ext (U : S82 → Bool) (l : List S82) : List S82 → Nat → List Int → List Int × Int
 | [], _, _ => ([], 0)
 | b :: left, i, win =>
  if U b && !(win.any fun w => conf (l.getD w.toNat z82) b) then
   if (ext U l left (i + 1) (win ++ [(i : Int)])).2 + b.f1 < (ext U l left (i + 1) win).2 then ext U l left (i + 1) win
   else ((i : Int) :: (ext U l left (i + 1) (win ++ [(i : Int)])).1, (ext U l left (i + 1) (win ++ [(i : Int)])).2 + b.f1)
  else ext U l left (i + 1) win
section
variable {U : S82 → Bool} {l : List S82}
theorem ext_bounds : ∀ (left : List S82) (i : Nat) (win : List Int), (∀ b ∈ left, 1 ≤ b.f1) → 0 ≤ (ext U l left i win).2 ∧ (ext U l left i win).2 ≤ restOf U left
 | [], _, _, _ => by simp [ext, restOf]
 | b :: left, i, win, h => by
  have hb := h b (by simp)
  have h1 := ext_bounds left (i + 1) win (fun x hx => h x (by simp [hx]))
  have h2 := ext_bounds left (i + 1) (win ++ [(i : Int)]) (fun x hx => h x (by simp [hx]))
  unfold ext restOf
  cases hU : U b
  ·simp only [Bool.false_and, Bool.false_eq_true, if_false]; omega
  ·simp only [Bool.true_and, if_true]
   split
   ·split
    ·constructor <;> omega
    ·constructor <;> (simp only; omega)
   ·constructor <;> omega
theorem try_ext : ∀ (left : List S82) (i : Nat) (value : Int) (win : List Int) (best : Int) (out : List Int) (val : Int), (∀ b ∈ left, 1 ≤ b.f1) →
  tryP U l left i value win (best, out, val) = if best < value + (ext U l left i win).2 then (value + (ext U l left i win).2, win ++ (ext U l left i win).1, value + (ext U l left i win).2) else (best, out, val)
 | [], i, value, win, best, out, val, _ => by
  simp only [tryP, ext, Int.add_zero, List.append_nil]
  by_cases h : value ≤ best
  ·rw [if_pos h, if_neg (by omega)]
  ·rw [if_neg h, if_pos (by omega)]
 | b :: left, i, value, win, best, out, val, h => by
  have hl : ∀ x ∈ left, 1 ≤ x.f1 := fun x hx => h x (by simp [hx])
  have hb := h b (by simp)
  have hbd := ext_bounds (U := U) (l := l) (b :: left) i win h
  simp only [tryP]
  by_cases hp : value + restOf U (b :: left) ≤ best
  ·rw [if_pos hp, if_neg (by omega)]
  ·rw [if_neg hp]
   have ht := try_ext left (i + 1) (value + b.f1) (win ++ [(i : Int)]) best out val hl
   have hs := fun B O V => try_ext left (i + 1) value win B O V hl
   unfold ext
   by_cases hc : (U b && !(win.any fun w => conf (l.getD w.toNat z82) b)) = true
   ·rw [if_pos hc, if_pos hc, ht]
    generalize ext U l left (i + 1) (win ++ [(i : Int)]) = T at *
    generalize ext U l left (i + 1) win = S at *
    by_cases h1 : best < value + b.f1 + T.2
    ·rw [if_pos h1, hs]
     by_cases h2 : T.2 + b.f1 < S.2
     ·rw [if_pos h2, if_pos (by omega), if_pos (by omega)]
     ·rw [if_neg h2, if_neg (by omega)]
      simp only
      rw [if_pos (by omega)]
      rw [show value + b.f1 + T.2 = value + (T.2 + b.f1) from by omega]
      simp
    ·rw [if_neg h1, hs]
     by_cases h2 : T.2 + b.f1 < S.2
     ·rw [if_pos h2]
     ·rw [if_neg h2, if_neg (by omega)]
      simp only
      rw [if_neg (by omega)]
   ·rw [if_neg hc, if_neg hc, hs]
theorem search_ext (h : ∀ b ∈ l, 1 ≤ b.f1) : searchP U l = ext U l l 0 [] := by
 have hb := ext_bounds (U := U) (l := l) l 0 [] h
 unfold searchP
 rw [try_ext l 0 0 [] (-1) [] 0 h, if_pos (by omega)]
 simp
theorem choice_ge : ∀ (n bits i : Nat), ∀ k ∈ choiceP n bits i, (i : Int) ≤ k ∧ k < (i : Int) + n
 | 0, _, _ => by simp [choiceP]
 | n + 1, bits, i => by
  intro k hk
  have ih := choice_ge n (bits / 2) (i + 1)
  unfold choiceP at hk
  split at hk
  ·rcases List.mem_cons.1 hk with rfl | hk
   ·constructor <;> omega
   ·have := ih k hk; constructor <;> omega
  ·have := ih k hk; constructor <;> omega
theorem drop_getD (i : Nat) (b : S82) (left : List S82) (h : l.drop i = b :: left) : l.getD (i : Int).toNat z82 = b ∧ l.drop (i + 1) = left := by
 have h1 : l[i]? = some b := by
  have := congrArg (fun t => t[0]?) h
  simpa using this
 refine ⟨by simp [List.getD, h1], ?_⟩
 have := congrArg List.tail h
 simpa using this
theorem ext_valid : ∀ (left : List S82) (i : Nat) (win : List Int), l.drop i = left →
  okS U l win (ext U l left i win).1 = true ∧ valP l (ext U l left i win).1 = (ext U l left i win).2 ∧ ∃ bits, bits < 2 ^ left.length ∧ choiceP left.length bits i = (ext U l left i win).1
 | [], i, win, _ => ⟨by simp [ext, okS], by simp [ext, valP], 0, by simp, by simp [ext, choiceP]⟩
 | b :: left, i, win, h => by
  obtain ⟨hg, hd⟩ := drop_getD i b left h
  obtain ⟨s1, s2, sb, s3, s4⟩ := ext_valid left (i + 1) win hd
  obtain ⟨t1, t2, tb, t3, t4⟩ := ext_valid left (i + 1) (win ++ [(i : Int)]) hd
  have hskip : okS U l win (ext U l left (i + 1) win).1 = true ∧ valP l (ext U l left (i + 1) win).1 = (ext U l left (i + 1) win).2 ∧ ∃ bits, bits < 2 ^ (b :: left).length ∧ choiceP (b :: left).length bits i = (ext U l left (i + 1) win).1 := by
   refine ⟨s1, s2, 2 * sb, by simp only [List.length_cons, Nat.pow_succ]; omega, ?_⟩
   simp only [List.length_cons, choiceP]
   rw [if_neg (by omega), show 2 * sb / 2 = sb from by omega, s4]
  unfold ext
  by_cases hc : (U b && !(win.any fun w => conf (l.getD w.toNat z82) b)) = true
  ·rw [if_pos hc]
   split
   ·exact hskip
   ·refine ⟨?_, ?_, 2 * tb + 1, by simp only [List.length_cons, Nat.pow_succ]; omega, ?_⟩
    ·simp only [okS, cf, hg, t1, Bool.and_true]
     exact hc
    ·simp only [valP, List.map_cons, List.sum_cons, hg] at t2 ⊢
     omega
    ·simp only [List.length_cons, choiceP]
     rw [if_pos (by omega), show (2 * tb + 1) / 2 = tb from by omega, t4]
  ·rw [if_neg hc]
   exact hskip
theorem ext_best : ∀ (left : List S82) (i : Nat) (win : List Int), l.drop i = left → (∀ b ∈ left, 1 ≤ b.f1) → ∀ bits, okS U l win (choiceP left.length bits i) = true →
  valP l (choiceP left.length bits i) ≤ (ext U l left i win).2 ∧ (valP l (choiceP left.length bits i) = (ext U l left i win).2 → choiceP left.length bits i = (ext U l left i win).1 ∨ lessP (ext U l left i win).1 (choiceP left.length bits i) = true)
 | [], i, win, _, _, bits, _ => ⟨by simp [choiceP, ext, valP], fun _ => .inl (by simp [choiceP, ext])⟩
 | b :: left, i, win, h, hp, bits, hok => by
  obtain ⟨hg, hd⟩ := drop_getD i b left h
  have hb := hp b (by simp)
  have hl : ∀ x ∈ left, 1 ≤ x.f1 := fun x hx => hp x (by simp [hx])
  have hs := ext_best left (i + 1) win hd hl (bits / 2)
  have ht := ext_best left (i + 1) (win ++ [(i : Int)]) hd hl (bits / 2)
  have hge := choice_ge left.length (bits / 2) (i + 1)
  have htb := ext_bounds (U := U) (l := l) left (i + 1) (win ++ [(i : Int)]) hl
  simp only [List.length_cons, choiceP] at hok ⊢
  by_cases hbit : bits % 2 = 1
  ·rw [if_pos hbit] at hok ⊢
   simp only [okS, cf, hg, Bool.and_eq_true] at hok
   obtain ⟨⟨hU, hnc⟩, hrest⟩ := hok
   obtain ⟨h1, h2⟩ := ht hrest
   unfold ext
   rw [if_pos (by simp only [Bool.and_eq_true]; exact ⟨hU, hnc⟩)]
   have hv : valP l ((i : Int) :: choiceP left.length (bits / 2) (i + 1)) = b.f1 + valP l (choiceP left.length (bits / 2) (i + 1)) := by
    simp only [valP, List.map_cons, List.sum_cons, hg]
   rw [hv]
   split
   ·exact ⟨by omega, fun e => by omega⟩
   ·refine ⟨by show _ ≤ (_, _).2; simp only; omega, fun e => ?_⟩
    simp only at e ⊢
    rcases h2 (by omega) with h3 | h3
    ·exact .inl (by rw [h3])
    ·exact .inr (by simp only [lessP, if_true]; exact h3)
  ·rw [if_neg hbit] at hok ⊢
   obtain ⟨h1, h2⟩ := hs hok
   unfold ext
   split
   ·split
    ·exact ⟨h1, h2⟩
    ·refine ⟨by show _ ≤ (_, _).2; simp only; omega, fun e => .inr ?_⟩
     simp only at e ⊢
     cases hc : choiceP left.length (bits / 2) (i + 1) with
     | nil =>
      rw [hc] at e
      simp only [valP, List.map_nil, List.sum_nil] at e
      omega
     | cons k s =>
      have := hge k (by rw [hc]; simp)
      simp only [lessP]
      rw [if_neg (by omega)]
      simp
      omega
   ·exact ⟨h1, h2⟩
theorem less_irrefl : ∀ s, lessP s s = false
 | [] => rfl
 | a :: s => by simp [lessP, less_irrefl s]
theorem less_trans : ∀ a b c, lessP a b = true → lessP b c = true → lessP a c = true
 | [], [], _, h, _ => by simp [lessP] at h
 | [], _ :: _, [], _, h => by simp [lessP] at h
 | [], _ :: _, _ :: _, _, _ => rfl
 | _ :: _, [], _, h, _ => by simp [lessP] at h
 | _ :: _, _ :: _, [], _, h => by simp [lessP] at h
 | x :: a, y :: b, z :: c, h1, h2 => by
  simp only [lessP] at h1 h2 ⊢
  by_cases e1 : x = y
  ·subst e1
   rw [if_pos rfl] at h1
   by_cases e2 : x = z
   ·subst e2
    rw [if_pos rfl] at h2 ⊢
    exact less_trans a b c h1 h2
   ·rw [if_neg e2] at h2 ⊢
    exact h2
  ·rw [if_neg e1] at h1
   simp only [decide_eq_true_eq] at h1
   by_cases e2 : y = z
   ·subst e2
    rw [if_neg e1]
    simpa using h1
   ·rw [if_neg e2] at h2
    simp only [decide_eq_true_eq] at h2
    rw [if_neg (by omega)]
    simp only [decide_eq_true_eq]
    omega
end
end Go.Proofs.Ytdamibblnjeooaa.H

/- What the reference of bids computes: by the same plain words. -/
namespace Go.Proofs.Ytdamibblnjeooaa.H
open Go.RowKit Go.Proofs.YtdamibblnjeooaaW.PrintWords Go.Proofs.YtdamibblnjeooaaW.PrintLast
set_option linter.unusedVariables false
set_option linter.unusedSimpArgs false
/-- A bid of the reference as a bid of the program. -/
def cv (b : S85) : S82 := ⟨b.f0, b.f1, b.f2⟩
theorem drop_cons {α : Type} (l : List α) (p : Nat) (x : α) (d : List α) (h : l.drop p = x :: d) : l[p]? = some x ∧ l.drop (p + 1) = d ∧ p < l.length := by
 have h1 : l[p]? = some x := by
  have := congrArg (fun t => t[0]?) h
  simpa using this
 refine ⟨h1, ?_, ?_⟩
 ·have := congrArg List.tail h
  simpa using this
 ·have := congrArg List.length h
  simp at this
  omega
theorem drop_nil {α : Type} (l : List α) (p : Nat) (hp : p ≤ l.length) (h : l.drop p = []) : p = l.length := by
 have := congrArg List.length h
 simp at this
 omega
theorem rdR_at (l : List S85) (i : Nat) (x : S85) (h : l[i]? = some x) : rd_T85 l (i : Int) = x := by
 simp [rd_T85, List.getD, h]
theorem rdR_cv (l : List S85) (i : Int) : cv (rd_T85 l i) = (l.map cv).getD i.toNat z82 := by
 simp only [rd_T85, List.getD, List.getElem?_map]
 cases l[i.toNat]? <;> rfl
/-! ### Valid -/
theorem rvalid_l1 (n : Int) (l : List S85) (i f0 f1 : Int) (ks : List Int) (hk : ks.length ≤ 9223372036854775807) (r : Int) (hr : Ev (fun k => worldmintref27_Valid.l0 k n l (wrap64 (i + 1))) r) :
  ∀ (d : List Int) (p : Nat) (last : Int), ks.drop p = d → p ≤ ks.length → -1 ≤ last → (p = 0 → last = -1) → (∀ q, p = q + 1 → rd ks q = last) →
  Ev (fun k => worldmintref27_Valid.l1 k n l i (p : Int) f0 f1 ks) (if lotsOk n last d then r else 1)
 | [], p, last, hd, hp, hl, hz, hq => by
  have := drop_nil ks p hp hd
  refine Ev.succ ?_
  simp only [worldmintref27_Valid.l1, if_neg (show ¬ (p : Int) < (ks.length : Int) by omega), lotsOk, if_true]
  exact hr
 | x :: d, p, last, hd, hp, hl, hz, hq => by
  obtain ⟨hx, hd', hlt⟩ := drop_cons ks p x d hd
  have ih := fun h0 => rvalid_l1 n l i f0 f1 ks hk r hr d (p + 1) x hd' (by omega) h0 (by omega) (fun q e => by
   have : q = p := by omega
   subst this
   exact rd_at ks q x hx)
  have hw : wrap64 ((p : Int) + 1) = ((p + 1 : Nat) : Int) := by rw [w64 _ (by omega) (by omega)]; omega
  have hF : x ≤ last ∨ n ≤ x → lotsOk n last (x :: d) = false := fun h => by
   simp only [lotsOk]
   rw [if_pos (by simpa using h)]
  have hT : ¬ x ≤ last → ¬ n ≤ x → lotsOk n last (x :: d) = lotsOk n x d := fun h1 h2 => by
   simp only [lotsOk]
   rw [if_neg (by simp; omega)]
  refine Ev.succ ?_
  simp only [worldmintref27_Valid.l1, if_pos (show (p : Int) < (ks.length : Int) by omega), if_pos (show (0 : Int) ≤ (p : Int) by omega), rd_at ks p x hx, hw]
  by_cases c1 : x < 0
  ·simp only [if_pos c1]
   rw [hF (by omega)]
   simpa using Ev.some_
  ·simp only [if_neg c1]
   by_cases c2 : x ≥ n
   ·simp only [if_pos c2]
    rw [hF (by omega)]
    simpa using Ev.some_
   ·simp only [if_neg c2]
    cases p with
    | zero =>
     have hl1 := hz rfl
     simp only [if_neg (show ¬ ((0 : Nat) : Int) > 0 by omega)]
     rw [hT (by omega) (by omega)]
     exact ih (by omega)
    | succ q =>
     have hw2 : wrap64 (((q + 1 : Nat) : Int) - 1) = (q : Int) := by rw [w64 _ (by omega) (by omega)]; omega
     simp only [if_pos (show ((q + 1 : Nat) : Int) > 0 by omega), hw2, if_pos (show (0 : Int) ≤ (q : Int) by omega), if_pos (show (q : Int) < (ks.length : Int) by omega), hq q rfl]
     by_cases c3 : x ≤ last
     ·simp only [if_pos c3]
      rw [hF (by omega)]
      simpa using Ev.some_
     ·simp only [if_neg c3]
      rw [hT (by omega) (by omega)]
      exact ih (by omega)
theorem rvalid_l0 (n : Int) (l : List S85) (hl : l.length ≤ 10) (hb : ∀ b ∈ l, b.f2.length ≤ 9223372036854775807) : ∀ (d : List S85) (p : Nat), l.drop p = d → p ≤ l.length →
  Ev (fun k => worldmintref27_Valid.l0 k n l (p : Int)) (bidsErr n (d.map cv))
 | [], p, hd, hp => by
  have := drop_nil l p hp hd
  refine Ev.succ ?_
  simp only [worldmintref27_Valid.l0, if_neg (show ¬ (p : Int) < (l.length : Int) by omega)]
  exact Ev.some_
 | x :: d, p, hd, hp => by
  obtain ⟨hx, hd', hlt⟩ := drop_cons l p x d hd
  have ih := rvalid_l0 n l hl hb d (p + 1) hd' (by omega)
  have hw : wrap64 ((p : Int) + 1) = ((p + 1 : Nat) : Int) := by rw [w64 _ (by omega) (by omega)]; omega
  have h1 := rvalid_l1 n l p x.f0 x.f1 x.f2 (hb x (List.mem_of_getElem? hx)) _ (by rw [hw]; exact ih) x.f2 0 (-1) rfl (Nat.zero_le _) (by omega) (fun _ => rfl) (fun q e => by omega)
  refine Ev.succ ?_
  simp only [worldmintref27_Valid.l0, if_pos (show (p : Int) < (l.length : Int) by omega), if_pos (show (0 : Int) ≤ (p : Int) by omega), rdR_at l p x hx, List.map_cons, bidsErr, cv]
  have hj : ∀ v : Bool, Ev (fun k => worldmintref27_Valid.j2 k n l (p : Int) v x.f0 x.f1 x.f2) (if v then 1 else if x.f1 < 1 || 1099511627776 < x.f1 then 5 else if x.f2.length == 0 then 1 else if !lotsOk n (-1) x.f2 then 1 else bidsErr n (d.map cv)) := fun v => by
   refine Ev.succ ?_
   cases v
   ·have hj3 : ∀ u : Bool, Ev (fun k => worldmintref27_Valid.j3 k n l (p : Int) u x.f0 x.f1 x.f2) (if u then 5 else if x.f2.length == 0 then 1 else if !lotsOk n (-1) x.f2 then 1 else bidsErr n (d.map cv)) := fun u => by
     refine Ev.succ ?_
     cases u
     ·simp only [worldmintref27_Valid.j3, Bool.false_eq_true, if_false]
      by_cases c : (x.f2.length : Int) = 0
      ·simp only [if_pos c]
       rw [if_pos (by simpa using c)]
       exact Ev.some_
      ·simp only [if_neg c]
       rw [if_neg (by simpa using c)]
       cases hk : lotsOk n (-1) x.f2
       ·simpa [hk] using h1
       ·simpa [hk] using h1
     ·simp only [worldmintref27_Valid.j3, if_true]
      exact Ev.some_
    simp only [worldmintref27_Valid.j2, Bool.false_eq_true, if_false]
    by_cases c : x.f1 < 1
    ·simp only [if_pos c]
     have := hj3 true
     simpa [c] using this
    ·simp only [if_neg c]
     have := hj3 (decide (x.f1 > 1099511627776))
     simpa [c] using this
   ·simp only [worldmintref27_Valid.j2, if_true]
    exact Ev.some_
  by_cases c : x.f0 < 1
  ·simp only [if_pos c]
   have := hj true
   simpa [c] using this
  ·simp only [if_neg c]
   have := hj (decide (x.f0 > 1073741824))
   simpa [c] using this
theorem rvalid_ok (n : Int) (l : List S85) (hb : ∀ b ∈ l, b.f2.length ≤ 9223372036854775807) : Ev (fun k => worldmintref27_Valid.f k n l) (validP n (l.map cv)) := by
 have hj : ∀ v : Bool, Ev (fun k => worldmintref27_Valid.j0 k n l v) (if v then 5 else if 10 < l.length then 4 else bidsErr n (l.map cv)) := fun v => by
  refine Ev.succ ?_
  cases v
  ·simp only [worldmintref27_Valid.j0, Bool.false_eq_true, if_false]
   by_cases c : (l.length : Int) > 10
   ·simp only [if_pos c]
    rw [if_pos (by omega)]
    exact Ev.some_
   ·simp only [if_neg c]
    rw [if_neg (by omega)]
    exact rvalid_l0 n l (by omega) hb l 0 rfl (Nat.zero_le _)
  ·simp only [worldmintref27_Valid.j0, if_true]
   exact Ev.some_
 unfold worldmintref27_Valid.f validP
 by_cases c : n < 1
 ·simp only [if_pos c]
  have := hj true
  simpa [c] using this
 ·simp only [if_neg c]
  have := hj (decide (n > 8))
  simpa [c] using this
/-! ### given -/
theorem given_ok (l : List S85) (hl : l.length < 3518437208883) : Ev (fun k => worldmintlaw29_given.f k l) (l.map cv) := by
 have : ∀ (d : List S85) (p : Nat), l.drop p = d → p ≤ l.length → Ev (fun k => worldmintlaw29_given.l0 k l ((l.take p).map cv) (p : Int)) (l.map cv) := by
  intro d
  induction d with
  | nil =>
   intro p hd hp
   have := drop_nil l p hp hd
   subst this
   refine Ev.succ ?_
   simp only [worldmintlaw29_given.l0, if_neg (show ¬ (l.length : Int) < (l.length : Int) by omega), List.take_length]
   exact Ev.some_
  | cons x d ih =>
   intro p hd hp
   obtain ⟨hx, hd', hlt⟩ := drop_cons l p x d hd
   have hw : wrap64 ((p : Int) + 1) = ((p + 1 : Nat) : Int) := by rw [w64 _ (by omega) (by omega)]; omega
   have h1 := ih (p + 1) hd' (by omega)
   refine Ev.succ ?_
   simp only [worldmintlaw29_given.l0, if_pos (show (p : Int) < (l.length : Int) by omega), if_pos (show (0 : Int) ≤ (p : Int) by omega), rdR_at l p x hx, hw, List.length_map, List.length_take]
   simp only [if_pos (show min p l.length < 3518437208883 by omega)]
   have e : (l.take p).map cv ++ [⟨x.f0, x.f1, x.f2⟩] = (l.take (p + 1)).map cv := by
    have hg : l[p] = x := by
     have := List.getElem?_eq_getElem hlt
     rw [hx] at this
     injection this with this
     exact this.symm
    rw [List.take_succ_eq_append_getElem hlt, List.map_append, hg]
    rfl
   rw [e]
   exact h1
 exact this l 0 rfl (Nat.zero_le _)
/-! ### Conflict, Feasible, Value, Less, Choice -/
theorem has_ok (xs : List Int) (x : Int) (hl : xs.length ≤ 9223372036854775807) : Ev (fun k => worldmintref01_Has.f k xs x) (xs.contains x) := by
 have : ∀ (d : List Int) (p : Nat), xs.drop p = d → p ≤ xs.length → Ev (fun k => worldmintref01_Has.l0 k xs x (p : Int)) (d.contains x) := by
  intro d
  induction d with
  | nil =>
   intro p hd hp
   have := drop_nil xs p hp hd
   refine Ev.succ ?_
   simp only [worldmintref01_Has.l0, if_neg (show ¬ (p : Int) < (xs.length : Int) by omega)]
   exact Ev.some_
  | cons y d ih =>
   intro p hd hp
   obtain ⟨hx, hd', hlt⟩ := drop_cons xs p y d hd
   have hw : wrap64 ((p : Int) + 1) = ((p + 1 : Nat) : Int) := by rw [w64 _ (by omega) (by omega)]; omega
   have h1 := ih (p + 1) hd' (by omega)
   refine Ev.succ ?_
   simp only [worldmintref01_Has.l0, if_pos (show (p : Int) < (xs.length : Int) by omega), if_pos (show (0 : Int) ≤ (p : Int) by omega), rd_at xs p y hx, hw]
   by_cases c : y = x
   ·subst c
    simp only [if_true]
    simpa using Ev.some_
   ·simp only [if_neg c]
    have e : (y :: d).contains x = d.contains x := by rw [List.contains_cons, beq_false_of_ne (fun e : x = y => c e.symm), Bool.false_or]
    rw [e]
    exact h1
 exact this xs 0 rfl (Nat.zero_le _)
theorem rconf_ok (a0 a1 : Int) (a2 : List Int) (b0 b1 : Int) (b2 : List Int) (ha : a2.length ≤ 9223372036854775807) (hb : b2.length ≤ 9223372036854775807) :
  Ev (fun k => worldmintref27_Conflict.f k a0 a1 a2 b0 b1 b2) (conf ⟨b0, b1, b2⟩ ⟨a0, a1, a2⟩) := by
 have : ∀ (d : List Int) (p : Nat), a2.drop p = d → p ≤ a2.length → Ev (fun k => worldmintref27_Conflict.l0 k (p : Int) a0 a1 a2 b0 b1 b2) (d.any fun k => b2.contains k) := by
  intro d
  induction d with
  | nil =>
   intro p hd hp
   have := drop_nil a2 p hp hd
   refine Ev.succ ?_
   simp only [worldmintref27_Conflict.l0, if_neg (show ¬ (p : Int) < (a2.length : Int) by omega)]
   exact Ev.some_
  | cons y d ih =>
   intro p hd hp
   obtain ⟨hx, hd', hlt⟩ := drop_cons a2 p y d hd
   have hw : wrap64 ((p : Int) + 1) = ((p + 1 : Nat) : Int) := by rw [w64 _ (by omega) (by omega)]; omega
   have h1 := ih (p + 1) hd' (by omega)
   refine Ev.succ ?_
   simp only [worldmintref27_Conflict.l0, if_pos (show (p : Int) < (a2.length : Int) by omega), if_pos (show (0 : Int) ≤ (p : Int) by omega), rd_at a2 p y hx, hw]
   refine Ev.bind (has_ok b2 y hb) ?_
   simp only [List.any_cons]
   cases b2.contains y
   ·simpa using h1
   ·simpa using Ev.some_
 unfold worldmintref27_Conflict.f conf
 by_cases c : a0 = b0
 ·subst c
  simp only [if_true]
  simpa using Ev.some_
 ·simp only [if_neg c]
  have e : (b0 == a0) = false := by simpa using fun e : b0 = a0 => c e.symm
  simp only [e, Bool.false_or]
  exact this a2 0 rfl (Nat.zero_le _)
theorem rvalue_ok (l : List S85) (c : List Int) (hc : ∀ k ∈ c, 0 ≤ k ∧ k < l.length) (hl : c.length ≤ 1000) (hp : ∀ b ∈ l, 0 ≤ b.f1 ∧ b.f1 ≤ 1099511627776) : Ev (fun k => worldmintref27_Value.f k l c) (valP (l.map cv) c) := by
 have : ∀ (d : List Int) (p : Nat) (s : Int), c.drop p = d → p ≤ c.length → 0 ≤ s → s ≤ p * 1099511627776 → Ev (fun k => worldmintref27_Value.l0 k l c s (p : Int)) (s + valP (l.map cv) d) := by
  intro d
  induction d with
  | nil =>
   intro p s hd hpl hs0 hs1
   have := drop_nil c p hpl hd
   refine Ev.succ ?_
   simp only [worldmintref27_Value.l0, if_neg (show ¬ (p : Int) < (c.length : Int) by omega), valP, List.map_nil, List.sum_nil, Int.add_zero]
   exact Ev.some_
  | cons y d ih =>
   intro p s hd hpl hs0 hs1
   obtain ⟨hx, hd', hlt⟩ := drop_cons c p y d hd
   obtain ⟨hy0, hy1⟩ := hc y (List.mem_of_getElem? hx)
   have hw : wrap64 ((p : Int) + 1) = ((p + 1 : Nat) : Int) := by rw [w64 _ (by omega) (by omega)]; omega
   have hyl : y.toNat < l.length := by omega
   have hb := hp l[y.toNat] (List.getElem_mem hyl)
   have hrd : rd_T85 l y = l[y.toNat] := by simp [rd_T85, List.getD, hyl]
   have hg : (l.map cv).getD y.toNat z82 = cv l[y.toNat] := by simp [List.getD, hyl]
   have hw2 : wrap64 (s + l[y.toNat].f1) = s + l[y.toNat].f1 := w64 _ (by omega) (by omega)
   have h1 := ih (p + 1) (s + l[y.toNat].f1) hd' (by omega) (by omega) (by omega)
   refine Ev.succ ?_
   simp only [worldmintref27_Value.l0, if_pos (show (p : Int) < (c.length : Int) by omega), if_pos (show (0 : Int) ≤ (p : Int) by omega), rd_at c p y hx, hw, if_pos (show y ≥ 0 by omega), if_pos (show y < (l.length : Int) by omega), if_pos (show (0 : Int) ≤ y by omega), hrd, hw2]
   have e : s + valP (l.map cv) (y :: d) = s + l[y.toNat].f1 + valP (l.map cv) d := by
    simp only [valP, List.map_cons, List.sum_cons, hg, cv]
    omega
   rw [e]
   exact h1
 have h := this c 0 0 rfl (Nat.zero_le _) (by omega) (by omega)
 simpa [worldmintref27_Value.f] using h
theorem value_ok (l : List S82) (c : List Int) (hc : ∀ k ∈ c, 0 ≤ k ∧ k < l.length) (hl : c.length ≤ 1000) (hp : ∀ b ∈ l, 0 ≤ b.f1 ∧ b.f1 ≤ 1099511627776) : Ev (fun k => bids_Value.f k l c) (valP l c) := by
 have : ∀ (d : List Int) (p : Nat) (s : Int), c.drop p = d → p ≤ c.length → 0 ≤ s → s ≤ p * 1099511627776 → Ev (fun k => bids_Value.l0 k l s c (c.length : Int) (p : Int)) (s + valP l d) := by
  intro d
  induction d with
  | nil =>
   intro p s hd hpl hs0 hs1
   have := drop_nil c p hpl hd
   refine Ev.succ ?_
   simp only [bids_Value.l0, if_neg (show ¬ (p : Int) < (c.length : Int) by omega), valP, List.map_nil, List.sum_nil, Int.add_zero]
   exact Ev.some_
  | cons y d ih =>
   intro p s hd hpl hs0 hs1
   obtain ⟨hx, hd', hlt⟩ := drop_cons c p y d hd
   obtain ⟨hy0, hy1⟩ := hc y (List.mem_of_getElem? hx)
   have hw : wrap64 ((p : Int) + 1) = ((p + 1 : Nat) : Int) := by rw [w64 _ (by omega) (by omega)]; omega
   have hyl : y.toNat < l.length := by omega
   have hm : l.getD y.toNat z82 ∈ l := by simp [List.getD, hyl]
   have hb := hp _ hm
   have hrd : rd_T82 l y = l.getD y.toNat z82 := rfl
   have hw2 : wrap64 (s + (l.getD y.toNat z82).f1) = s + (l.getD y.toNat z82).f1 := w64 _ (by omega) (by omega)
   have h1 := ih (p + 1) (s + (l.getD y.toNat z82).f1) hd' (by omega) (by omega) (by omega)
   refine Ev.succ ?_
   simp only [bids_Value.l0, if_pos (show (p : Int) < (c.length : Int) by omega), if_pos (show (0 : Int) ≤ (p : Int) by omega), rd_at c p y hx, hw, if_pos (show y ≥ 0 by omega), if_pos (show y < (l.length : Int) by omega), if_pos (show (0 : Int) ≤ y by omega), hrd, hw2]
   have e : s + valP l (y :: d) = s + (l.getD y.toNat z82).f1 + valP l d := by
    simp only [valP, List.map_cons, List.sum_cons]
    omega
   rw [e]
   exact h1
 have h := this c 0 0 rfl (Nat.zero_le _) (by omega) (by omega)
 simpa [bids_Value.f] using h
end Go.Proofs.Ytdamibblnjeooaa.H

/- proof.Check. -/
namespace Go.Proofs.Ytdamibblnjeooaa.H
open Go.RowKit Go.Proofs.YtdamibblnjeooaaW.PrintWords Go.Proofs.YtdamibblnjeooaaW.PrintLast Go.Proofs.YtdamibblnjeooaaW.PrintMore
set_option linter.unusedVariables false
set_option linter.unusedSimpArgs false
/-- The certificate as a whole. -/
def rootP (n : Int) (l : List S82) (v : Int) (nodes : List S55) : Bool × List Bool := nodeP n l v nodes nodes.length 0 (List.replicate l.length 0) (List.replicate nodes.length false)
def checkP (n : Int) (l : List S82) (win : List Int) (v : Int) (nodes : List S55) : Int :=
 if validP n l ≠ 0 then validP n l else if feasP l [] win = false then 1 else if 2047 < nodes.length then 4 else if nodes.length = 0 ∨ v ≠ valP l win then 20 else
 if (rootP n l v nodes).1 = true ∧ (rootP n l v nodes).2.all id = true then 0 else 20
def proof_Check.f (a0 : Int) (l1 : List S82) (l2 : List Int) (a3_0 : Int) (l3_1 : List S55) : Option Int := some (checkP a0 l1 l2 a3_0 l3_1)
def lastP (pre : List Int) (w : Int) : Bool := match pre.getLast? with | some p => decide (w ≤ p) | none => false
theorem feasP_facts (l : List S82) : ∀ (ws pre : List Int), feasP l pre ws = true → (∀ k ∈ ws, 0 ≤ k ∧ k < l.length) ∧ ws.Pairwise (· < ·) ∧ (∀ p, pre.getLast? = some p → ∀ k ∈ ws, p < k)
 | [], _, _ => ⟨by simp, List.Pairwise.nil, by simp⟩
 | w :: ws, pre, h => by
  have h0 : feasP l pre (w :: ws) = if (w < 0 || (l.length : Int) ≤ w || lastP pre w) = true then false else if (pre.any fun v => conf (l.getD v.toNat z82) (l.getD w.toNat z82)) = true then false else feasP l (pre ++ [w]) ws := rfl
  rw [h0] at h
  by_cases c1 : (w < 0 || (l.length : Int) ≤ w || lastP pre w) = true
  ·rw [if_pos c1] at h; cases h
  ·rw [if_neg c1] at h
   by_cases c2 : (pre.any fun v => conf (l.getD v.toNat z82) (l.getD w.toNat z82)) = true
   ·rw [if_pos c2] at h; cases h
   ·rw [if_neg c2] at h
    obtain ⟨h1, h2, h3⟩ := feasP_facts l ws (pre ++ [w]) h
    have h4 := h3 w (by simp)
    simp only [Bool.or_eq_true, decide_eq_true_eq, not_or] at c1
    refine ⟨fun k hk => ?_, List.pairwise_cons.2 ⟨h4, h2⟩, fun p hp k hk => ?_⟩
    ·rcases List.mem_cons.1 hk with rfl | hk
     ·omega
     ·exact h1 k hk
    ·have h5 : ¬ w ≤ p := by
      have h6 := c1.2
      unfold lastP at h6
      rw [hp] at h6
      simpa using h6
     rcases List.mem_cons.1 hk with rfl | hk
     ·omega
     ·have := h4 k hk; omega
theorem rise_len : ∀ (s : List Int) (a : Int) (n : Nat), s.Pairwise (· < ·) → (∀ k ∈ s, a ≤ k ∧ k < a + n) → s.length ≤ n
 | [], _, _, _, _ => Nat.zero_le _
 | x :: s, a, n, hr, h => by
  obtain ⟨h1, h2⟩ := List.pairwise_cons.1 hr
  have hx := h x (by simp)
  obtain ⟨m, rfl⟩ : ∃ m, n = m + 1 := ⟨n - 1, by omega⟩
  have := rise_len s (a + 1) m h2 (fun k hk => by
   have h3 := h1 k hk
   have h4 := h k (by simp [hk])
   omega)
  simp only [List.length_cons]; omega
theorem feas_len (l : List S82) (win : List Int) (h : feasP l [] win = true) : win.length ≤ l.length := by
 obtain ⟨h1, h2, _⟩ := feasP_facts l win [] h
 exact rise_len win 0 l.length h2 (fun k hk => by have := h1 k hk; omega)
theorem made_boolsC (n : Nat) : madeCells #[Value.bool false] n = (bools (List.replicate n false)).toArray := by
 apply Array.ext
 ·simp [bools, madeCells]
 ·intro i h1 h2
  simp [bools, madeCells, Nat.mod_one]
theorem infoBo : (Try.prog.info? 4).map (fun i => (i.zero, i.size, i.bytes)) = some (some (.bool false), 1, 1) := by kernel_rfl
set_option maxHeartbeats 8000000 in
set_option maxRecDepth 100000 in
theorem proof_Check.calls (a0 : Int) (A1 : Option Addr) (c1 : Nat) (l1 : List S82) (A2 : Option Addr) (c2 : Nat) (l2 : List Int) (a3_0 : Int) (A3_1 : Option Addr) (c3_1 : Nat) (l3_1 : List S55) (r : Int) (w : World)
  (hr1 : Kd.C k82 w A1 l1.length l1) (hc1 : l1.length ≤ c1) (hr2 : Kd.C (Kd.int .i64) w A2 l2.length l2) (hc2 : l2.length ≤ c2) (hr3_1 : Kd.C k55 w A3_1 l3_1.length l3_1) (hc3_1 : l3_1.length ≤ c3_1) (h : proof_Check.f a0 l1 l2 a3_0 l3_1 = some r) :
  Calls Try.prog 18 #[.int .i64 a0, .slice A1 l1.length c1, .slice A2 l2.length c2, .agg #[.int .i64 a3_0, .slice A3_1 l3_1.length c3_1]] w fun e w' => e = .returned (.int .i64 r) ∧ Below w.heap.size w w' := by
 obtain rfl : checkP a0 l1 l2 a3_0 l3_1 = r := Option.some.inj h
 clear h
 obtain ⟨k, hk⟩ := bids_Valid_f a0 l1 (lots_short hr1)
 obtain ⟨wA, hwA⟩ : ∃ wA, wA = w.alloc (.cells #[.int .i64 a3_0, .slice A3_1 l3_1.length c3_1] 44) := ⟨_, rfl⟩
 have hbA : Below w.heap.size w wA := by rw [hwA]; exact (Below.refl _ w).alloc (Nat.le_refl _) _
 have hPA : wA.heap[w.heap.size]? = some (.cells #[.int .i64 a3_0, .slice A3_1 l3_1.length c3_1] 44 (0, 0)) := by rw [hwA]; exact heap_alloc_new w _
 have hv := bids_Valid.calls k a0 A1 c1 l1 _ wA (Kd.C_below hr1 hbA) hc1 hk
 have Hv := Aside0.mk hv
 have Hr1 := Aside0.mk hr1
 have Hr2 := Aside0.mk hr2
 have Hr3 := Aside0.mk hr3_1
 have HbA := Aside0.mk hbA
 have HPA := Aside0.mk hPA
 clear hr1 hr2 hr3_1 hbA hPA hv hk
 by_cases hz : validP a0 l1 = 0
 ·rw [hz] at Hv
  obtain ⟨hn1, hn2, hl10, hbb⟩ := validP_bids a0 l1 hz
  have Hbb := Aside0.mk hbb
  have Hz := Aside0.mk hz
  clear hbb hz
  have hfc := fun W (hW : Below w.heap.size w W) => bids_Feasible.calls A1 c1 l1 A2 c2 l2 _ W (Kd.C_below Hr1.out hW) hc1 (Kd.C_below Hr2.out hW) hc2 rfl
  have Hfc := Aside0.mk hfc
  clear hfc
  go_enter Try.func18, Try.ntmps18
  go_upto_region 1 with (fail)
  rw [← hwA]
  clear hwA
  go_wp2_with fail
  refine Hv.out.mono ?_
  rintro e w1 ⟨rfl, hb1⟩
  have hW1 := HbA.out.trans (hb1.mono HbA.out.size)
  have hP1 := (hb1.block _ (Array.getElem?_eq_some_iff.1 HPA.out).1).trans HPA.out
  have hf1 := Hfc.out w1 hW1
  have HW1 := Aside0.mk hW1
  have HP1 := Aside0.mk hP1
  have Hf1 := Aside0.mk hf1
  clear hb1 hW1 hP1 hf1 Hfc HPA HbA Hv
  cases hfe : feasP l1 [] l2
  ·have hres : checkP a0 l1 l2 a3_0 l3_1 = 1 := by unfold checkP; rw [if_neg (by rw [Hz.out]; simp), if_pos hfe]
   rw [hfe] at Hf1
   have Hres := Aside0.mk hres
   clear hres hfe
   go_wp2_with fail
   refine Hf1.out.mono ?_
   rintro e w2 ⟨rfl, hb2⟩
   have hW2 := HW1.out.trans (hb2.mono HW1.out.size)
   clear hb2 Hf1
   go_wp2
   go_ret
   exact ⟨by rw [Hres.out]; rfl, hW2⟩
  ·rw [hfe] at Hf1
   have Hfe := Aside0.mk hfe
   clear hfe
   go_wp2_with fail
   refine Hf1.out.mono ?_
   rintro e w2 ⟨rfl, hb2⟩
   have hW2 := HW1.out.trans (hb2.mono HW1.out.size)
   have hP2 := (hb2.block _ (Array.getElem?_eq_some_iff.1 HP1.out).1).trans HP1.out
   have hcp0 : w2.cell? ⟨w.heap.size, 0, none⟩ = some (.int .i64 a3_0) := (blk_cell hP2 0).trans rfl
   have hcp1 : w2.cell? ⟨w.heap.size, 1, none⟩ = some (.slice A3_1 l3_1.length c3_1) := (blk_cell hP2 1).trans rfl
   have HW2 := Aside0.mk hW2
   have HP2 := Aside0.mk hP2
   clear hb2 hW2 hP2 Hf1 HW1 HP1
   have hnb := (show l3_1.length ≤ 9223372036854775807 from Hr3.out.2.1)
   by_cases hbig : 2047 < l3_1.length
   ·have hres : checkP a0 l1 l2 a3_0 l3_1 = 4 := by unfold checkP; rw [if_neg (by rw [Hz.out]; simp), if_neg (by rw [Hfe.out]; simp), if_pos hbig]
    have Hres := Aside0.mk hres
    have hd1 : decide ((2047 : Int) < (l3_1.length : Int)) = true := decide_eq_true (by omega)
    have hd2 : decide (2047 < l3_1.length) = true := decide_eq_true hbig
    clear hres
    go_wp2
    go_ret
    exact ⟨by rw [Hres.out]; rfl, HW2.out⟩
   ·have hd1 : decide ((2047 : Int) < (l3_1.length : Int)) = false := decide_eq_false (by omega)
    have hd2 : decide (2047 < l3_1.length) = false := decide_eq_false hbig
    have Hbig := Aside0.mk hbig
    clear hbig
    by_cases hz0 : l3_1.length = 0
    ·have hres : checkP a0 l1 l2 a3_0 l3_1 = 20 := by unfold checkP; rw [if_neg (by rw [Hz.out]; simp), if_neg (by rw [Hfe.out]; simp), if_neg Hbig.out, if_pos (.inl hz0)]
     have Hres := Aside0.mk hres
     rw [hz0] at hcp1
     clear hres hz0
     go_upto_region 8 with (fail)
     go_quiet (fail)
     have hW3 : Below w.heap.size w (w2.drewN nq) := HW2.out.trans ((pw_below_drewN (Below.refl w2.heap.size w2) nq).mono HW2.out.size)
     go_wp2
     go_ret
     exact ⟨by rw [Hres.out]; rfl, hW3⟩
    ·have hd3 : ((l3_1.length : Int) == 0) = false := by simpa using hz0
     obtain ⟨hr, hp, _⟩ := feasP_facts l1 l2 [] Hfe.out
     have hfl := feas_len l1 l2 Hfe.out
     obtain ⟨kv, hkv⟩ := (value_ok l1 l2 hr (by omega) (fun b hb => by have := (Hbb.out b hb).1; omega)).ex
     have hva := bids_Value.calls kv A1 c1 l1 A2 c2 l2 _ w2.drew (Kd.C_below Hr1.out (HW2.out.trans ((below_drew0 w2).mono HW2.out.size))) hc1 (Kd.C_below Hr2.out (HW2.out.trans ((below_drew0 w2).mono HW2.out.size))) hc2 hkv
     have Hva := Aside0.mk hva
     have Hz0 := Aside0.mk hz0
     clear hva hkv hr hp hfl hz0
     have hkeep : ∀ w', Below w2.heap.size w2 w' → w'.cell? ⟨w.heap.size, 0, none⟩ = some (.int .i64 a3_0) ∧ w'.cell? ⟨w.heap.size, 1, none⟩ = some (.slice A3_1 l3_1.length c3_1) := fun w' hb =>
      ⟨(hb.cell (World.block_lt_of_cell? w2 _ hcp0)).trans hcp0, (hb.cell (World.block_lt_of_cell? w2 _ hcp1)).trans hcp1⟩
     have Hkeep := Aside0.mk hkeep
     clear hkeep
     by_cases hvv : a3_0 = valP l1 l2
     ·have hd4 : (a3_0 != valP l1 l2) = false := by simpa using hvv
      have hres : checkP a0 l1 l2 a3_0 l3_1 = if (rootP a0 l1 a3_0 l3_1).1 = true ∧ (rootP a0 l1 a3_0 l3_1).2.all id = true then 0 else 20 := by
       unfold checkP
       rw [if_neg (by rw [Hz.out]; simp), if_neg (by rw [Hfe.out]; simp), if_neg Hbig.out, if_neg (by
        rintro (h | h)
        ·exact Hz0.out h
        ·exact h hvv)]
      have Hres := Aside0.mk hres
      clear hvv hres
      generalize valP l1 l2 = vv at *
      go_upto_region 8 with (fail)
      refine wp_region_held_drew (S := fun w' => w'.cell? ⟨w.heap.size, 0, none⟩ = some (.int .i64 a3_0) ∧ w'.cell? ⟨w.heap.size, 1, none⟩ = some (.slice A3_1 l3_1.length c3_1)) (by kernel_rfl) (Hkeep.out w2.drew (below_drew0 w2)) ?_
      intro hS0
      refine wpAnyH_take (i := 0) (v := ?_) rfl (by kernel_rfl) (by kernel_rfl) (by kernel_rfl) (fun _ _ _ h => h) (Or.inl ⟨by rfl, ?_⟩) (by assumption) ?_
      rotate_left
      ·(intro w_ hSw_; (try dsimp only at hSw_); go_simp; try with_reducible rfl)
      try simp only [Act.put, List.getElem_toArray, List.getElem_cons_zero, List.getElem_cons_succ, List.setIfInBounds_toArray, List.set_cons_zero, List.set_cons_succ]
      refine wpAnyH_take (i := 1) (v := ?_) rfl (by kernel_rfl) (by kernel_rfl) (by kernel_rfl) (fun _ _ _ h => h) (Or.inl ⟨by rfl, ?_⟩) (by assumption) ?_
      rotate_left
      ·(intro w_ hSw_; (try dsimp only at hSw_); go_simp; try with_reducible rfl)
      try simp only [Act.put, List.getElem_toArray, List.getElem_cons_zero, List.getElem_cons_succ, List.setIfInBounds_toArray, List.set_cons_zero, List.set_cons_succ]
      refine wpAnyH_take (i := 2) (v := ?_) rfl (by kernel_rfl) (by kernel_rfl) (by kernel_rfl) (fun _ _ _ h => h) (Or.inl ⟨by rfl, ?_⟩) (by assumption) ?_
      rotate_left
      ·(intro w_ hSw_; (try dsimp only at hSw_); go_simp; try with_reducible rfl)
      try simp only [Act.put, List.getElem_toArray, List.getElem_cons_zero, List.getElem_cons_succ, List.setIfInBounds_toArray, List.set_cons_zero, List.set_cons_succ]
      refine wpAnyH_take (i := 3) (v := ?_) rfl (by kernel_rfl) (by kernel_rfl) (by kernel_rfl) (fun _ _ _ h => h) (Or.inl ⟨by rfl, ?_⟩) (by assumption) ?_
      rotate_left
      ·(intro w_ hSw_; (try dsimp only at hSw_); go_simp; try with_reducible rfl)
      try simp only [Act.put, List.getElem_toArray, List.getElem_cons_zero, List.getElem_cons_succ, List.setIfInBounds_toArray, List.set_cons_zero, List.set_cons_succ]
      refine wpAnyH_take (i := 4) (v := ?_) rfl (by kernel_rfl) (by kernel_rfl) (by kernel_rfl) (fun _ _ _ h => h) (Or.inl ⟨by rfl, ?_⟩) (by assumption) ?_
      rotate_left
      ·(intro w_ hSw_; (try dsimp only at hSw_); go_simp; try with_reducible rfl)
      try simp only [Act.put, List.getElem_toArray, List.getElem_cons_zero, List.getElem_cons_succ, List.setIfInBounds_toArray, List.set_cons_zero, List.set_cons_succ]
      refine wpAnyH_take (i := 5) (v := ?_) rfl (by kernel_rfl) (by kernel_rfl) (by kernel_rfl) (fun _ _ _ h => h) (Or.inl ⟨by rfl, ?_⟩) (by assumption) ?_
      rotate_left
      ·(intro w_ hSw_; (try dsimp only at hSw_); go_simp; try with_reducible rfl)
      try simp only [Act.put, List.getElem_toArray, List.getElem_cons_zero, List.getElem_cons_succ, List.setIfInBounds_toArray, List.set_cons_zero, List.set_cons_succ]
      refine wpAnyH_take (i := 6) (v := ?_) rfl (by kernel_rfl) (by kernel_rfl) (by kernel_rfl) (fun _ _ _ h => h) (Or.inl ⟨by rfl, ?_⟩) (by assumption) ?_
      rotate_left
      ·(intro w_ hSw_; (try dsimp only at hSw_); go_simp; try with_reducible rfl)
      try simp only [Act.put, List.getElem_toArray, List.getElem_cons_zero, List.getElem_cons_succ, List.setIfInBounds_toArray, List.set_cons_zero, List.set_cons_succ]
      refine wpAnyH_take (i := 7) (v := ?_) rfl (by kernel_rfl) (by kernel_rfl) (by kernel_rfl) (fun _ _ _ h => h) (Or.inl ⟨by rfl, ?_⟩) (by assumption) ?_
      rotate_left
      ·(intro w_ hSw_; (try dsimp only at hSw_); go_simp; try with_reducible rfl)
      try simp only [Act.put, List.getElem_toArray, List.getElem_cons_zero, List.getElem_cons_succ, List.setIfInBounds_toArray, List.set_cons_zero, List.set_cons_succ]
      refine wpAnyH_take (i := 8) (v := ?_) rfl (by kernel_rfl) (by kernel_rfl) (by kernel_rfl) (fun _ _ _ h => h) (Or.inl ⟨by rfl, ?_⟩) (by assumption) ?_
      rotate_left
      ·(intro w_ hSw_; (try dsimp only at hSw_); go_simp; try with_reducible rfl)
      try simp only [Act.put, List.getElem_toArray, List.getElem_cons_zero, List.getElem_cons_succ, List.setIfInBounds_toArray, List.set_cons_zero, List.set_cons_succ]
      refine wpAnyH_ready (rs := [9]) (by kernel_rfl) (by simp) ?_
      refine AllReadyH.cons rfl (fun K hK => ?_) AllReadyH.nil
      go_simp
      refine Hva.out.mono ?_
      rintro e w3 ⟨rfl, hd_⟩
      have hb3 := hd_.below
      refine hK.out _ _ (Hkeep.out w3 ⟨hb3.os, hb3.tape, hb3.output, hb3.size, hb3.block⟩) (fun hSn_ => ?_)
      clear hK K
      try simp only [Act.put, List.getElem_toArray, List.getElem_cons_zero, List.getElem_cons_succ, List.setIfInBounds_toArray, List.set_cons_zero, List.set_cons_succ]
      refine wpAnyH_take (i := 10) (v := ?_) rfl (by kernel_rfl) (by kernel_rfl) (by kernel_rfl) (fun _ _ _ h => h) (Or.inl ⟨by rfl, ?_⟩) (by assumption) ?_
      rotate_left
      ·(intro w_ hSw_; (try dsimp only at hSw_); go_simp; try with_reducible rfl)
      try simp only [Act.put, List.getElem_toArray, List.getElem_cons_zero, List.getElem_cons_succ, List.setIfInBounds_toArray, List.set_cons_zero, List.set_cons_succ]
      refine wpAnyH_take (i := 11) (v := ?_) rfl (by kernel_rfl) (by kernel_rfl) (by kernel_rfl) (fun _ _ _ h => h) (Or.inl ⟨by rfl, ?_⟩) (by assumption) ?_
      rotate_left
      ·(intro w_ hSw_; (try dsimp only at hSw_); go_simp; try with_reducible rfl)
      try simp only [Act.put, List.getElem_toArray, List.getElem_cons_zero, List.getElem_cons_succ, List.setIfInBounds_toArray, List.set_cons_zero, List.set_cons_succ]
      refine wpAnyH_take (i := 12) (v := ?_) rfl (by kernel_rfl) (by kernel_rfl) (by kernel_rfl) (fun _ _ _ h => h) (Or.inl ⟨by rfl, ?_⟩) (by assumption) ?_
      rotate_left
      ·(intro w_ hSw_; (try dsimp only at hSw_); go_simp; try with_reducible rfl)
      try simp only [Act.put, List.getElem_toArray, List.getElem_cons_zero, List.getElem_cons_succ, List.setIfInBounds_toArray, List.set_cons_zero, List.set_cons_succ]
      refine wpAnyH_done (by kernel_rfl) ?_ _
      have hb3' : Below w2.heap.size w2 w3 := ⟨hb3.os, hb3.tape, hb3.output, hb3.size, hb3.block⟩
      have hW3 : Below w.heap.size w w3 := HW2.out.trans (hb3'.mono HW2.out.size)
      have hP3 := (hb3'.block _ (Array.getElem?_eq_some_iff.1 HP2.out).1).trans HP2.out
      clear hb3 hb3' hd_ hSn_ hS0 Hva Hkeep HW2 HP2 hcp0 hcp1
      have hcp0 : w3.cell? ⟨w.heap.size, 0, none⟩ = some (.int .i64 a3_0) := (blk_cell hP3 0).trans rfl
      have hcp1 : w3.cell? ⟨w.heap.size, 1, none⟩ = some (.slice A3_1 l3_1.length c3_1) := (blk_cell hP3 1).trans rfl
      have hal : ∀ (w : World) (o : Obj) (p : Addr) (v : Value), w.cell? p = some v → (w.alloc o).cell? p = some v := fun w o p v hp => (((Below.refl _ w).alloc (Nat.le_refl _) o).cell (p := p) (World.block_lt_of_cell? w _ hp)).trans hp
      have k0 := fun o => hal w3 o _ _ hcp0
      have k1 := fun o => hal w3 o _ _ hcp1
      have hmk := print_make_of (P := Try.prog) 91 4 (.bool false) 1 Try.underlying91 infoBo rfl (by decide) l3_1.length (by have := Hbig.out; omega)
      have HW3 := Aside0.mk hW3
      clear hal hP3 hW3
      go_upto_region 10 with (fail)
      go_region
      obtain ⟨W5, hW5⟩ : ∃ W5, W5 = ((w3.alloc (.cells (madeCells #[.bool false] l3_1.length) 4)).alloc (.cells #[.int .i64 a0, .slice A1 l1.length c1, .int .i64 a3_0, .slice A3_1 l3_1.length c3_1, .slice (some ⟨w3.heap.size, 0, none⟩) l3_1.length l3_1.length] 93)).drew := ⟨_, rfl⟩
      rw [← hW5]
      obtain ⟨s, hs⟩ : ∃ s : PCx, s = ⟨w, w3.heap.size + 1, w3.heap.size, a0, A1, c1, l1, a3_0, A3_1, c3_1, l3_1⟩ := ⟨_, rfl⟩
      have hb5 : Below w3.heap.size w3 W5 := by
       rw [hW5]
       exact below_drew (((Below.refl _ w3).alloc (Nat.le_refl _) _).alloc (by simp) _)
      have hSt : NSt s W5 (List.replicate l3_1.length false) := by
       rw [hs]
       refine ⟨HW3.out.trans (hb5.mono HW3.out.size), ?_, ?_⟩
       ·show W5.heap[w3.heap.size + 1]? = _
        have h_ := heap_alloc_new (w3.alloc (.cells (madeCells #[.bool false] l3_1.length) 4)) (.cells #[.int .i64 a0, .slice A1 l1.length c1, .int .i64 a3_0, .slice A3_1 l3_1.length c3_1, .slice (some ⟨w3.heap.size, 0, none⟩) l3_1.length l3_1.length] 93)
        rw [World.size_alloc] at h_
        rw [hW5]
        exact h_
       ·show W5.heap[w3.heap.size]? = _
        rw [← made_boolsC, hW5]
        exact (Below.heap_alloc _ _ _ (by simp)).trans (heap_alloc_new w3 _)
      have hok : POk s := by
       rw [hs]
       exact ⟨Hr1.out, Hr3.out, hl10, ⟨hn1, hn2⟩, Hbb.out, by have := Hbig.out; show l3_1.length ≤ 2047; omega, Nat.le_succ_of_le HW3.out.size, HW3.out.size, Nat.succ_ne_self _⟩
      have hmk2 := print_make (P := Try.prog) 22 3 .i64 8 Try.underlying22 infoW (by decide) l1.length (by omega)
      rw [made_zerosW] at hmk2
      obtain ⟨W6, hW6⟩ : ∃ W6, W6 = W5.alloc (.cells (List.replicate l1.length (Value.int .i64 0)).toArray 3) := ⟨_, rfl⟩
      have hmk3 := hmk2 W5
      rw [← hW6] at hmk3
      have hb6 : Below W5.heap.size W5 W6 := by rw [hW6]; exact (Below.refl _ W5).alloc (Nat.le_refl _) _
      have hD6 : W6.heap[W5.heap.size]? = some (.cells ((List.replicate l1.length (0 : Int)).map (Value.int .i64)).toArray 3 (0, 0)) := by
       rw [hW6, List.map_replicate]
       exact heap_alloc_new W5 _
      have hsb5 := (Array.getElem?_eq_some_iff.1 hSt.hS).1
      have hn := node_calls s hok l3_1.length 0 (List.replicate l1.length 0) W5.heap.size (List.replicate l3_1.length false) W6 (by have := Hz0.out; rw [hs]; show 0 < l3_1.length; omega) (by rw [hs]; show l3_1.length ≤ 0 + l3_1.length; omega) (by rw [hs, List.length_replicate]) (by rw [hs, List.length_replicate]) (hSt.step hb6) hD6 (by omega)
      rw [List.length_replicate, show ((0 : Nat) : Int) = 0 from rfl] at hn
      have hroot : nodeP s.n s.l s.v s.nodes l3_1.length 0 (List.replicate l1.length 0) (List.replicate l3_1.length false) = rootP a0 l1 a3_0 l3_1 := by rw [hs]; rfl
      rw [hroot] at hn
      have hrl : (rootP a0 l1 a3_0 l3_1).2.length = l3_1.length := by unfold rootP; rw [nodeP_len, List.length_replicate]
      have hcb : s.cb = w3.heap.size + 1 := by rw [hs]
      have hsbs : s.sb = w3.heap.size := by rw [hs]
      have hsn : s.nodes.length = l3_1.length := by rw [hs]
      have hsw : s.w0 = w := by rw [hs]
      rw [hcb] at hn
      have Hn := Aside0.mk hn
      have Hrl := Aside0.mk hrl
      have Hcb := Aside0.mk hcb
      have Hsbs := Aside0.mk hsbs
      have Hsn := Aside0.mk hsn
      have Hsw := Aside0.mk hsw
      clear hW5 hs hb5 hSt hok hmk hmk2 hW6 hb6 hD6 hsb5 hn hroot hrl hcb hsbs hsn hsw k0 k1 hcp0 hcp1 HW3 hd1 hd2 hd3 hd4
      generalize rootP a0 l1 a3_0 l3_1 = rt at *
      go_wp2_with fail
      refine Hn.out.mono ?_
      rintro e w7 ⟨rfl, hS7, hT7⟩
      have hW7 : Below w.heap.size w w7 := by have := hS7.below; rwa [Hsw.out] at this
      cases hr1 : rt.1
      ·have hfin : checkP a0 l1 l2 a3_0 l3_1 = 20 := by rw [Hres.out, hr1, if_neg (by simp)]
       have Hfin := Aside0.mk hfin
       clear hfin hS7 hT7 hr1 Hn
       go_wp2
       go_ret
       exact ⟨by rw [Hfin.out]; rfl, hW7⟩
      ·have hc4 : w7.cell? ⟨w3.heap.size + 1, 4, none⟩ = some (.slice (some ⟨w3.heap.size, 0, none⟩) l3_1.length l3_1.length) := by
        have h := hS7.hC
        rw [Hcb.out, Hsbs.out, Hsn.out] at h
        exact (blk_cell h 4).trans rfl
       have hcn := containsB_calls w3.heap.size rt.2 l3_1.length w7 (by have h := hS7.hS; rwa [Hsbs.out] at h) (by rw [Hrl.out]; have := Hbig.out; omega)
       rw [Hrl.out] at hcn
       have Hcn := Aside0.mk hcn
       have Hr1' := Aside0.mk hr1
       clear hS7 hT7 hcn hr1 Hn
       cases hall : rt.2.all id
       ·rw [hall] at Hcn
        have hfin : checkP a0 l1 l2 a3_0 l3_1 = 20 := by rw [Hres.out, hall, if_neg (by simp)]
        have Hfin := Aside0.mk hfin
        clear hfin hall
        go_wp2_with fail
        refine Hcn.out.mono ?_
        rintro e w8 ⟨rfl, hb8⟩
        have hW8 := hW7.trans (hb8.mono hW7.size)
        clear hb8 Hcn
        go_wp2
        go_ret
        exact ⟨by rw [Hfin.out]; rfl, hW8⟩
       ·rw [hall] at Hcn
        have hfin : checkP a0 l1 l2 a3_0 l3_1 = 0 := by rw [Hres.out, hall, Hr1'.out, if_pos ⟨rfl, rfl⟩]
        have Hfin := Aside0.mk hfin
        clear hfin hall
        go_wp2_with fail
        refine Hcn.out.mono ?_
        rintro e w8 ⟨rfl, hb8⟩
        have hW8 := hW7.trans (hb8.mono hW7.size)
        clear hb8 Hcn
        go_wp2
        go_ret
        exact ⟨by rw [Hfin.out]; rfl, hW8⟩
     ·have hres : checkP a0 l1 l2 a3_0 l3_1 = 20 := by unfold checkP; rw [if_neg (by rw [Hz.out]; simp), if_neg (by rw [Hfe.out]; simp), if_neg Hbig.out, if_pos (.inr hvv)]
      have Hres := Aside0.mk hres
      have hd4 : (a3_0 != valP l1 l2) = true := by simpa using hvv
      clear hres hvv
      generalize valP l1 l2 = vv at *
      go_upto_region 8 with (fail)
      refine wp_region_held_drew (S := fun w' => w'.cell? ⟨w.heap.size, 0, none⟩ = some (.int .i64 a3_0) ∧ w'.cell? ⟨w.heap.size, 1, none⟩ = some (.slice A3_1 l3_1.length c3_1)) (by kernel_rfl) (Hkeep.out w2.drew (below_drew0 w2)) ?_
      intro hS0
      refine wpAnyH_take (i := 0) (v := ?_) rfl (by kernel_rfl) (by kernel_rfl) (by kernel_rfl) (fun _ _ _ h => h) (Or.inl ⟨by rfl, ?_⟩) (by assumption) ?_
      rotate_left
      ·(intro w_ hSw_; (try dsimp only at hSw_); go_simp; try with_reducible rfl)
      try simp only [Act.put, List.getElem_toArray, List.getElem_cons_zero, List.getElem_cons_succ, List.setIfInBounds_toArray, List.set_cons_zero, List.set_cons_succ]
      refine wpAnyH_take (i := 1) (v := ?_) rfl (by kernel_rfl) (by kernel_rfl) (by kernel_rfl) (fun _ _ _ h => h) (Or.inl ⟨by rfl, ?_⟩) (by assumption) ?_
      rotate_left
      ·(intro w_ hSw_; (try dsimp only at hSw_); go_simp; try with_reducible rfl)
      try simp only [Act.put, List.getElem_toArray, List.getElem_cons_zero, List.getElem_cons_succ, List.setIfInBounds_toArray, List.set_cons_zero, List.set_cons_succ]
      refine wpAnyH_take (i := 2) (v := ?_) rfl (by kernel_rfl) (by kernel_rfl) (by kernel_rfl) (fun _ _ _ h => h) (Or.inl ⟨by rfl, ?_⟩) (by assumption) ?_
      rotate_left
      ·(intro w_ hSw_; (try dsimp only at hSw_); go_simp; try with_reducible rfl)
      try simp only [Act.put, List.getElem_toArray, List.getElem_cons_zero, List.getElem_cons_succ, List.setIfInBounds_toArray, List.set_cons_zero, List.set_cons_succ]
      refine wpAnyH_take (i := 3) (v := ?_) rfl (by kernel_rfl) (by kernel_rfl) (by kernel_rfl) (fun _ _ _ h => h) (Or.inl ⟨by rfl, ?_⟩) (by assumption) ?_
      rotate_left
      ·(intro w_ hSw_; (try dsimp only at hSw_); go_simp; try with_reducible rfl)
      try simp only [Act.put, List.getElem_toArray, List.getElem_cons_zero, List.getElem_cons_succ, List.setIfInBounds_toArray, List.set_cons_zero, List.set_cons_succ]
      refine wpAnyH_take (i := 4) (v := ?_) rfl (by kernel_rfl) (by kernel_rfl) (by kernel_rfl) (fun _ _ _ h => h) (Or.inl ⟨by rfl, ?_⟩) (by assumption) ?_
      rotate_left
      ·(intro w_ hSw_; (try dsimp only at hSw_); go_simp; try with_reducible rfl)
      try simp only [Act.put, List.getElem_toArray, List.getElem_cons_zero, List.getElem_cons_succ, List.setIfInBounds_toArray, List.set_cons_zero, List.set_cons_succ]
      refine wpAnyH_take (i := 5) (v := ?_) rfl (by kernel_rfl) (by kernel_rfl) (by kernel_rfl) (fun _ _ _ h => h) (Or.inl ⟨by rfl, ?_⟩) (by assumption) ?_
      rotate_left
      ·(intro w_ hSw_; (try dsimp only at hSw_); go_simp; try with_reducible rfl)
      try simp only [Act.put, List.getElem_toArray, List.getElem_cons_zero, List.getElem_cons_succ, List.setIfInBounds_toArray, List.set_cons_zero, List.set_cons_succ]
      refine wpAnyH_take (i := 6) (v := ?_) rfl (by kernel_rfl) (by kernel_rfl) (by kernel_rfl) (fun _ _ _ h => h) (Or.inl ⟨by rfl, ?_⟩) (by assumption) ?_
      rotate_left
      ·(intro w_ hSw_; (try dsimp only at hSw_); go_simp; try with_reducible rfl)
      try simp only [Act.put, List.getElem_toArray, List.getElem_cons_zero, List.getElem_cons_succ, List.setIfInBounds_toArray, List.set_cons_zero, List.set_cons_succ]
      refine wpAnyH_take (i := 7) (v := ?_) rfl (by kernel_rfl) (by kernel_rfl) (by kernel_rfl) (fun _ _ _ h => h) (Or.inl ⟨by rfl, ?_⟩) (by assumption) ?_
      rotate_left
      ·(intro w_ hSw_; (try dsimp only at hSw_); go_simp; try with_reducible rfl)
      try simp only [Act.put, List.getElem_toArray, List.getElem_cons_zero, List.getElem_cons_succ, List.setIfInBounds_toArray, List.set_cons_zero, List.set_cons_succ]
      refine wpAnyH_take (i := 8) (v := ?_) rfl (by kernel_rfl) (by kernel_rfl) (by kernel_rfl) (fun _ _ _ h => h) (Or.inl ⟨by rfl, ?_⟩) (by assumption) ?_
      rotate_left
      ·(intro w_ hSw_; (try dsimp only at hSw_); go_simp; try with_reducible rfl)
      try simp only [Act.put, List.getElem_toArray, List.getElem_cons_zero, List.getElem_cons_succ, List.setIfInBounds_toArray, List.set_cons_zero, List.set_cons_succ]
      refine wpAnyH_ready (rs := [9]) (by kernel_rfl) (by simp) ?_
      refine AllReadyH.cons rfl (fun K hK => ?_) AllReadyH.nil
      go_simp
      refine Hva.out.mono ?_
      rintro e w3 ⟨rfl, hd_⟩
      have hb3 := hd_.below
      refine hK.out _ _ (Hkeep.out w3 ⟨hb3.os, hb3.tape, hb3.output, hb3.size, hb3.block⟩) (fun hSn_ => ?_)
      clear hK K
      try simp only [Act.put, List.getElem_toArray, List.getElem_cons_zero, List.getElem_cons_succ, List.setIfInBounds_toArray, List.set_cons_zero, List.set_cons_succ]
      refine wpAnyH_take (i := 10) (v := ?_) rfl (by kernel_rfl) (by kernel_rfl) (by kernel_rfl) (fun _ _ _ h => h) (Or.inl ⟨by rfl, ?_⟩) (by assumption) ?_
      rotate_left
      ·(intro w_ hSw_; (try dsimp only at hSw_); go_simp; try with_reducible rfl)
      try simp only [Act.put, List.getElem_toArray, List.getElem_cons_zero, List.getElem_cons_succ, List.setIfInBounds_toArray, List.set_cons_zero, List.set_cons_succ]
      refine wpAnyH_take (i := 11) (v := ?_) rfl (by kernel_rfl) (by kernel_rfl) (by kernel_rfl) (fun _ _ _ h => h) (Or.inl ⟨by rfl, ?_⟩) (by assumption) ?_
      rotate_left
      ·(intro w_ hSw_; (try dsimp only at hSw_); go_simp; try with_reducible rfl)
      try simp only [Act.put, List.getElem_toArray, List.getElem_cons_zero, List.getElem_cons_succ, List.setIfInBounds_toArray, List.set_cons_zero, List.set_cons_succ]
      refine wpAnyH_take (i := 12) (v := ?_) rfl (by kernel_rfl) (by kernel_rfl) (by kernel_rfl) (fun _ _ _ h => h) (Or.inl ⟨by rfl, ?_⟩) (by assumption) ?_
      rotate_left
      ·(intro w_ hSw_; (try dsimp only at hSw_); go_simp; try with_reducible rfl)
      try simp only [Act.put, List.getElem_toArray, List.getElem_cons_zero, List.getElem_cons_succ, List.setIfInBounds_toArray, List.set_cons_zero, List.set_cons_succ]
      refine wpAnyH_done (by kernel_rfl) ?_ _
      have hW3 : Below w.heap.size w w3 := HW2.out.trans (Below.mono (w := w2) ⟨hb3.os, hb3.tape, hb3.output, hb3.size, hb3.block⟩ HW2.out.size)
      go_wp2
      go_ret
      exact ⟨by rw [Hres.out]; rfl, hW3⟩
 ·have hres : checkP a0 l1 l2 a3_0 l3_1 = validP a0 l1 := by unfold checkP; rw [if_pos hz]
  rw [hres]
  generalize validP a0 l1 = z at *
  have hz' : (z != 0) = true := by simpa using hz
  clear hz hres
  go_enter Try.func18, Try.ntmps18
  go_upto_region 1 with (fail)
  rw [← hwA]
  clear hwA
  go_wp2_with fail
  refine Hv.out.mono ?_
  rintro e w1 ⟨rfl, hb1⟩
  have hW1 := HbA.out.trans (hb1.mono HbA.out.size)
  clear hb1 Hv
  go_wp2
  go_ret
  exact ⟨rfl, hW1⟩
def worldmintlaw29_lives.f : Option Bool := some true
def livesB : List S82 := [⟨1, 6, [0, 1]⟩, ⟨2, 4, [0]⟩, ⟨3, 4, [1]⟩]
def alls (w : World) (os : List Obj) : World := os.foldl (fun w o => w.alloc o) w
theorem alls_size : ∀ (os : List Obj) (w : World), (alls w os).heap.size = w.heap.size + os.length
 | [], _ => rfl
 | o :: os, w => by
  have h := alls_size os (w.alloc o)
  rw [World.size_alloc] at h
  show (alls (w.alloc o) os).heap.size = _
  rw [h, List.length_cons]; omega
theorem alls_below : ∀ (os : List Obj) (w : World), Below w.heap.size w (alls w os)
 | [], w => Below.refl _ w
 | o :: os, w => by
  have h := alls_below os (w.alloc o)
  exact ((Below.refl _ w).alloc (Nat.le_refl _) o).trans (h.mono (by rw [World.size_alloc]; omega))
theorem alls_at : ∀ (os : List Obj) (w : World) (k : Nat) (o : Obj), os[k]? = some o → (alls w os).heap[w.heap.size + k]? = some o
 | [], _, _, _, h => by simp at h
 | x :: os, w, 0, o, h => by
  simp only [List.getElem?_cons_zero, Option.some.injEq] at h
  subst h
  have hb := alls_below os (w.alloc x)
  exact (hb.block _ (by rw [World.size_alloc]; omega)).trans (heap_alloc_new w x)
 | x :: os, w, k + 1, o, h => by
  simp only [List.getElem?_cons_succ] at h
  have h2 := alls_at os (w.alloc x) k o h
  rw [World.size_alloc] at h2
  rw [show w.heap.size + (k + 1) = w.heap.size + 1 + k by omega]
  exact h2
theorem C_lit {α : Type} (d : Kd α) {W : World} {b : Nat} {inner : List Value} {t : TypeId} {xs : List α} (h : W.heap[b]? = some (.cells inner.toArray t (0, 0))) (hr : Reps (d.K W) d.sz xs inner) (hn : xs.length ≤ 1000000) : d.C W (some ⟨b, 0, none⟩) xs.length xs := by
 refine ⟨rfl, by omega, fun _ => ⟨_, rfl, fun j p hj => ?_⟩⟩
 have hjl := (List.getElem?_eq_some_iff.1 hj).1
 refine ⟨(inner.drop (j * d.sz)).take d.sz, ?_, hr.2 j p hj, fun i u hi => ?_⟩
 ·rw [List.length_take, List.length_drop, hr.1]
  have : (j + 1) * d.sz ≤ xs.length * d.sz := Nat.mul_le_mul_right _ hjl
  rw [Nat.add_mul, Nat.one_mul] at this
  omega
 ·rw [show (⟨b, 0, none⟩ : Addr).add (j * d.sz + i) = ⟨b, j * d.sz + i, none⟩ by unfold Addr.add; split <;> simp_all]
  refine (blk_cell h _).trans ?_
  have hil : i < d.sz := by
   have := (List.getElem?_eq_some_iff.1 hi).1
   rw [List.length_take] at this
   omega
  rw [List.getElem?_take, if_pos hil, List.getElem?_drop] at hi
  rw [List.getElem?_toArray]
  exact hi
set_option maxHeartbeats 2000000 in
set_option maxRecDepth 100000 in
theorem worldmintlaw29_lives.calls (r : Bool) (w : World) (h : worldmintlaw29_lives.f = some r) : Calls Try.prog 22 #[] w fun e w' => e = .returned (.bool r) ∧ Below w.heap.size w w' := by
 obtain rfl := Option.some.inj h
 obtain ⟨n, hn⟩ : ∃ n, n = w.heap.size := ⟨_, rfl⟩
 obtain ⟨os, hos⟩ : ∃ os : List Obj, os = [.cells #[.int .i64 0, .int .i64 1] 3, .cells #[.int .i64 0] 3, .cells #[.int .i64 1] 3,
  .cells #[.int .i64 1, .int .i64 6, .slice (some ⟨n, 0, none⟩) 2 2, .int .i64 2, .int .i64 4, .slice (some ⟨n + 1, 0, none⟩) 1 1, .int .i64 3, .int .i64 4, .slice (some ⟨n + 2, 0, none⟩) 1 1] 82,
  .cells #[.int .i64 3, .int .i64 3] 3, .cells #[.int .i64 (-1), .int .i64 0, .int .i64 0, .slice (some ⟨n + 4, 0, none⟩) 2 2] 55, .cells #[.int .i64 8, .slice (some ⟨n + 5, 0, none⟩) 1 1] 44,
  .cells #[.int .i64 0, .int .i64 0] 3, .cells #[.int .i64 (-1), .int .i64 0, .int .i64 0, .slice (some ⟨n + 7, 0, none⟩) 2 2] 55, .cells #[.int .i64 8, .slice (some ⟨n + 8, 0, none⟩) 1 1] 44] := ⟨_, rfl⟩
 obtain ⟨W, hW⟩ : ∃ W, W = alls w os := ⟨_, rfl⟩
 have hB : Below n w W := by rw [hW, hn]; exact alls_below os w
 have hat : ∀ k o, os[k]? = some o → W.heap[n + k]? = some o := fun k o h => by rw [hW, hn]; exact alls_at os w k o h
 have hsz : W.heap.size = n + 10 := by rw [hW, alls_size, hn, hos]; rfl
 have h0 : Kd.C (Kd.int .i64) W (some ⟨n, 0, none⟩) 2 [0, 1] := C_blk (xs := [0, 1]) (hat 0 _ (by rw [hos]; rfl)) (by decide)
 have h1 : Kd.C (Kd.int .i64) W (some ⟨n + 1, 0, none⟩) 1 [0] := C_blk (xs := [0]) (hat 1 _ (by rw [hos]; rfl)) (by decide)
 have h2 : Kd.C (Kd.int .i64) W (some ⟨n + 2, 0, none⟩) 1 [1] := C_blk (xs := [1]) (hat 2 _ (by rw [hos]; rfl)) (by decide)
 have h4 : Kd.C (Kd.int .i64) W (some ⟨n + 4, 0, none⟩) 2 [3, 3] := C_blk (xs := [3, 3]) (hat 4 _ (by rw [hos]; rfl)) (by decide)
 have h7 : Kd.C (Kd.int .i64) W (some ⟨n + 7, 0, none⟩) 2 [0, 0] := C_blk (xs := [0, 0]) (hat 7 _ (by rw [hos]; rfl)) (by decide)
 have hb : Kd.C k82 W (some ⟨n + 3, 0, none⟩) 3 livesB := C_lit k82 (xs := livesB) (inner := [.int .i64 1, .int .i64 6, .slice (some ⟨n, 0, none⟩) 2 2, .int .i64 2, .int .i64 4, .slice (some ⟨n + 1, 0, none⟩) 1 1, .int .i64 3, .int .i64 4, .slice (some ⟨n + 2, 0, none⟩) 1 1]) (hat 3 _ (by rw [hos]; rfl))
  (Reps.c3 (k82_mk W ⟨1, 6, [0, 1]⟩ (Nat.le_refl _) h0) (Reps.c3 (k82_mk W ⟨2, 4, [0]⟩ (Nat.le_refl _) h1) (Reps.c3 (k82_mk W ⟨3, 4, [1]⟩ (Nat.le_refl _) h2) (Reps.none _ _)))) (by decide)
 have hp : Kd.C k55 W (some ⟨n + 5, 0, none⟩) 1 [⟨-1, 0, 0, [3, 3]⟩] := C_lit k55 (xs := [⟨-1, 0, 0, [3, 3]⟩]) (inner := [.int .i64 (-1), .int .i64 0, .int .i64 0, .slice (some ⟨n + 4, 0, none⟩) 2 2]) (hat 5 _ (by rw [hos]; rfl)) (Reps.c4 (k55_mk W ⟨-1, 0, 0, [3, 3]⟩ (Nat.le_refl _) h4) (Reps.none _ _)) (by decide)
 have hq : Kd.C k55 W (some ⟨n + 8, 0, none⟩) 1 [⟨-1, 0, 0, [0, 0]⟩] := C_lit k55 (xs := [⟨-1, 0, 0, [0, 0]⟩]) (inner := [.int .i64 (-1), .int .i64 0, .int .i64 0, .slice (some ⟨n + 7, 0, none⟩) 2 2]) (hat 8 _ (by rw [hos]; rfl)) (Reps.c4 (k55_mk W ⟨-1, 0, 0, [0, 0]⟩ (Nat.le_refl _) h7) (Reps.none _ _)) (by decide)
 have hb6 := hat 6 _ (show os[6]? = _ by rw [hos]; rfl)
 have hb9 := hat 9 _ (show os[9]? = _ by rw [hos]; rfl)
 have hcells : ∀ W', Below W.heap.size W W' → W'.cell? ⟨n + 6, 0, none⟩ = some (.int .i64 8) ∧ W'.cell? ⟨n + 6, 1, none⟩ = some (.slice (some ⟨n + 5, 0, none⟩) 1 1) ∧ W'.cell? ⟨n + 9, 0, none⟩ = some (.int .i64 8) ∧ W'.cell? ⟨n + 9, 1, none⟩ = some (.slice (some ⟨n + 8, 0, none⟩) 1 1) := fun W' hW' => by
  have g6 := (hW'.block _ (by omega)).trans hb6
  have g9 := (hW'.block _ (by omega)).trans hb9
  exact ⟨(blk_cell g6 0).trans rfl, (blk_cell g6 1).trans rfl, (blk_cell g9 0).trans rfl, (blk_cell g9 1).trans rfl⟩
 have hcall : ∀ (V : World), Below W.heap.size W V → ∀ (a b : Int) (P : S55) (x : Nat), Kd.C k55 W (some ⟨x, 0, none⟩) 1 [P] → ∀ z : Int, checkP 2 livesB [a, b] 8 [P] = z →
   Calls Try.prog 18 #[.int .i64 2, .slice (some ⟨n + 3, 0, none⟩) 3 3, .slice (some ⟨V.heap.size, 0, none⟩) 2 2, .agg #[.int .i64 8, .slice (some ⟨x, 0, none⟩) 1 1]] (V.alloc (.cells #[.int .i64 a, .int .i64 b] 3)) fun e w' => e = .returned (.int .i64 z) ∧ Below (V.alloc (.cells #[.int .i64 a, .int .i64 b] 3)).heap.size (V.alloc (.cells #[.int .i64 a, .int .i64 b] 3)) w' := fun V hV a b P x hP z hz =>
  proof_Check.calls 2 (some ⟨n + 3, 0, none⟩) 3 livesB (some ⟨V.heap.size, 0, none⟩) 2 [a, b] 8 (some ⟨x, 0, none⟩) 1 [P] z (V.alloc (.cells #[.int .i64 a, .int .i64 b] 3)) (Kd.C_alloc (Kd.C_below hb hV) _) (Nat.le_refl _) (C_blk (xs := [a, b]) (heap_alloc_new V _) (by show 2 ≤ _; omega)) (Nat.le_refl _) (Kd.C_alloc (Kd.C_below hP hV) _) (Nat.le_refl _) (by unfold proof_Check.f; rw [hz])
 have Hcall := Aside0.mk hcall
 have Hcells := Aside0.mk hcells
 have HB := Aside0.mk hB
 have Hp := Aside0.mk hp
 have Hq := Aside0.mk hq
 clear h0 h1 h2 h4 h7 hb hb6 hb9 hcells hcall hat hB hp hq
 go_enter Try.func22, Try.ntmps22
 go_upto_region 4 with (fail)
 generalize hX : World.alloc _ _ = X
 have hXW : X = W := by rw [← hX, hW, hos, hn]; rfl
 subst hXW
 rw [← hn]
 simp only [Nat.add_assoc, Nat.reduceAdd]
 have Hn := Aside0.mk hn
 clear hn hsz hX hW hos
 obtain ⟨z0, z1, _⟩ := Hcells.out X (Below.refl _ _)
 have hal : ∀ (o : Obj) (V : World), Below X.heap.size X V → Below X.heap.size X (V.alloc o) := fun o V hV => hV.alloc hV.size o
 have c1 := Hcall.out X (Below.refl _ _) 1 2 ⟨-1, 0, 0, [3, 3]⟩ (n + 5) Hp.out 0 (by kernel_rfl)
 obtain ⟨y0, y1, _⟩ := Hcells.out (X.alloc (.cells #[.int .i64 1, .int .i64 2] 3)) (hal _ _ (Below.refl _ _))
 have C1 := Aside0.mk c1
 clear c1
 go_wp2_with fail
 refine C1.out.mono ?_
 rintro e w1 ⟨rfl, hb1⟩
 have hB1 : Below X.heap.size X w1 := (hal _ _ (Below.refl _ _)).trans (hb1.mono (by rw [World.size_alloc]; omega))
 have c2 := Hcall.out w1 hB1 1 2 ⟨-1, 0, 0, [0, 0]⟩ (n + 8) Hq.out 20 (by kernel_rfl)
 have C2 := Aside0.mk c2
 clear y0 y1 c2 hb1 z0 z1 C1
 obtain ⟨_, _, y0, y1⟩ := Hcells.out (w1.alloc (.cells #[.int .i64 1, .int .i64 2] 3)) (hal _ _ hB1)
 go_wp2_with fail
 refine C2.out.mono ?_
 rintro e w2 ⟨rfl, hb2⟩
 have hB2 : Below X.heap.size X w2 := (hal _ _ hB1).trans (hb2.mono (by rw [World.size_alloc]; have := hB1.size; omega))
 have c3 := Hcall.out w2 hB2 0 1 ⟨-1, 0, 0, [3, 3]⟩ (n + 5) Hp.out 1 (by kernel_rfl)
 have C3 := Aside0.mk c3
 clear y0 y1 c3 hb2 hB1 C2
 obtain ⟨y0, y1, _⟩ := Hcells.out (w2.alloc (.cells #[.int .i64 0, .int .i64 1] 3)) (hal _ _ hB2)
 go_wp2_with fail
 refine C3.out.mono ?_
 rintro e w3 ⟨rfl, hb3⟩
 have hB3 : Below X.heap.size X w3 := (hal _ _ hB2).trans (hb3.mono (by rw [World.size_alloc]; have := hB2.size; omega))
 clear y0 y1 hb3 hB2 C3
 obtain ⟨y0, y1, _⟩ := Hcells.out w3 hB3
 have c4 := proof_Size.calls 8 (some ⟨n + 5, 0, none⟩) 1 [⟨-1, 0, 0, [3, 3]⟩] 1 w3 (Kd.C_below Hp.out hB3) (Nat.le_refl _) rfl
 have C4 := Aside0.mk c4
 clear c4
 go_wp2_with fail
 refine C4.out.mono ?_
 rintro e w4 ⟨rfl, hd4⟩
 have hB4 := hd4
 have hnX : n ≤ X.heap.size := by rw [Hn.out]; exact HB.out.size
 have hfin : Below w.heap.size w w4 := by
  rw [← Hn.out]
  exact HB.out.trans ((hB3.mono hnX).trans (hB4.mono (Nat.le_trans hnX hB3.size)))
 clear hd4 hB4 C4 hB3 y0 y1
 go_wp2
 go_ret
 exact ⟨rfl, hfin⟩
end Go.Proofs.Ytdamibblnjeooaa.H

/- The checker's walk over a certificate: each node once, against the count of parents. Plain. -/
namespace Go.Proofs.Ytdamibblnjeooaa.H
open Go.RowKit
set_option linter.unusedVariables false
set_option linter.unusedSimpArgs false
section
variable (n : Int) (l : List S82) (v : Int) (nodes : List S55)
def stepR (go : Nat → List Int → Bool) (len i : Nat) (dec : List Int) (b : Nat) (k d : Int) : Bool := if (i : Int) < k ∧ k < len then go k.toNat (dec.set b d) else false
def stepV (go : Nat → List Nat) (len i : Nat) (k : Int) : List Nat := if (i : Int) < k ∧ k < len then go k.toNat else []
/-- Is the certificate right from node i on? -/
def rightP : Nat → Nat → List Int → Bool
 | 0, _, _ => false
 | f + 1, i, dec =>
  if (nodes.getD i z55).f0 = -1 then leafP n l v dec (nodes.getD i z55) else
  if (nodes.getD i z55).f0 < 0 ∨ (l.length : Int) ≤ (nodes.getD i z55).f0 ∨ possP l dec (nodes.getD i z55).f0.toNat = false ∨ 0 < (nodes.getD i z55).f3.length then false else
  stepR (rightP f) nodes.length i dec (nodes.getD i z55).f0.toNat (nodes.getD i z55).f1 1 && stepR (rightP f) nodes.length i dec (nodes.getD i z55).f0.toNat (nodes.getD i z55).f2 2
/-- The nodes that are met from node i on. -/
def visP : Nat → Nat → List Nat
 | 0, _ => []
 | f + 1, i => i :: (if (nodes.getD i z55).f0 = -1 then [] else stepV (visP f) nodes.length i (nodes.getD i z55).f1 ++ stepV (visP f) nodes.length i (nodes.getD i z55).f2)
end
section
variable {n : Int} {l : List S82} {v : Int} {nodes : List S55}
theorem getD_set_true (st : List Bool) (i j : Nat) : (st.set i true).getD j true = (st.getD j true || decide (j = i)) := by
 simp only [List.getD, List.getElem?_set]
 by_cases h : i = j
 ·subst h
  by_cases h2 : i < st.length <;> simp [h2]
 ·rw [if_neg h]
  simp [show ¬ j = i from fun e => h e.symm]
def NR (n : Int) (l : List S82) (v : Int) (nodes : List S55) (f : Nat) : Prop := ∀ i dec st,
 ((nodeP n l v nodes f i dec st).1 = true ↔ rightP n l v nodes f i dec = true ∧ (visP nodes f i).Nodup ∧ ∀ j ∈ visP nodes f i, st.getD j true = false) ∧
 ((nodeP n l v nodes f i dec st).1 = true → ∀ j, (nodeP n l v nodes f i dec st).2.getD j true = (st.getD j true || decide (j ∈ visP nodes f i)))
theorem step_right {f : Nat} (ih : NR n l v nodes f) (i : Nat) (dec : List Int) (b : Nat) (k d : Int) (st : List Bool) :
  ((stepP (nodeP n l v nodes f) nodes.length i dec b k d st).1 = true ↔ stepR (rightP n l v nodes f) nodes.length i dec b k d = true ∧ (stepV (visP nodes f) nodes.length i k).Nodup ∧ ∀ j ∈ stepV (visP nodes f) nodes.length i k, st.getD j true = false) ∧
  ((stepP (nodeP n l v nodes f) nodes.length i dec b k d st).1 = true → ∀ j, (stepP (nodeP n l v nodes f) nodes.length i dec b k d st).2.getD j true = (st.getD j true || decide (j ∈ stepV (visP nodes f) nodes.length i k))) := by
 unfold stepP stepR stepV
 by_cases h : (i : Int) < k ∧ k < (nodes.length : Int)
 ·simp only [if_pos h]
  exact ih _ _ _
 ·simp only [if_neg h]
  simp
theorem node_right : ∀ f, NR n l v nodes f
 | 0 => by intro i dec st; simp [nodeP, rightP]
 | f + 1 => by
  have ih := node_right f
  intro i dec st
  unfold nodeP rightP visP
  by_cases h0 : st.getD i true = true
  ·simp only [if_pos h0]
   constructor
   ·constructor
    ·intro h; simp at h
    ·rintro ⟨_, _, h⟩
     have := h i (by simp)
     rw [h0] at this
     cases this
   ·intro h; simp at h
  ·have h0' : st.getD i true = false := by simpa using h0
   simp only [if_neg h0]
   by_cases h1 : (nodes.getD i z55).f0 = -1
   ·simp only [if_pos h1]
    constructor
    ·constructor
     ·intro h; exact ⟨h, by simp, by simpa using h0'⟩
     ·intro h; exact h.1
    ·intro _ j
     rw [getD_set_true]
     simp
   ·simp only [if_neg h1]
    by_cases h2 : (nodes.getD i z55).f0 < 0 ∨ (l.length : Int) ≤ (nodes.getD i z55).f0 ∨ possP l dec (nodes.getD i z55).f0.toNat = false ∨ 0 < (nodes.getD i z55).f3.length
    ·simp only [if_pos h2]
     simp
    ·simp only [if_neg h2]
     generalize nodes.getD i z55 = x at *
     obtain ⟨a1, a2⟩ := step_right ih i dec x.f0.toNat x.f1 1 (st.set i true)
     unfold bothP
     generalize stepP (nodeP n l v nodes f) nodes.length i dec x.f0.toNat x.f1 1 (st.set i true) = A at *
     obtain ⟨b1, b2⟩ := step_right ih i dec x.f0.toNat x.f2 2 A.2
     generalize stepP (nodeP n l v nodes f) nodes.length i dec x.f0.toNat x.f2 2 A.2 = B at *
     generalize stepR (rightP n l v nodes f) nodes.length i dec x.f0.toNat x.f1 1 = r1 at *
     generalize stepR (rightP n l v nodes f) nodes.length i dec x.f0.toNat x.f2 2 = r2 at *
     generalize stepV (visP nodes f) nodes.length i x.f1 = va at *
     generalize stepV (visP nodes f) nodes.length i x.f2 = vb at *
     have hset : ∀ j, (st.set i true).getD j true = false ↔ st.getD j true = false ∧ j ≠ i := by
      intro j
      rw [getD_set_true]
      simp
     cases hA : A.1
     ·simp only [Bool.false_eq_true, if_false, hA]
      constructor
      ·constructor
       ·intro h; cases h
       ·rintro ⟨h3, h4, h5⟩
        simp only [Bool.and_eq_true] at h3
        rw [List.nodup_cons, List.nodup_append] at h4
        have : A.1 = true := a1.2 ⟨h3.1, h4.2.1, fun j hj => (hset j).2 ⟨h5 j (by simp [hj]), fun e => h4.1 (by rw [← e]; simp [hj])⟩⟩
        rw [hA] at this
        cases this
      ·intro h; cases h
     ·simp only [if_true]
      have ha := a1.1 hA
      have hA2 := a2 hA
      have hA2' : ∀ j, A.2.getD j true = false ↔ st.getD j true = false ∧ j ≠ i ∧ ¬ j ∈ va := by
       intro j
       rw [hA2 j]
       simp only [Bool.or_eq_false_iff, decide_eq_false_iff_not, hset j, and_assoc]
      constructor
      ·rw [b1]
       simp only [Bool.and_eq_true, List.nodup_cons, List.nodup_append, List.mem_append, List.mem_cons, not_or]
       constructor
       ·rintro ⟨h3, h4, h5⟩
        refine ⟨⟨ha.1, h3⟩, ⟨⟨fun h => ((hset i).1 (ha.2.2 i h)).2 rfl, fun h => ((hA2' i).1 (h5 i h)).2.1 rfl⟩, ha.2.1, h4, fun a h6 b h7 e => ((hA2' b).1 (h5 b h7)).2.2 (e ▸ h6)⟩, ?_⟩
        rintro j (rfl | h | h)
        ·exact h0'
        ·exact ((hset j).1 (ha.2.2 j h)).1
        ·exact ((hA2' j).1 (h5 j h)).1
       ·rintro ⟨⟨h3, h4⟩, ⟨⟨h5, h6⟩, h7, h8, h9⟩, h10⟩
        exact ⟨h4, h8, fun j hj => (hA2' j).2 ⟨h10 j (.inr (.inr hj)), fun e => h6 (e ▸ hj), fun h => h9 j h j hj rfl⟩⟩
      ·intro hB j
       rw [b2 hB j, hA2 j, getD_set_true]
       simp only [List.mem_cons, List.mem_append]
       by_cases e1 : j = i <;> by_cases e2 : j ∈ va <;> by_cases e3 : j ∈ vb <;> simp [e1, e2, e3]
/-- How many times node k names node j as one below it. -/
def ptrP (nodes : List S55) (j k : Nat) : Nat := if (nodes.getD k z55).f0 = -1 then 0 else (if (nodes.getD k z55).f1 = (j : Int) then 1 else 0) + (if (nodes.getD k z55).f2 = (j : Int) then 1 else 0)
def parP (nodes : List S55) (j : Nat) : Nat := ((List.range nodes.length).map (ptrP nodes j)).sum
theorem stepR_true {go : Nat → List Int → Bool} {len i : Nat} {dec : List Int} {b : Nat} {k d : Int} (h : stepR go len i dec b k d = true) : (i : Int) < k ∧ k < len ∧ go k.toNat (dec.set b d) = true := by
 unfold stepR at h
 split at h
 ·rename_i c; exact ⟨c.1, c.2, h⟩
 ·cases h
theorem vis_count (j : Nat) : ∀ f i dec, rightP n l v nodes f i dec = true → (visP nodes f i).count j = (if j = i then 1 else 0) + ((visP nodes f i).map (ptrP nodes j)).sum
 | 0, _, _, h => by simp [rightP] at h
 | f + 1, i, dec, h => by
  unfold rightP at h
  unfold visP
  by_cases h1 : (nodes.getD i z55).f0 = -1
  ·simp only [if_pos h1]
   have hp : ptrP nodes j i = 0 := by unfold ptrP; rw [if_pos h1]
   simp only [List.map_cons, List.map_nil, List.sum_cons, List.sum_nil, hp, List.count_cons, List.count_nil]
   by_cases e : j = i
   ·simp [e]
   ·simp [e, show ¬ i = j from fun x => e x.symm]
  ·simp only [if_neg h1] at h ⊢
   split at h
   ·cases h
   ·simp only [Bool.and_eq_true] at h
    obtain ⟨ha0, ha1, ha⟩ := stepR_true h.1
    obtain ⟨hb0, hb1, hb⟩ := stepR_true h.2
    have iha := vis_count j f _ _ ha
    have ihb := vis_count j f _ _ hb
    have hp : ptrP nodes j i = (if j = (nodes.getD i z55).f1.toNat then 1 else 0) + (if j = (nodes.getD i z55).f2.toNat then 1 else 0) := by
     unfold ptrP
     rw [if_neg h1]
     congr 1
     ·by_cases e : j = (nodes.getD i z55).f1.toNat
      ·rw [if_pos e, if_pos (by omega)]
      ·rw [if_neg e, if_neg (by omega)]
     ·by_cases e : j = (nodes.getD i z55).f2.toNat
      ·rw [if_pos e, if_pos (by omega)]
      ·rw [if_neg e, if_neg (by omega)]
    unfold stepV
    rw [if_pos ⟨ha0, ha1⟩, if_pos ⟨hb0, hb1⟩]
    simp only [List.count_cons, List.count_append, List.map_cons, List.sum_cons, List.map_append, List.sum_append, hp, iha, ihb]
    have hbe : (if (i == j) = true then 1 else 0) = (if j = i then 1 else 0) := by
     by_cases e : j = i
     ·simp [e]
     ·simp [e, show ¬ i = j from fun x => e x.symm]
    rw [hbe]
    omega
theorem vis_lt : ∀ f i dec, i < nodes.length → rightP n l v nodes f i dec = true → ∀ k ∈ visP nodes f i, k < nodes.length ∧ ((nodes.getD k z55).f0 ≠ -1 → (k : Int) < (nodes.getD k z55).f1 ∧ (k : Int) < (nodes.getD k z55).f2)
 | 0, _, _, _, h => by simp [rightP] at h
 | f + 1, i, dec, hi, h => by
  unfold rightP at h
  unfold visP
  by_cases h1 : (nodes.getD i z55).f0 = -1
  ·simp only [if_pos h1]
   intro k hk
   rw [List.mem_singleton] at hk
   subst hk
   exact ⟨hi, fun e => absurd h1 e⟩
  ·simp only [if_neg h1] at h ⊢
   split at h
   ·cases h
   ·simp only [Bool.and_eq_true] at h
    obtain ⟨ha0, ha1, ha⟩ := stepR_true h.1
    obtain ⟨hb0, hb1, hb⟩ := stepR_true h.2
    have iha := vis_lt f _ _ (by omega) ha
    have ihb := vis_lt f _ _ (by omega) hb
    unfold stepV
    rw [if_pos ⟨ha0, ha1⟩, if_pos ⟨hb0, hb1⟩]
    intro k hk
    rcases List.mem_cons.1 hk with rfl | hk
    ·exact ⟨hi, fun _ => ⟨ha0, hb0⟩⟩
    ·rcases List.mem_append.1 hk with hk | hk
     ·exact iha k hk
     ·exact ihb k hk
theorem sum_map_add (g h : Nat → Nat) : ∀ L : List Nat, (L.map fun k => g k + h k).sum = (L.map g).sum + (L.map h).sum
 | [] => rfl
 | x :: L => by simp only [List.map_cons, List.sum_cons, sum_map_add g h L]; omega
theorem sum_one (g : Nat → Nat) (a : Nat) : ∀ m, ((List.range m).map fun k => (if k = a then 1 else 0) * g k).sum = if a < m then g a else 0
 | 0 => by simp
 | m + 1 => by
  rw [List.range_succ, List.map_append, List.sum_append, sum_one g a m]
  simp only [List.map_cons, List.map_nil, List.sum_cons, List.sum_nil]
  by_cases h : m = a
  ·subst h; simp
  ·by_cases h2 : a < m
   ·have h3 : a < m + 1 := by omega
    simp [h2, h, h3]
   ·have h3 : ¬ a < m + 1 := by omega
    simp [h2, h, h3]
/-- A sum over what is met, as a sum over all nodes. -/
theorem sum_count (g : Nat → Nat) (m : Nat) : ∀ L : List Nat, (∀ k ∈ L, k < m) → (L.map g).sum = ((List.range m).map fun k => L.count k * g k).sum
 | [], _ => by
  have : ∀ L : List Nat, (L.map fun k => ([] : List Nat).count k * g k).sum = 0 := by
   intro L
   induction L with
   | nil => rfl
   | cons x L ih => simp only [List.map_cons, List.sum_cons, ih]; simp
  rw [this]; rfl
 | x :: L, h => by
  have ih := sum_count g m L (fun k hk => h k (by simp [hk]))
  have hx := h x (by simp)
  have e : (fun k => (x :: L).count k * g k) = fun k => (if k = x then 1 else 0) * g k + L.count k * g k := by
   funext k
   rw [List.count_cons, Nat.add_mul, Nat.add_comm]
   congr 2
   by_cases e : k = x
   ·simp [e]
   ·simp [e, show ¬ x = k from fun y => e y.symm]
  rw [List.map_cons, List.sum_cons, ih, e, sum_map_add, sum_one, if_pos hx]
theorem sum_le_of (g h : Nat → Nat) : ∀ L : List Nat, (∀ k ∈ L, g k ≤ h k) → (L.map g).sum ≤ (L.map h).sum
 | [], _ => by simp
 | x :: L, hh => by
  have h1 := sum_le_of g h L (fun k hk => hh k (by simp [hk]))
  have h2 := hh x (by simp)
  simp only [List.map_cons, List.sum_cons]
  omega
theorem sum_ge_of (g : Nat → Nat) : ∀ (L : List Nat) (a : Nat), a ∈ L → g a ≤ (L.map g).sum
 | x :: L, a, h => by
  simp only [List.map_cons, List.sum_cons]
  rcases List.mem_cons.1 h with rfl | h
  ·omega
  ·have := sum_ge_of g L a h; omega
theorem sum_pos (g : Nat → Nat) : ∀ (L : List Nat), 0 < (L.map g).sum → ∃ a ∈ L, 0 < g a
 | [], h => by simp at h
 | x :: L, h => by
  simp only [List.map_cons, List.sum_cons] at h
  by_cases hx : 0 < g x
  ·exact ⟨x, by simp, hx⟩
  ·obtain ⟨a, ha, h2⟩ := sum_pos g L (by omega)
   exact ⟨a, by simp [ha], h2⟩
theorem ptr_pos {j k : Nat} (h : 0 < ptrP nodes j k) : (nodes.getD k z55).f0 ≠ -1 ∧ ((nodes.getD k z55).f1 = (j : Int) ∨ (nodes.getD k z55).f2 = (j : Int)) := by
 unfold ptrP at h
 split at h
 ·omega
 ·rename_i c
  refine ⟨c, ?_⟩
  by_cases e1 : (nodes.getD k z55).f1 = (j : Int)
  ·exact .inl e1
  ·by_cases e2 : (nodes.getD k z55).f2 = (j : Int)
   ·exact .inr e2
   ·rw [if_neg e1, if_neg e2] at h; omega
/-- The reference's two looks ahead: each node but the first has one parent, and names later nodes. -/
def OnePar (nodes : List S55) : Prop := ∀ j, j < nodes.length → parP nodes j = if j = 0 then 0 else 1
def Later (nodes : List S55) : Prop := ∀ k, k < nodes.length → (nodes.getD k z55).f0 ≠ -1 → (k : Int) < (nodes.getD k z55).f1 ∧ (k : Int) < (nodes.getD k z55).f2
theorem count_eq (f : Nat) (dec : List Int) (h0 : 0 < nodes.length) (h : rightP n l v nodes f 0 dec = true) (j : Nat) : (visP nodes f 0).count j = (if j = 0 then 1 else 0) + ((List.range nodes.length).map fun k => (visP nodes f 0).count k * ptrP nodes j k).sum := by
 rw [vis_count j f 0 dec h, sum_count (ptrP nodes j) nodes.length _ (fun k hk => (vis_lt f 0 dec h0 h k hk).1)]
theorem tree_of_seen (f : Nat) (dec : List Int) (h0 : 0 < nodes.length) (h : rightP n l v nodes f 0 dec = true) (hn : (visP nodes f 0).Nodup) (ha : ∀ j, j < nodes.length → j ∈ visP nodes f 0) : OnePar nodes ∧ Later nodes := by
 refine ⟨fun j hj => ?_, fun k hk => (vis_lt f 0 dec h0 h k (ha k hk)).2⟩
 have hc : ∀ k, k < nodes.length → (visP nodes f 0).count k = 1 := fun k hk => by rw [hn.count, if_pos (ha k hk)]
 have he := count_eq f dec h0 h j
 have e : (List.range nodes.length).map (fun k => (visP nodes f 0).count k * ptrP nodes j k) = (List.range nodes.length).map (ptrP nodes j) := List.map_congr_left (fun k hk => by rw [hc k (List.mem_range.1 hk), Nat.one_mul])
 rw [e, hc j hj] at he
 unfold parP
 by_cases e : j = 0
 ·rw [if_pos e] at he ⊢; omega
 ·rw [if_neg e] at he ⊢; omega
theorem seen_of_tree (f : Nat) (dec : List Int) (h0 : 0 < nodes.length) (h : rightP n l v nodes f 0 dec = true) (hp : OnePar nodes) (hl : Later nodes) : (visP nodes f 0).Nodup ∧ ∀ j, j < nodes.length → j ∈ visP nodes f 0 := by
 have hlt : ∀ j k, k < nodes.length → 0 < ptrP nodes j k → k < j := by
  intro j k hk hpos
  obtain ⟨h1, h2⟩ := ptr_pos hpos
  have h3 := hl k hk h1
  omega
 have hle : ∀ j, j < nodes.length → (visP nodes f 0).count j ≤ 1 := by
  intro j
  induction j using Nat.strongRecOn with
  | _ j ih =>
   intro hj
   have he := count_eq f dec h0 h j
   have hs : ((List.range nodes.length).map fun k => (visP nodes f 0).count k * ptrP nodes j k).sum ≤ parP nodes j := by
    refine sum_le_of _ _ _ (fun k hk => ?_)
    have hk := List.mem_range.1 hk
    by_cases hz : 0 < ptrP nodes j k
    ·have := ih k (hlt j k hk hz) hk
     have h1 : (visP nodes f 0).count k * ptrP nodes j k ≤ 1 * ptrP nodes j k := Nat.mul_le_mul_right _ this
     omega
    ·rw [show ptrP nodes j k = 0 by omega]; simp
   rw [hp j hj] at hs
   by_cases e : j = 0
   ·rw [if_pos e] at he hs; omega
   ·rw [if_neg e] at he hs; omega
 have hge : ∀ j, j < nodes.length → 1 ≤ (visP nodes f 0).count j := by
  intro j
  induction j using Nat.strongRecOn with
  | _ j ih =>
   intro hj
   have he := count_eq f dec h0 h j
   by_cases e : j = 0
   ·rw [if_pos e] at he; omega
   ·have h1 := hp j hj
    rw [if_neg e] at h1
    obtain ⟨k, hk, hk2⟩ := sum_pos (ptrP nodes j) (List.range nodes.length) (by unfold parP at h1; omega)
    have hkl := List.mem_range.1 hk
    have h3 := ih k (hlt j k hkl hk2) hkl
    have h4 := sum_ge_of (fun k => (visP nodes f 0).count k * ptrP nodes j k) (List.range nodes.length) k hk
    have h5 : 1 * 1 ≤ (visP nodes f 0).count k * ptrP nodes j k := Nat.mul_le_mul h3 hk2
    have h6 : (visP nodes f 0).count k * ptrP nodes j k ≤ ((List.range nodes.length).map fun k => (visP nodes f 0).count k * ptrP nodes j k).sum := h4
    omega
 refine ⟨?_, fun j hj => List.count_pos_iff.1 (hge j hj)⟩
 rw [List.nodup_iff_count]
 intro a
 by_cases ha : a ∈ visP nodes f 0
 ·exact hle a (vis_lt f 0 dec h0 h a ha).1
 ·rw [List.count_eq_zero_of_not_mem ha]; omega
/-- The checker accepts exactly where the reference does. -/
theorem root_tree (f : Nat) (dec : List Int) (h0 : 0 < nodes.length) :
  ((nodeP n l v nodes f 0 dec (List.replicate nodes.length false)).1 = true ∧ (nodeP n l v nodes f 0 dec (List.replicate nodes.length false)).2.all id = true) ↔ (OnePar nodes ∧ Later nodes ∧ rightP n l v nodes f 0 dec = true) := by
 obtain ⟨h1, h2⟩ := node_right (n := n) (l := l) (v := v) (nodes := nodes) f 0 dec (List.replicate nodes.length false)
 have hlen := nodeP_len n l v nodes f 0 dec (List.replicate nodes.length false)
 rw [List.length_replicate] at hlen
 have hrep : ∀ j, j < nodes.length → (List.replicate nodes.length false).getD j true = false := by
  intro j hj
  simp [List.getD, List.getElem?_replicate, hj]
 constructor
 ·rintro ⟨ha, hb⟩
  obtain ⟨h3, h4, h5⟩ := h1.1 ha
  have h6 := h2 ha
  obtain ⟨t1, t2⟩ := tree_of_seen f dec h0 h3 h4 (fun j hj => by
   have h7 := h6 j
   rw [hrep j hj, Bool.false_or] at h7
   have h8 : (nodeP n l v nodes f 0 dec (List.replicate nodes.length false)).2.getD j true = true := by
    rw [List.all_eq_true] at hb
    have hjl : j < (nodeP n l v nodes f 0 dec (List.replicate nodes.length false)).2.length := by omega
    rw [List.getD, List.getElem?_eq_getElem hjl]
    exact hb _ (List.getElem_mem hjl)
   rw [h8] at h7
   exact of_decide_eq_true h7.symm)
  exact ⟨t1, t2, h3⟩
 ·rintro ⟨hp, hl, hr⟩
  obtain ⟨h3, h4⟩ := seen_of_tree f dec h0 hr hp hl
  have ha := h1.2 ⟨hr, h3, fun j hj => hrep j (vis_lt f 0 dec h0 hr j hj).1⟩
  refine ⟨ha, ?_⟩
  rw [List.all_eq_true]
  intro x hx
  obtain ⟨j, hj, rfl⟩ := List.mem_iff_getElem.1 hx
  have h6 := h2 ha j
  rw [List.getD, List.getElem?_eq_getElem hj, Option.getD_some] at h6
  rw [h6, decide_eq_true (h4 j (by omega))]
  simp
end
/-- The places from i on, n of them, at which p holds. -/
def sel (p : Nat → Bool) : Nat → Nat → List Int
 | 0, _ => []
 | n + 1, i => if p i then (i : Int) :: sel p n (i + 1) else sel p n (i + 1)
def sumF (f : Nat → Int) : Nat → Nat → Int
 | 0, _ => 0
 | n + 1, i => f i + sumF f n (i + 1)
theorem mem_sel (p : Nat → Bool) (x : Int) : ∀ n i, x ∈ sel p n i ↔ ∃ k, i ≤ k ∧ k < i + n ∧ p k = true ∧ x = (k : Int)
 | 0, i => by simp [sel]; intro k h1 h2; omega
 | n + 1, i => by
  have ih := mem_sel p x n (i + 1)
  unfold sel
  by_cases h : p i = true
  ·rw [if_pos h, List.mem_cons, ih]
   constructor
   ·rintro (rfl | ⟨k, h1, h2, h3, h4⟩)
    ·exact ⟨i, by omega, by omega, h, rfl⟩
    ·exact ⟨k, by omega, by omega, h3, h4⟩
   ·rintro ⟨k, h1, h2, h3, h4⟩
    by_cases e : k = i
    ·subst e; exact .inl h4
    ·exact .inr ⟨k, by omega, by omega, h3, h4⟩
  ·rw [if_neg h, ih]
   constructor
   ·rintro ⟨k, h1, h2, h3, h4⟩
    exact ⟨k, by omega, by omega, h3, h4⟩
   ·rintro ⟨k, h1, h2, h3, h4⟩
    by_cases e : k = i
    ·subst e; exact absurd h3 h
    ·exact ⟨k, by omega, by omega, h3, h4⟩
theorem mem_sel0 (p : Nat → Bool) (n : Nat) (x : Int) : x ∈ sel p n 0 ↔ ∃ k, k < n ∧ p k = true ∧ x = (k : Int) := by
 rw [mem_sel]
 constructor
 ·rintro ⟨k, h1, h2, h3, h4⟩; exact ⟨k, by omega, h3, h4⟩
 ·rintro ⟨k, h2, h3, h4⟩; exact ⟨k, by omega, by omega, h3, h4⟩
theorem rise_sel (p : Nat → Bool) : ∀ n i, (sel p n i).Pairwise (· < ·)
 | 0, _ => List.Pairwise.nil
 | n + 1, i => by
  unfold sel
  split
  ·refine List.pairwise_cons.2 ⟨fun x hx => ?_, rise_sel p n (i + 1)⟩
   obtain ⟨k, h1, h2, h3, rfl⟩ := (mem_sel p x n (i + 1)).1 hx
   omega
  ·exact rise_sel p n (i + 1)
theorem rise_ext : ∀ (s t : List Int), s.Pairwise (· < ·) → t.Pairwise (· < ·) → (∀ x, x ∈ s ↔ x ∈ t) → s = t
 | [], [], _, _, _ => rfl
 | [], y :: t, _, _, h => by have := (h y).2 (by simp); simp at this
 | x :: s, [], _, _, h => by have := (h x).1 (by simp); simp at this
 | x :: s, y :: t, hs, ht, h => by
  obtain ⟨s1, s2⟩ := List.pairwise_cons.1 hs
  obtain ⟨t1, t2⟩ := List.pairwise_cons.1 ht
  have e : x = y := by
   rcases List.mem_cons.1 ((h x).1 (by simp)) with e | e
   ·exact e
   ·rcases List.mem_cons.1 ((h y).2 (by simp)) with e2 | e2
    ·exact e2.symm
    ·have := t1 x e; have := s1 y e2; omega
  subst e
  rw [rise_ext s t s2 t2 (fun z => by
   constructor
   ·intro hz
    rcases List.mem_cons.1 ((h z).1 (by simp [hz])) with e | e
    ·subst e; exact absurd (s1 z hz) (Int.lt_irrefl _)
    ·exact e
   ·intro hz
    rcases List.mem_cons.1 ((h z).2 (by simp [hz])) with e | e
    ·subst e; exact absurd (t1 z hz) (Int.lt_irrefl _)
    ·exact e)]
theorem sel_of (n : Nat) (s : List Int) (h0 : ∀ k ∈ s, 0 ≤ k ∧ k < n) (h1 : s.Pairwise (· < ·)) : s = sel (fun k => decide ((k : Int) ∈ s)) n 0 := by
 refine rise_ext _ _ h1 (rise_sel _ _ _) (fun x => ?_)
 rw [mem_sel0]
 constructor
 ·intro hx
  obtain ⟨a, b⟩ := h0 x hx
  obtain ⟨k, rfl⟩ := Int.eq_ofNat_of_zero_le a
  exact ⟨k, by omega, by simpa using hx, rfl⟩
 ·rintro ⟨k, h2, h3, rfl⟩; simpa using h3
theorem choice_sel (p : Nat → Bool) : ∀ n i, ∃ bits, bits < 2 ^ n ∧ choiceP n bits i = sel p n i
 | 0, i => ⟨0, by simp, rfl⟩
 | n + 1, i => by
  obtain ⟨b, h1, h2⟩ := choice_sel p n (i + 1)
  by_cases h : p i = true
  ·refine ⟨2 * b + 1, by rw [Nat.pow_succ]; omega, ?_⟩
   unfold choiceP sel
   rw [if_pos (by omega), if_pos h, show (2 * b + 1) / 2 = b from by omega, h2]
  ·refine ⟨2 * b, by rw [Nat.pow_succ]; omega, ?_⟩
   unfold choiceP sel
   rw [if_neg (by omega), if_neg h, show 2 * b / 2 = b from by omega, h2]
/-- The price of the bid at a place; the value of a set of places. -/
def prc (l : List S82) (k : Nat) : Int := (l.getD k z82).f1
def valB (l : List S82) (p : Nat → Bool) : Int := sumF (fun k => if p k then prc l k else 0) l.length 0
def cj (l : List S82) (a b : Nat) : Bool := conf (l.getD a z82) (l.getD b z82)
theorem conf_comm (a b : S82) : conf a b = conf b a := by
 unfold conf
 have h1 : (a.f0 == b.f0) = (b.f0 == a.f0) := by rw [Bool.eq_iff_iff]; simp; exact ⟨fun h => h.symm, fun h => h.symm⟩
 have h2 : (b.f2.any fun k => a.f2.contains k) = (a.f2.any fun k => b.f2.contains k) := by
  rw [Bool.eq_iff_iff, List.any_eq_true, List.any_eq_true]
  constructor <;> (rintro ⟨x, h1, h2⟩; exact ⟨x, by simpa using h2, by simpa using h1⟩)
 rw [h1, h2]
theorem cj_comm (l : List S82) (a b : Nat) : cj l a b = cj l b a := conf_comm _ _
theorem prc_pos (l : List S82) (hp : ∀ b ∈ l, 1 ≤ b.f1) (k : Nat) (hk : k < l.length) : 1 ≤ prc l k := by
 unfold prc
 exact hp _ (by simp [List.getD, hk])
theorem val_sel (l : List S82) (p : Nat → Bool) : ∀ n i, valP l (sel p n i) = sumF (fun k => if p k then prc l k else 0) n i
 | 0, _ => rfl
 | n + 1, i => by
  have ih := val_sel l p n (i + 1)
  unfold sel sumF
  by_cases h : p i = true
  ·rw [if_pos h, if_pos h, ← ih]; rfl
  ·rw [if_neg h, if_neg h, ← ih]; omega
theorem valB_sel (l : List S82) (p : Nat → Bool) : valP l (sel p l.length 0) = valB l p := val_sel l p _ _
/-- A set of places that may win together. -/
def FeasU (U : S82 → Bool) (l : List S82) (p : Nat → Bool) : Prop :=
 (∀ a, a < l.length → p a = true → U (l.getD a z82) = true) ∧ ∀ a b, a < l.length → b < l.length → a ≠ b → p a = true → p b = true → cj l a b = false
/-- q has the first place at which they differ. -/
def dlt (n : Nat) (q p : Nat → Bool) : Prop := ∃ d, d < n ∧ q d = true ∧ p d = false ∧ ∀ x, x < d → q x = p x
structure IsBest (U : S82 → Bool) (l : List S82) (p : Nat → Bool) : Prop where
 feas : FeasU U l p
 max : ∀ q, FeasU U l q → valB l q ≤ valB l p
 first : ∀ q, FeasU U l q → valB l q = valB l p → ¬ dlt l.length q p
theorem ok_of_pairs (U : S82 → Bool) (l : List S82) : ∀ (s win : List Int), okS U l win s = true ↔ ((∀ k ∈ s, U (l.getD k.toNat z82) = true) ∧ (∀ w ∈ win, ∀ k ∈ s, cf l w k = false) ∧ s.Pairwise (fun a b => cf l a b = false))
 | [], win => by simp [okS]
 | k :: s, win => by
  have ih := ok_of_pairs U l s (win ++ [k])
  simp only [okS, Bool.and_eq_true, ih, Bool.not_eq_true']
  constructor
  ·rintro ⟨⟨h1, h2⟩, h3, h4, h5⟩
   have h2' : ∀ w ∈ win, cf l w k = false := fun w hw => by simpa using List.any_eq_false.1 h2 w hw
   refine ⟨fun x hx => ?_, fun w hw x hx => ?_, List.pairwise_cons.2 ⟨fun x hx => h4 k (by simp) x hx, h5⟩⟩
   ·rcases List.mem_cons.1 hx with rfl | hx
    ·exact h1
    ·exact h3 x hx
   ·rcases List.mem_cons.1 hx with rfl | hx
    ·exact h2' w hw
    ·exact h4 w (by simp [hw]) x hx
  ·rintro ⟨h1, h2, h3⟩
   obtain ⟨h4, h5⟩ := List.pairwise_cons.1 h3
   refine ⟨⟨h1 k (by simp), List.any_eq_false.2 (fun w hw => by simpa using h2 w hw k (by simp))⟩, fun x hx => h1 x (by simp [hx]), fun w hw x hx => ?_, h5⟩
   rcases List.mem_append.1 hw with hw | hw
   ·exact h2 w hw x (by simp [hx])
   ·rw [List.mem_singleton] at hw; subst hw; exact h4 x hx
theorem ok_sel (U : S82 → Bool) (l : List S82) (p : Nat → Bool) : okS U l [] (sel p l.length 0) = true ↔ FeasU U l p := by
 rw [ok_of_pairs]
 constructor
 ·rintro ⟨h1, _, h3⟩
  refine ⟨fun a ha hp => ?_, ?_⟩
  ·have := h1 (a : Int) ((mem_sel0 p _ _).2 ⟨a, ha, hp, rfl⟩)
   simpa using this
  ·have key : ∀ a b, a < l.length → b < l.length → a < b → p a = true → p b = true → cj l a b = false := by
    intro a b ha hb hab hpa hpb
    have hm : (a : Int) ∈ sel p l.length 0 := (mem_sel0 p _ _).2 ⟨a, ha, hpa, rfl⟩
    have hn : (b : Int) ∈ sel p l.length 0 := (mem_sel0 p _ _).2 ⟨b, hb, hpb, rfl⟩
    have hr := rise_sel p l.length 0
    generalize sel p l.length 0 = s at *
    induction s with
    | nil => simp at hm
    | cons x s ih =>
     obtain ⟨r1, r2⟩ := List.pairwise_cons.1 hr
     obtain ⟨c1, c2⟩ := List.pairwise_cons.1 h3
     rcases List.mem_cons.1 hm with e1 | e1
     ·rcases List.mem_cons.1 hn with e2 | e2
      ·omega
      ·subst e1; exact c1 _ e2
     ·rcases List.mem_cons.1 hn with e2 | e2
      ·have := r1 _ e1; omega
      ·exact ih (fun k hk => h1 k (by simp [hk])) (by simp) c2 e1 e2 r2
   intro a b ha hb hab hpa hpb
   rcases Nat.lt_or_gt_of_ne hab with h | h
   ·exact key a b ha hb h hpa hpb
   ·rw [cj_comm]; exact key b a hb ha h hpb hpa
 ·rintro ⟨h1, h2⟩
  refine ⟨fun k hk => ?_, by simp, ?_⟩
  ·obtain ⟨a, ha, hp, rfl⟩ := (mem_sel0 p _ _).1 hk
   exact h1 a ha hp
  ·refine (rise_sel p l.length 0).imp_of_mem (fun {a b} ha hb hab => ?_)
   obtain ⟨x, hx, hpx, rfl⟩ := (mem_sel0 p _ _).1 ha
   obtain ⟨y, hy, hpy, rfl⟩ := (mem_sel0 p _ _).1 hb
   exact h2 x y hx hy (by omega) hpx hpy
theorem dlt_less (q p : Nat → Bool) : ∀ n i, (∃ d, i ≤ d ∧ d < i + n ∧ q d = true ∧ p d = false ∧ ∀ x, i ≤ x → x < d → q x = p x) → lessP (sel q n i) (sel p n i) = true ∨ ∃ t, t ≠ [] ∧ sel q n i = sel p n i ++ t
 | 0, i, ⟨d, h1, h2, _⟩ => by omega
 | n + 1, i, ⟨d, h1, h2, h3, h4, h5⟩ => by
  by_cases e : d = i
  ·subst e
   unfold sel
   rw [if_pos h3, if_neg (by simp [h4])]
   cases hs : sel p n (d + 1) with
   | nil => exact .inr ⟨_, by simp, rfl⟩
   | cons y t =>
    have : (d : Int) < y := by
     obtain ⟨k, a, b, c, e⟩ := (mem_sel p y n (d + 1)).1 (by rw [hs]; simp)
     omega
    refine .inl ?_
    simp only [lessP]
    rw [if_neg (by omega)]
    simpa using this
  ·have ih := dlt_less q p n (i + 1) ⟨d, by omega, by omega, h3, h4, fun x a b => h5 x (by omega) b⟩
   have hi := h5 i (by omega) (by omega)
   unfold sel
   by_cases hp : p i = true
   ·rw [if_pos (by rw [hi]; exact hp), if_pos hp]
    rcases ih with ih | ⟨t, a, b⟩
    ·exact .inl (by simp only [lessP, if_true]; exact ih)
    ·exact .inr ⟨t, a, by rw [b]; rfl⟩
   ·rw [if_neg (by rw [hi]; exact hp), if_neg hp]
    exact ih
theorem valP_append (l : List S82) (a b : List Int) : valP l (a ++ b) = valP l a + valP l b := by
 unfold valP
 rw [List.map_append, List.sum_append]
theorem valP_pos (l : List S82) (hp : ∀ b ∈ l, 1 ≤ b.f1) (t : List Int) (ht : t ≠ []) (h : ∀ k ∈ t, 0 ≤ k ∧ k < l.length) : 1 ≤ valP l t := by
 have h1 : ∀ s : List Int, (∀ k ∈ s, 0 ≤ k ∧ k < l.length) → 0 ≤ valP l s := by
  intro s
  induction s with
  | nil => intro _; exact Int.le_refl _
  | cons k s ih =>
   intro h
   have h2 := ih (fun x hx => h x (by simp [hx]))
   have h3 := h k (by simp)
   have h4 : 1 ≤ (l.getD k.toNat z82).f1 := prc_pos l hp k.toNat (by omega)
   simp only [valP, List.map_cons, List.sum_cons] at h2 ⊢
   omega
 cases t with
 | nil => exact absurd rfl ht
 | cons k s =>
  have h2 := h1 s (fun x hx => h x (by simp [hx]))
  have h3 := h k (by simp)
  have h4 : 1 ≤ (l.getD k.toNat z82).f1 := prc_pos l hp k.toNat (by omega)
  simp only [valP, List.map_cons, List.sum_cons] at h2 ⊢
  omega
/-- Of two of one value the one that has the first difference is the less. -/
theorem dlt_same (l : List S82) (hp : ∀ b ∈ l, 1 ≤ b.f1) (q p : Nat → Bool) (h : dlt l.length q p) (hv : valB l q ≤ valB l p) : lessP (sel q l.length 0) (sel p l.length 0) = true := by
 obtain ⟨d, h1, h2, h3, h4⟩ := h
 rcases dlt_less q p l.length 0 ⟨d, by omega, by omega, h2, h3, fun x _ hx => h4 x hx⟩ with h5 | ⟨t, h5, h6⟩
 ·exact h5
 ·exfalso
  have h7 := valP_pos l hp t h5 (fun k hk => by
   obtain ⟨a, ha, _, rfl⟩ := (mem_sel0 q l.length k).1 (by rw [h6]; simp [hk])
   omega)
  rw [← valB_sel, ← valB_sel, h6, valP_append] at hv
  omega
theorem search_best (U : S82 → Bool) (l : List S82) (hp : ∀ b ∈ l, 1 ≤ b.f1) : ∃ p, IsBest U l p ∧ searchP U l = (sel p l.length 0, valB l p) := by
 obtain ⟨e1, e2, be, e3, e4⟩ := ext_valid (U := U) l 0 [] (l := l) rfl
 have hb := ext_best (U := U) (l := l) l 0 [] rfl hp
 rw [← search_ext hp] at e1 e2 e4 hb
 have hr := choice_ge l.length be 0
 have hs : (searchP U l).1 = sel (fun k => decide ((k : Int) ∈ (searchP U l).1)) l.length 0 := sel_of l.length _ (fun k hk => by
  rw [← e4] at hk
  have := hr k hk
  omega) (by
  rw [← e4]
  have : ∀ (n bits i : Nat), (choiceP n bits i).Pairwise (· < ·) := by
   intro n
   induction n with
   | zero => intro _ _; exact List.Pairwise.nil
   | succ n ih =>
    intro bits i
    unfold choiceP
    split
    ·refine List.pairwise_cons.2 ⟨fun x hx => ?_, ih _ _⟩
     have := choice_ge n (bits / 2) (i + 1) x hx
     omega
    ·exact ih _ _
  exact this _ _ _)
 generalize hpp : (fun k : Nat => decide ((k : Int) ∈ (searchP U l).1)) = p at hs
 have hv : (searchP U l).2 = valB l p := by rw [← e2, hs, valB_sel]
 refine ⟨p, ⟨?_, ?_, ?_⟩, by rw [← hs, ← hv]⟩
 ·rw [← ok_sel, ← hs]; exact e1
 ·intro q hq
  obtain ⟨bits, b1, b2⟩ := choice_sel q l.length 0
  have := (hb bits (by rw [b2]; exact (ok_sel U l q).2 hq)).1
  rw [b2, valB_sel] at this
  omega
 ·intro q hq hvq hd
  obtain ⟨bits, b1, b2⟩ := choice_sel q l.length 0
  have h1 := (hb bits (by rw [b2]; exact (ok_sel U l q).2 hq)).2 (by rw [b2, valB_sel]; omega)
  have h2 := dlt_same l hp q p hd (by omega)
  rw [b2, hs] at h1
  rcases h1 with h1 | h1
  ·rw [h1, less_irrefl] at h2; cases h2
  ·have := less_trans _ _ _ h1 h2
   rw [less_irrefl] at this
   cases this
end Go.Proofs.Ytdamibblnjeooaa.H

/- The certificate that Make grows is accepted. Plain. -/
namespace Go.Proofs.Ytdamibblnjeooaa.H
open Go.RowKit Go.Proofs.YtdamibblnjeooaaW.PrintWords Go.Proofs.YtdamibblnjeooaaW.PrintLast
set_option linter.unusedVariables false
set_option linter.unusedSimpArgs false
theorem sumF_range' (f : Nat → Int) : ∀ n i, sumF f n i = ((List.range' i n).map f).sum
 | 0, i => by simp [sumF]
 | n + 1, i => by
  rw [List.range'_succ, List.map_cons, List.sum_cons, ← sumF_range' f n (i + 1)]
  rfl
def inB (dec : List Int) (i : Nat) : Bool := decide (dec.getD i 0 = 1)
theorem inS_valB (l : List S82) (dec : List Int) : inS l dec l.length = valB l (inB dec) := by
 unfold inS valB
 rw [sumF_range', List.range_eq_range']
 congr 1
 refine List.map_congr_left (fun k _ => ?_)
 unfold inB prc
 by_cases h : dec.getD k 0 = 1
 ·rw [if_pos h, if_pos (decide_eq_true h)]
 ·rw [if_neg h, if_neg (by simpa using h)]
theorem frS_zero (ks : List Int) (n : Nat) : ∀ m, frS ks (List.replicate n 0) m = 0
 | 0 => rfl
 | m + 1 => by
  rw [frS_succ, frS_zero ks n m]
  have : (List.replicate n (0 : Int)).getD m 0 = 0 := by
   by_cases h : m < n
   ·simp [List.getD, h]
   ·simp [List.getD, h]
  rw [this]
  split <;> rfl
theorem spS_none (l : List S82) (dec ps : List Int) (h : ∀ b, b < l.length → possP l dec b = false) : ∀ m, m ≤ l.length → spS l dec ps m = []
 | 0, _ => rfl
 | m + 1, hm => by rw [spS_succ, h m (by omega), spS_none l dec ps h m (by omega)]; rfl
/-- Decisions whose winners are feasible. -/
def DIn (l : List S82) (dec : List Int) : Prop := dec.length = l.length ∧ FeasU (fun _ => true) l (inB dec)
theorem getD_setne (dec : List Int) (b i : Nat) (d : Int) (h : ¬ b = i) : (dec.set b d).getD i 0 = dec.getD i 0 := by
 simp only [List.getD, List.getElem?_set, if_neg h]
theorem getD_seteq (dec : List Int) (b : Nat) (d : Int) (hb : b < dec.length) : (dec.set b d).getD b 0 = d := by
 simp [List.getD, List.getElem?_set, hb]
theorem inB_set1 (dec : List Int) (b i : Nat) (hb : b < dec.length) : inB (dec.set b 1) i = (decide (i = b) || inB dec i) := by
 unfold inB
 by_cases h : b = i
 ·subst h
  rw [getD_seteq dec b 1 hb]
  simp
 ·rw [getD_setne dec b i 1 h, show decide (i = b) = false from decide_eq_false (fun e => h e.symm), Bool.false_or]
theorem inB_set2 (dec : List Int) (b i : Nat) (hb : b < dec.length) (h0 : dec.getD b 0 = 0) : inB (dec.set b 2) i = inB dec i := by
 unfold inB
 by_cases h : b = i
 ·subst h
  rw [h0, getD_seteq dec b 2 hb]
  rfl
 ·rw [getD_setne dec b i 2 h]
theorem poss_conf {l : List S82} {dec : List Int} {b : Nat} (h : possP l dec b = true) (k : Nat) (hk : k < dec.length) (hi : inB dec k = true) : cj l k b = false := by
 unfold possP at h
 simp only [Bool.and_eq_true, Bool.not_eq_true'] at h
 have h2 := h.2
 cases hc : cj l k b
 ·rfl
 ·have : (List.range dec.length).any (oddsP l dec b) = true := List.any_eq_true.2 ⟨k, List.mem_range.2 hk, by
   unfold oddsP
   unfold inB at hi
   rw [hi]
   exact hc⟩
  rw [this] at h2
  cases h2
theorem mhyp_ok (n : Nat) (l : List S82) (hV : validP (n : Int) l = 0) : MHyp n l (searchP (fun _ => true) l).2 (DIn l) := by
 obtain ⟨hn1, hn2, hl10, hbb⟩ := validP_bids (n : Int) l hV
 refine ⟨hl10, by omega, by omega, hbb, ?_, fun dec h => h.1, ?_, ?_⟩
 ·refine ⟨List.length_replicate .., fun a ha h => rfl, fun a b ha hb hne h1 h2 => ?_⟩
  unfold inB at h1
  have : (List.replicate l.length (0 : Int)).getD a 0 = 0 := by simp [List.getD, ha]
  rw [this] at h1
  simp at h1
 ·intro dec b hd hb hp
  obtain ⟨hdl, hf⟩ := hd
  have h0 := poss_zero hp
  refine ⟨⟨by rw [List.length_set]; exact hdl, fun _ _ _ => rfl, fun a c ha hc hne h1 h2 => ?_⟩, ⟨by rw [List.length_set]; exact hdl, fun _ _ _ => rfl, fun a c ha hc hne h1 h2 => ?_⟩⟩
  ·rw [inB_set1 dec b _ (by omega)] at h1 h2
   by_cases ea : a = b
   ·subst ea
    have hc2 : inB dec c = true := by
     rw [decide_eq_false (fun e => hne e.symm)] at h2
     exact h2
    rw [cj_comm]
    exact poss_conf hp c (by omega) hc2
   ·rw [decide_eq_false ea] at h1
    by_cases ec : c = b
    ·subst ec
     exact poss_conf hp a (by omega) h1
    ·rw [decide_eq_false ec] at h2
     exact hf.2 a c ha hc hne h1 h2
  ·rw [inB_set2 dec b _ (by omega) h0] at h1 h2
   exact hf.2 a c ha hc hne h1 h2
 ·intro dec hd hno
  obtain ⟨hdl, hf⟩ := hd
  obtain ⟨p, hb, hs⟩ := search_best (fun _ => true) l (fun b hb => (hbb b hb).1.1)
  rw [hs]
  unfold boundD
  rw [frS_zero, spS_none l dec _ hno l.length (Nat.le_refl _), hdl, inS_valB]
  have := hb.max (inB dec) hf
  simp only [List.map_nil, List.sum_nil]
  omega
/-- A tree is right, and its nodes are met in their order. -/
theorem gtree_right {n : Nat} {l : List S82} {v : Int} {ns : List S55} {i j : Nat} {dec : List Int} (h : GTree n l v ns i j dec) : ∀ f, j ≤ i + f → j ≤ ns.length → rightP (n : Int) l v ns f i dec = true ∧ visP ns f i = List.range' i (j - i) := by
 induction h with
 | leaf i dec ps h hl hr hb =>
  intro f hf hj
  obtain ⟨f', rfl⟩ : ∃ f', f = f' + 1 := ⟨f - 1, by omega⟩
  have hg : ns.getD i z55 = ⟨-1, 0, 0, ps⟩ := by simp [List.getD, h]
  unfold rightP visP
  rw [hg, if_pos rfl, if_pos rfl]
  refine ⟨?_, by rw [show i + 1 - i = 1 by omega]; rfl⟩
  unfold leafP
  simp only [Bool.and_eq_true, decide_eq_true_eq, Bool.not_eq_true']
  refine ⟨⟨⟨⟨by first | rfl | trivial, by first | rfl | trivial⟩, by show (ps.length : Int) = n; omega⟩, ?_⟩, hb⟩
  show ps.any badPrice = false
  rw [List.any_eq_false]
  intro x hx
  have := hr x hx
  unfold badPrice
  simp only [Bool.or_eq_true, decide_eq_true_eq, not_or]
  omega
 | node i m j b dec h hb hp h1 h2 ih1 ih2 =>
  intro f hf hj
  have hl1 := h1.lt
  have hl2 := h2.lt
  obtain ⟨f', rfl⟩ : ∃ f', f = f' + 1 := ⟨f - 1, by omega⟩
  have hg : ns.getD i z55 = ⟨(b : Int), (i : Int) + 1, (m : Int), []⟩ := by simp [List.getD, h]
  obtain ⟨r1, v1⟩ := ih1 f' (by omega) (by omega)
  obtain ⟨r2, v2⟩ := ih2 f' (by omega) hj
  unfold rightP visP
  rw [hg]
  have e1 : ¬ ((b : Int) = -1) := by omega
  simp only [if_neg e1, Int.toNat_natCast]
  rw [if_neg (by
   rintro (h | h | h | h)
   ·omega
   ·omega
   ·rw [hp] at h; cases h
   ·simp at h)]
  unfold stepR stepV
  rw [if_pos ⟨by omega, by omega⟩, if_pos ⟨by omega, by omega⟩, if_pos ⟨by omega, by omega⟩, if_pos ⟨by omega, by omega⟩]
  rw [show ((i : Int) + 1).toNat = i + 1 by omega, Int.toNat_natCast, r1, r2, v1, v2]
  refine ⟨rfl, ?_⟩
  have e2 : j - i = (m - (i + 1)) + (j - m) + 1 := by omega
  rw [e2, List.range'_succ]
  congr 1
  have e3 := List.range'_append_1 (s := i + 1) (m := m - (i + 1)) (n := j - m)
  rw [show i + 1 + (m - (i + 1)) = m by omega] at e3
  exact e3
theorem check_grown {n : Nat} {l : List S82} {v : Int} {ns : List S55} (h : GTree n l v ns 0 ns.length (List.replicate l.length 0)) (hV : validP (n : Int) l = 0) (win : List Int) (hfe : feasP l [] win = true) (hv : v = valP l win) (hlen : ns.length ≤ 2047) : checkP (n : Int) l win v ns = 0 := by
 have h0 := h.lt
 obtain ⟨hr, hvis⟩ := gtree_right h ns.length (by omega) (Nat.le_refl _)
 rw [Nat.sub_zero, ← List.range_eq_range'] at hvis
 obtain ⟨ho, hla⟩ := tree_of_seen (n := (n : Int)) (l := l) (v := v) (nodes := ns) ns.length (List.replicate l.length 0) h0 hr (by rw [hvis]; exact List.nodup_range) (fun j hj => by rw [hvis]; exact List.mem_range.2 hj)
 unfold checkP
 rw [if_neg (by rw [hV]; simp), if_neg (by rw [hfe]; simp), if_neg (by omega), if_neg (by
  rintro (h | h)
  ·omega
  ·exact h hv)]
 rw [if_pos]
 unfold rootP
 exact (root_tree ns.length (List.replicate l.length 0) h0).2 ⟨ho, hla, hr⟩
end Go.Proofs.Ytdamibblnjeooaa.H

/- The reference's feasible choices. -/
namespace Go.Proofs.Ytdamibblnjeooaa.H
open Go.RowKit Go.Proofs.YtdamibblnjeooaaW.PrintWords Go.Proofs.YtdamibblnjeooaaW.PrintLast
set_option linter.unusedVariables false
set_option linter.unusedSimpArgs false
set_option maxHeartbeats 1000000 in
theorem rfeas_l2 (l : List S85) (hb : ∀ b ∈ l, b.f2.length ≤ 9223372036854775807) (c : List Int) (hc : ∀ k ∈ c, 0 ≤ k ∧ k < l.length) (hl : c.length ≤ 1000) (q : Nat) (x : Int) (hq : c[q]? = some x) (r : Bool)
  (hr : Ev (fun k => worldmintref27_Feasible.l1 k l c ((q + 1 : Nat) : Int)) r) : ∀ (d : List Int) (p : Nat), (c.take q).drop p = d → p ≤ q →
  Ev (fun k => worldmintref27_Feasible.l2 k l c (q : Int) (p : Int)) (!(d.any fun w => cf (l.map cv) w x) && r) := by
 have hqc : q < c.length := (List.getElem?_eq_some_iff.1 hq).1
 intro d
 induction d with
 | nil =>
  intro p hd hp
  have hpq : p = q := by
   have := congrArg List.length hd
   simp at this
   omega
  have hw : wrap64 ((q : Int) + 1) = ((q + 1 : Nat) : Int) := by rw [w64 _ (by omega) (by omega)]; omega
  refine Ev.succ ?_
  simp only [worldmintref27_Feasible.l2, if_neg (show ¬ (p : Int) < (q : Int) by omega), hw]
  simpa using hr
 | cons y d ih =>
  intro p hd hp
  obtain ⟨hx, hd', hlt⟩ := drop_cons (c.take q) p y d hd
  have hpq : p < q := by simp at hlt; omega
  have hy : c[p]? = some y := by rw [List.getElem?_take_of_lt hpq] at hx; exact hx
  obtain ⟨hy0, hy1⟩ := hc y (List.mem_of_getElem? hy)
  obtain ⟨hx0, hx1⟩ := hc x (List.mem_of_getElem? hq)
  have hw : wrap64 ((p : Int) + 1) = ((p + 1 : Nat) : Int) := by rw [w64 _ (by omega) (by omega)]; omega
  have hmx : rd_T85 l x ∈ l := by
   have : x.toNat < l.length := by omega
   simp [rd_T85, List.getD, this]
  have hmy : rd_T85 l y ∈ l := by
   have : y.toNat < l.length := by omega
   simp [rd_T85, List.getD, this]
  refine Ev.succ ?_
  simp only [worldmintref27_Feasible.l2, if_pos (show (p : Int) < (q : Int) by omega), if_pos (show (0 : Int) ≤ (q : Int) by omega), if_pos (show (q : Int) < (c.length : Int) by omega), rd_at c q x hq, if_pos hx0, if_pos hx1,
   if_pos (show (0 : Int) ≤ (p : Int) by omega), if_pos (show (p : Int) < (c.length : Int) by omega), rd_at c p y hy, if_pos hy0, if_pos hy1, hw]
  refine Ev.bind (rconf_ok _ _ _ _ _ _ (hb _ hmx) (hb _ hmy)) ?_
  have e : conf ⟨(rd_T85 l y).f0, (rd_T85 l y).f1, (rd_T85 l y).f2⟩ ⟨(rd_T85 l x).f0, (rd_T85 l x).f1, (rd_T85 l x).f2⟩ = cf (l.map cv) y x := by
   unfold cf
   rw [← rdR_cv, ← rdR_cv]
   rfl
  rw [e]
  simp only [List.any_cons]
  cases cf (l.map cv) y x
  ·have := ih (p + 1) hd' (by omega)
   simpa using this
  ·simpa using Ev.some_
theorem rfeas_l1 (l : List S85) (hb : ∀ b ∈ l, b.f2.length ≤ 9223372036854775807) (c : List Int) (hc : ∀ k ∈ c, 0 ≤ k ∧ k < l.length) (hl : c.length ≤ 1000) : ∀ (d : List Int) (q : Nat), c.drop q = d → q ≤ c.length →
  Ev (fun k => worldmintref27_Feasible.l1 k l c (q : Int)) (okS (fun _ => true) (l.map cv) (c.take q) d) := by
 intro d
 induction d with
 | nil =>
  intro q hd hq
  have := drop_nil c q hq hd
  refine Ev.succ ?_
  simp only [worldmintref27_Feasible.l1, if_neg (show ¬ (q : Int) < (c.length : Int) by omega), okS]
  exact Ev.some_
 | cons x d ih =>
  intro q hd hq
  obtain ⟨hx, hd', hlt⟩ := drop_cons c q x d hd
  have h1 := ih (q + 1) hd' (by omega)
  have hg : c[q] = x := by
   have := List.getElem?_eq_getElem hlt
   rw [hx] at this
   injection this with this
   exact this.symm
  rw [List.take_succ_eq_append_getElem hlt, hg] at h1
  have h2 := rfeas_l2 l hb c hc hl q x hx _ h1 (c.take q) 0 rfl (Nat.zero_le _)
  refine Ev.succ ?_
  simp only [worldmintref27_Feasible.l1, if_pos (show (q : Int) < (c.length : Int) by omega), okS, Bool.true_and]
  exact h2
theorem feas_ok (l : List S82) : ∀ (s pre : List Int), (∀ k ∈ s, 0 ≤ k ∧ k < l.length) → s.Pairwise (· < ·) → (∀ p, pre.getLast? = some p → ∀ k ∈ s, p < k) → feasP l pre s = okS (fun _ => true) l pre s
 | [], _, _, _, _ => rfl
 | w :: s, pre, h0, hs, hp => by
  obtain ⟨h1, h2⟩ := List.pairwise_cons.1 hs
  obtain ⟨hw0, hw1⟩ := h0 w (by simp)
  have ih := feas_ok l s (pre ++ [w]) (fun k hk => h0 k (by simp [hk])) h2 (fun p e k hk => by
   rw [List.getLast?_append] at e
   simp at e
   subst e
   exact h1 k hk)
  have key : feasP l pre (w :: s) = (if (pre.any fun v => cf l v w) = true then false else feasP l (pre ++ [w]) s) := by
   simp only [feasP]
   cases hl : pre.getLast? with
   | none => rw [if_neg (by simp; omega)]; rfl
   | some p =>
    have := hp p hl w (by simp)
    rw [if_neg (by simp; omega)]
    rfl
  rw [key, ih]
  simp only [okS, Bool.true_and]
  cases pre.any fun v => cf l v w <;> simp
end Go.Proofs.Ytdamibblnjeooaa.H

/- What the reference of clear computes: by the same plain words. -/
namespace Go.Proofs.Ytdamibblnjeooaa.H
open Go.RowKit Go.Proofs.YtdamibblnjeooaaW.PrintWords Go.Proofs.YtdamibblnjeooaaW.PrintLast
set_option linter.unusedVariables false
set_option linter.unusedSimpArgs false
end Go.Proofs.Ytdamibblnjeooaa.H

/- Bids that are fine. Plain. -/
namespace Go.Proofs.Ytdamibblnjeooaa.H
open Go.RowKit
set_option linter.unusedVariables false
set_option linter.unusedSimpArgs false
/-- A good bid, its price raised. -/
def Fine (n : Int) (b : S82) : Prop := 1 ≤ b.f0 ∧ b.f0 ≤ 1073741824 ∧ 1 ≤ b.f1 ∧ b.f1 ≤ 1000 ∧ b.f2.length ≠ 0 ∧ lotsOk n (-1) b.f2 = true
theorem fine_err (n : Int) : ∀ l : List S82, (∀ b ∈ l, Fine n b) → bidsErr n l = 0
 | [], _ => rfl
 | b :: l, h => by
  obtain ⟨h1, h2, h3, h4, h5, h6⟩ := h b (by simp)
  unfold bidsErr
  rw [if_neg (by simp; omega), if_neg (by simp; omega), if_neg (by simpa using h5), h6]
  simpa using fine_err n l (fun x hx => h x (by simp [hx]))
theorem fine_valid (n : Int) (l : List S82) (h1 : 1 ≤ n) (h8 : n ≤ 8) (hl : l.length ≤ 10) (h : ∀ b ∈ l, Fine n b) : validP n l = 0 := by
 unfold validP
 rw [if_neg (by simp; omega), if_neg (by omega)]
 exact fine_err n l h
end Go.Proofs.Ytdamibblnjeooaa.H

/- Win: a feasible choice. A leaf at the root. Plain. -/
namespace Go.Proofs.Ytdamibblnjeooaa.H
open Go.RowKit Go.Proofs.YtdamibblnjeooaaW.PrintWords Go.Proofs.YtdamibblnjeooaaW.PrintLast
set_option linter.unusedVariables false
set_option linter.unusedSimpArgs false
theorem feas_sel (l : List S82) (s : List Int) (h0 : ∀ k ∈ s, 0 ≤ k ∧ k < l.length) (h1 : s.Pairwise (· < ·)) (h : okS (fun _ => true) l [] s = true) : feasP l [] s = true := by
 rw [feas_ok l s [] h0 h1 (by simp)]; exact h
/-- Decisions, as a row and as two lists. -/
structure DecR (n : Nat) (dec ins outs : List Int) : Prop where
 len : dec.length = n
 li : ins.length ≤ 1000
 lo : outs.length ≤ 1000
 ri : ∀ k ∈ ins, 0 ≤ k ∧ k < n
 i1 : ∀ k : Nat, k < n → (dec.getD k 0 = 1 ↔ (k : Int) ∈ ins)
 i0 : ∀ k : Nat, k < n → (dec.getD k 0 = 0 ↔ ¬ (k : Int) ∈ ins ∧ ¬ (k : Int) ∈ outs)
/-- Is bid i possible, given the two lists? -/
def posL (l : List S82) (ins outs : List Int) (i : Nat) : Bool := (!ins.contains (i : Int) && !outs.contains (i : Int) && !ins.any fun k => conf (l.getD k.toNat z82) (l.getD i z82))
theorem poss_lists (l : List S82) (dec ins outs : List Int) (h : DecR l.length dec ins outs) (i : Nat) (hi : i < l.length) :
  possP l dec i = posL l ins outs i := by
 unfold posL
 have h1 : (List.range dec.length).any (oddsP l dec i) = ins.any fun k => conf (l.getD k.toNat z82) (l.getD i z82) := by
  rw [Bool.eq_iff_iff, List.any_eq_true, List.any_eq_true]
  constructor
  ·rintro ⟨k, hk, ho⟩
   have hk := List.mem_range.1 hk
   unfold oddsP at ho
   simp only [Bool.and_eq_true, decide_eq_true_eq] at ho
   exact ⟨(k : Int), (h.i1 k (by have := h.len; omega)).1 ho.1, by simpa using ho.2⟩
  ·rintro ⟨k, hk, ho⟩
   obtain ⟨r0, r1⟩ := h.ri k hk
   refine ⟨k.toNat, List.mem_range.2 (by have := h.len; omega), ?_⟩
   unfold oddsP
   rw [ho, Bool.and_true]
   exact decide_eq_true ((h.i1 k.toNat (by omega)).2 (by rwa [show ((k.toNat : Nat) : Int) = k by omega]))
 unfold possP
 rw [h1]
 congr 1
 rw [Bool.eq_iff_iff]
 simp only [decide_eq_true_eq, Bool.and_eq_true, Bool.not_eq_true', ← Bool.not_eq_true, List.contains_iff_mem]
 exact h.i0 i hi
theorem rposL_ok (l : List S85) (hb : ∀ b ∈ l, b.f2.length ≤ 9223372036854775807) (ins outs : List Int) (hli : ins.length ≤ 1000) (hlo : outs.length ≤ 1000) (hri : ∀ k ∈ ins, 0 ≤ k ∧ k < (l.length : Int)) (i : Nat) (hi : i < l.length) :
  Ev (fun k => worldmintref29_possible.f k l ins outs (i : Int)) (posL (l.map cv) ins outs i) := by
 unfold posL
 have hl0 : ∀ (d : List Int) (p : Nat), ins.drop p = d → p ≤ ins.length → Ev (fun k => worldmintref29_possible.l0 k l ins (i : Int) (p : Int)) (!d.any fun k => conf ((l.map cv).getD k.toNat z82) ((l.map cv).getD i z82)) := by
  intro d
  induction d with
  | nil =>
   intro p hd hp
   have := drop_nil ins p hp hd
   refine Ev.succ ?_
   simp only [worldmintref29_possible.l0, if_neg (show ¬ (p : Int) < (ins.length : Int) by omega), List.any_nil, Bool.not_false]
   exact Ev.some_
  | cons y d ih =>
   intro p hd hp
   obtain ⟨hx, hd', hlt⟩ := drop_cons ins p y d hd
   have hw : wrap64 ((p : Int) + 1) = ((p + 1 : Nat) : Int) := by rw [w64 _ (by omega) (by omega)]; omega
   have h1 := ih (p + 1) hd' (by omega)
   have hy := hri y (List.mem_of_getElem? hx)
   have c0 : (p : Int) < (ins.length : Int) := by omega
   have c1 : (0 : Int) ≤ (p : Int) := by omega
   have c2 : (0 : Int) ≤ (i : Int) := by omega
   have c3 : (i : Int) < (l.length : Int) := by omega
   have hby := hb (rd_T85 l y) (by simp [rd_T85, List.getD, show y.toNat < l.length by omega])
   have hbi := hb (rd_T85 l (i : Int)) (by simp [rd_T85, List.getD, hi])
   have hr := rconf_ok (rd_T85 l y).f0 (rd_T85 l y).f1 (rd_T85 l y).f2 (rd_T85 l (i : Int)).f0 (rd_T85 l (i : Int)).f1 (rd_T85 l (i : Int)).f2 hby hbi
   rw [conf_comm] at hr
   have e1 : (l.map cv).getD y.toNat z82 = ⟨(rd_T85 l y).f0, (rd_T85 l y).f1, (rd_T85 l y).f2⟩ := by
    simp [rd_T85, List.getD, show y.toNat < l.length by omega, cv]
   have e2 : (l.map cv).getD i z82 = ⟨(rd_T85 l (i : Int)).f0, (rd_T85 l (i : Int)).f1, (rd_T85 l (i : Int)).f2⟩ := by
    simp [rd_T85, List.getD, hi, cv]
   refine Ev.succ ?_
   simp only [worldmintref29_possible.l0, if_pos c0, if_pos c1, if_pos hy.1, if_pos hy.2, if_pos c2, if_pos c3, rd_at ins p y hx, hw]
   refine Ev.bind hr ?_
   rw [List.any_cons, e1]
   rw [e2] at h1 ⊢
   cases hc : conf ⟨(rd_T85 l y).f0, (rd_T85 l y).f1, (rd_T85 l y).f2⟩ ⟨(rd_T85 l (i : Int)).f0, (rd_T85 l (i : Int)).f1, (rd_T85 l (i : Int)).f2⟩
   ·simp only [Bool.false_eq_true, if_false, Bool.false_or]
    exact h1
   ·simp only [if_true, Bool.true_or, Bool.not_true]
    exact Ev.some_
 unfold worldmintref29_possible.f
 refine Ev.bind (has_ok ins (i : Int) (by omega)) ?_
 cases hc : ins.contains (i : Int)
 ·simp only [Bool.false_eq_true, if_false]
  refine Ev.bind (has_ok outs (i : Int) (by omega)) ?_
  refine Ev.succ ?_
  cases hc2 : outs.contains (i : Int)
  ·simp only [worldmintref29_possible.j0, Bool.false_eq_true, if_false, Bool.not_false, Bool.true_and]
   exact hl0 ins 0 rfl (Nat.zero_le _)
  ·simp only [worldmintref29_possible.j0, if_true, Bool.not_true, Bool.and_false, Bool.false_and]
   exact Ev.some_
 ·simp only [if_true]
  refine Ev.succ ?_
  simp only [worldmintref29_possible.j0, if_true, Bool.not_true, Bool.false_and]
  exact Ev.some_
theorem rposs_ok (l : List S85) (hb : ∀ b ∈ l, b.f2.length ≤ 9223372036854775807) (dec ins outs : List Int) (h : DecR l.length dec ins outs) (i : Nat) (hi : i < l.length) :
  Ev (fun k => worldmintref29_possible.f k l ins outs (i : Int)) (possP (l.map cv) dec i) := by
 have hlm : (l.map cv).length = l.length := List.length_map ..
 rw [poss_lists (l.map cv) dec ins outs (by rw [hlm]; exact h) i (by omega)]
 exact rposL_ok l hb ins outs h.li h.lo h.ri i hi
end Go.Proofs.Ytdamibblnjeooaa.H

/- The sum of a map of greatest surpluses, as the references reckon it: for each first bid of a bidder the greatest one. Plain. -/
namespace Go.Proofs.Ytdamibblnjeooaa.H
open Go.RowKit
set_option linter.unusedVariables false
set_option linter.unusedSimpArgs false
/-- The map, entry by entry. -/
def spG (can : Nat → Bool) (key sv : Nat → Int) (m : Nat) : List (Int × Int) := (List.range m).foldl (fun s i => if can i then addS s (key i) (sv i) else s) []
/-- The greatest one of a bidder. -/
def gS (can : Nat → Bool) (key sv : Nat → Int) (x : Int) (m : Nat) : Int := (List.range m).foldl (fun t k => if can k = true ∧ key k = x ∧ t < sv k then sv k else t) 0
def firstB (key : Nat → Int) (i : Nat) : Bool := (List.range i).all fun k => decide (key k ≠ key i)
/-- What the references add. -/
def sumG (G : Int → Int) (key : Nat → Int) (m : Nat) : Int := ((List.range m).map fun i => if firstB key i then G (key i) else 0).sum
theorem spG_succ (can : Nat → Bool) (key sv : Nat → Int) (m : Nat) : spG can key sv (m + 1) = if can m then addS (spG can key sv m) (key m) (sv m) else spG can key sv m := by
 unfold spG; rw [List.range_succ, List.foldl_append]; rfl
theorem gS_succ (can : Nat → Bool) (key sv : Nat → Int) (x : Int) (m : Nat) : gS can key sv x (m + 1) = if can m = true ∧ key m = x ∧ gS can key sv x m < sv m then sv m else gS can key sv x m := by
 unfold gS; rw [List.range_succ, List.foldl_append]; rfl
theorem sumG_succ (G : Int → Int) (key : Nat → Int) (m : Nat) : sumG G key (m + 1) = sumG G key m + if firstB key m then G (key m) else 0 := by
 unfold sumG; rw [List.range_succ, List.map_append, List.sum_append]; simp
theorem look_addS (k s x : Int) : ∀ M : List (Int × Int), lookI (addS M k s) x = if x = k then some (if (lookI M k).getD 0 < s then s else (lookI M k).getD 0) else lookI M x
 | [] => by
  by_cases h : x = k
  ·subst h
   simp only [addS, lookI, if_true, Option.getD_none]
   first | rfl | (by_cases g : 0 < s <;> simp [g])
  ·rw [if_neg h]
   simp only [addS, lookI]
   rw [if_neg (fun e => h e.symm)]
 | (j, v) :: M => by
  have ih := look_addS k s x M
  by_cases hj : j = k
  ·subst hj
   simp only [addS, if_true, lookI]
   by_cases h : j = x
   ·subst h; simp
   ·rw [if_neg h, if_neg (fun e => h e.symm), if_neg h]
  ·simp only [addS, if_neg hj, lookI]
   by_cases h : j = x
   ·subst h
    rw [if_pos rfl, if_neg hj, if_pos rfl]
   ·rw [if_neg h, ih, if_neg h]
theorem keys_addS (k s : Int) : ∀ M : List (Int × Int), ∀ y, y ∈ (addS M k s).map (·.1) ↔ y = k ∨ y ∈ M.map (·.1)
 | [], y => by simp [addS]
 | (j, v) :: M, y => by
  have ih := keys_addS k s M y
  by_cases hj : j = k
  ·subst hj; simp [addS]
  ·simp only [addS, if_neg hj, List.map_cons, List.mem_cons, ih]
   constructor
   ·rintro (h | h | h)
    ·exact .inr (.inl h)
    ·exact .inl h
    ·exact .inr (.inr h)
   ·rintro (h | h | h)
    ·exact .inr (.inl h)
    ·exact .inl h
    ·exact .inr (.inr h)
theorem nodup_addS (k s : Int) : ∀ M : List (Int × Int), (M.map (·.1)).Nodup → ((addS M k s).map (·.1)).Nodup
 | [], _ => by simp [addS]
 | (j, v) :: M, h => by
  simp only [List.map_cons, List.nodup_cons] at h
  by_cases hj : j = k
  ·subst hj; simpa [addS] using h
  ·simp only [addS, if_neg hj, List.map_cons, List.nodup_cons]
   refine ⟨fun hm => ?_, nodup_addS k s M h.2⟩
   rcases (keys_addS k s M j).1 hm with e | e
   ·exact hj e
   ·exact h.1 e
theorem spG_nodup (can : Nat → Bool) (key sv : Nat → Int) : ∀ m, ((spG can key sv m).map (·.1)).Nodup
 | 0 => by simp [spG]
 | m + 1 => by
  rw [spG_succ]
  split
  ·exact nodup_addS _ _ _ (spG_nodup can key sv m)
  ·exact spG_nodup can key sv m
theorem spG_look (can : Nat → Bool) (key sv : Nat → Int) (x : Int) : ∀ m, (lookI (spG can key sv m) x).getD 0 = gS can key sv x m
 | 0 => rfl
 | m + 1 => by
  have ih := spG_look can key sv x m
  rw [spG_succ, gS_succ]
  by_cases hc : can m = true
  ·rw [if_pos hc, look_addS]
   by_cases hx : x = key m
   ·subst hx
    rw [if_pos rfl, ih]
    by_cases hlt : gS can key sv (key m) m < sv m
    ·rw [if_pos hlt, if_pos ⟨hc, rfl, hlt⟩]; rfl
    ·rw [if_neg hlt, if_neg (fun h => hlt h.2.2)]; rfl
   ·rw [if_neg hx, ih, if_neg (fun h => hx h.2.1.symm)]
  ·rw [if_neg hc, ih, if_neg (fun h => hc h.1)]
theorem spG_keys (can : Nat → Bool) (key sv : Nat → Int) : ∀ m y, y ∈ (spG can key sv m).map (·.1) → ∃ k, k < m ∧ key k = y
 | 0, y, h => by simp [spG] at h
 | m + 1, y, h => by
  rw [spG_succ] at h
  split at h
  ·rcases (keys_addS _ _ _ y).1 h with e | e
   ·exact ⟨m, by omega, e.symm⟩
   ·obtain ⟨k, hk, e⟩ := spG_keys can key sv m y e
    exact ⟨k, by omega, e⟩
  ·obtain ⟨k, hk, e⟩ := spG_keys can key sv m y h
   exact ⟨k, by omega, e⟩
theorem look_none (x : Int) : ∀ M : List (Int × Int), ¬ x ∈ M.map (·.1) → lookI M x = none
 | [], _ => rfl
 | (j, v) :: M, h => by
  simp only [List.map_cons, List.mem_cons, not_or] at h
  simp only [lookI, if_neg (fun e : j = x => h.1 e.symm)]
  exact look_none x M h.2
theorem vals_sum : ∀ M : List (Int × Int), (M.map (·.1)).Nodup → (M.map (·.2)).sum = ((M.map (·.1)).map fun x => (lookI M x).getD 0).sum
 | [], _ => rfl
 | (j, v) :: M, h => by
  simp only [List.map_cons, List.nodup_cons] at h
  have ih := vals_sum M h.2
  simp only [List.map_cons, List.sum_cons, lookI, if_true, Option.getD_some]
  rw [ih]
  congr 2
  refine List.map_congr_left (fun x hx => ?_)
  rw [if_neg (fun e : j = x => h.1 (e ▸ hx))]
theorem sum_erase (G : Int → Int) (a : Int) : ∀ K : List Int, a ∈ K → (K.map G).sum = G a + ((K.erase a).map G).sum
 | [], h => by cases h
 | b :: K, h => by
  by_cases e : b = a
  ·subst e; simp
  ·have h2 : a ∈ K := by
    rcases List.mem_cons.1 h with h | h
    ·exact absurd h.symm e
    ·exact h
   rw [List.erase_cons_tail (by simpa using e)]
   simp only [List.map_cons, List.sum_cons]
   rw [sum_erase G a K h2]; omega
theorem sumG_congr (G G' : Int → Int) (key : Nat → Int) : ∀ m, (∀ i, i < m → G (key i) = G' (key i)) → sumG G key m = sumG G' key m
 | 0, _ => rfl
 | m + 1, h => by rw [sumG_succ, sumG_succ, sumG_congr G G' key m (fun i hi => h i (by omega)), h m (by omega)]
theorem first_sum (key : Nat → Int) : ∀ (m : Nat) (G : Int → Int) (K : List Int), K.Nodup → (∀ x ∈ K, ∃ k, k < m ∧ key k = x) → (∀ x, ¬ x ∈ K → G x = 0) → sumG G key m = (K.map G).sum
 | 0, G, K, _, hk, _ => by
  have : K = [] := by
   cases K with
   | nil => rfl
   | cons x K => obtain ⟨k, hk, _⟩ := hk x (by simp); omega
  subst this; rfl
 | m + 1, G, K, hn, hk, hz => by
  rw [sumG_succ]
  cases hf : firstB key m
  ·obtain ⟨q, hq, he⟩ : ∃ q, q < m ∧ key q = key m := by
    unfold firstB at hf
    obtain ⟨q, hq, h⟩ := List.all_eq_false.1 hf
    exact ⟨q, List.mem_range.1 hq, by simpa using h⟩
   simp only [Bool.false_eq_true, if_false, Int.add_zero]
   refine first_sum key m G K hn (fun x hx => ?_) hz
   obtain ⟨k, hk1, e⟩ := hk x hx
   rcases Nat.lt_succ_iff_lt_or_eq.1 hk1 with h | rfl
   ·exact ⟨k, h, e⟩
   ·exact ⟨q, hq, he.trans e⟩
  ·have hne : ∀ q, q < m → key q ≠ key m := fun q hq => by
    unfold firstB at hf
    simpa using List.all_eq_true.1 hf q (List.mem_range.2 hq)
   simp only [if_true]
   by_cases hm : key m ∈ K
   ·rw [sum_erase G (key m) K hm]
    have h1 := first_sum key m (fun x => if x = key m then 0 else G x) (K.erase (key m)) (hn.erase _) (fun x hx => by
     obtain ⟨k, hk1, e⟩ := hk x (List.mem_of_mem_erase hx)
     rcases Nat.lt_succ_iff_lt_or_eq.1 hk1 with h | rfl
     ·exact ⟨k, h, e⟩
     ·exact absurd e.symm ((List.Nodup.mem_erase_iff hn).1 hx).1) (fun x hx => by
     by_cases e : x = key m
     ·simp [e]
     ·simp only [if_neg e]
      exact hz x (fun h => hx ((List.Nodup.mem_erase_iff hn).2 ⟨e, h⟩)))
    have h2 : sumG G key m = sumG (fun x => if x = key m then 0 else G x) key m := sumG_congr _ _ key m (fun i hi => by simp [hne i hi])
    have h3 : ((K.erase (key m)).map fun x => if x = key m then 0 else G x) = (K.erase (key m)).map G := List.map_congr_left (fun x hx => if_neg ((List.Nodup.mem_erase_iff hn).1 hx).1)
    rw [h2, h1, h3]; omega
   ·rw [hz _ hm, Int.add_zero]
    refine first_sum key m G K hn (fun x hx => ?_) hz
    obtain ⟨k, hk1, e⟩ := hk x hx
    rcases Nat.lt_succ_iff_lt_or_eq.1 hk1 with h | rfl
    ·exact ⟨k, h, e⟩
    ·exact absurd (e ▸ hx) hm
/-- The sum of the map's values. -/
theorem spG_sum (can : Nat → Bool) (key sv : Nat → Int) (m : Nat) : ((spG can key sv m).map (·.2)).sum = sumG (fun x => gS can key sv x m) key m := by
 rw [vals_sum _ (spG_nodup can key sv m)]
 have h : (fun x => (lookI (spG can key sv m) x).getD 0) = fun x => gS can key sv x m := funext fun x => spG_look can key sv x m
 rw [h]
 refine (first_sum key m _ _ (spG_nodup can key sv m) (fun x hx => spG_keys can key sv m x hx) (fun x hx => ?_)).symm
 rw [← spG_look, look_none x _ hx]; rfl
end Go.Proofs.Ytdamibblnjeooaa.H

/- The reference's Bound (chapter 29) is the checker's. Plain. -/
namespace Go.Proofs.Ytdamibblnjeooaa.H
open Go.RowKit Go.Proofs.YtdamibblnjeooaaW.PrintWords Go.Proofs.YtdamibblnjeooaaW.PrintLast
set_option linter.unusedVariables false
set_option linter.unusedSimpArgs false
/-- What is known of the bids and the prices. -/
structure BOk (L : List S85) (ps : List Int) : Prop where
 l10 : L.length ≤ 10
 p8 : ps.length ≤ 8
 pr : ∀ x ∈ ps, 0 ≤ x ∧ x ≤ 1099511627776
 f1 : ∀ b ∈ L, 1 ≤ b.f1 ∧ b.f1 ≤ 1099511627776
 f2 : ∀ b ∈ L, b.f2.length ≤ 8 ∧ ∀ k ∈ b.f2, 0 ≤ k ∧ k < ps.length
theorem surp_hi {L : List S85} {ps : List Int} (ok : BOk L ps) (b : S85) (hb : b ∈ L) : surp ps (cv b) ≤ 1099511627776 := by
 have h1 := lots_sum ps ok.pr b.f2
 have h2 := ok.f1 b hb
 unfold surp
 show b.f1 - (b.f2.map fun k => ps.getD k.toNat 0).sum ≤ _
 omega
theorem rs_len (ks d : List Int) (y : Int) (p : Nat) (hd : ks.drop p = y :: d) (hlt : p < ks.length) (h8 : ks.length ≤ 8) : wrap64 ((p : Int) + 1) = ((p + 1 : Nat) : Int) ∧ d.length ≤ 8 ∧ (ks.take p).length ≤ 8 ∧ (0 : Int) ≤ (p : Int) ∧ (p : Int) < (ks.length : Int) := by
 have h1 := congrArg List.length hd
 simp only [List.length_drop, List.length_cons] at h1
 refine ⟨by rw [w64 _ (by omega) (by omega)]; omega, by omega, by rw [List.length_take]; omega, by omega, by omega⟩
theorem lots_le8 {L : List S85} {ps : List Int} (ok : BOk L ps) (ks : List Int) (h : ks.length ≤ 8) : 0 ≤ (ks.map fun k => ps.getD k.toNat 0).sum ∧ (ks.map fun k => ps.getD k.toNat 0).sum ≤ 8796093022208 := by
 have h1 := lots_sum ps ok.pr ks
 generalize (ks.map fun k => ps.getD k.toNat 0).sum = s at *
 generalize ks.length = n at *
 omega
theorem rs_step (s g a b c f v : Int) (hs : s = v + (g + a)) (hsum : c = b + (g + a)) (hsp : v = f - c) (hb1 : 0 ≤ b ∧ b ≤ 8796093022208) (hb2 : 0 ≤ a ∧ a ≤ 8796093022208) (hb3 : 1 ≤ f ∧ f ≤ 1099511627776) (hb4 : 0 ≤ c ∧ c ≤ 8796093022208) : wrap64 (s - g) = v + a := by
 rw [w64 _ (by omega) (by omega)]; omega
theorem all_range_succ (f : Nat → Bool) (m : Nat) : (List.range (m + 1)).all f = ((List.range m).all f && f m) := by
 rw [List.range_succ, List.all_append]; simp
theorem rb_len (i p d n : Nat) (hd : i - p = d + 1) (hp : p ≤ i) (hi : i < n) (h : n ≤ 10) : p < n ∧ wrap64 ((p : Int) + 1) = ((p + 1 : Nat) : Int) ∧ i - (p + 1) = d ∧ p + 1 ≤ i ∧ (p : Int) < (i : Int) ∧ (p : Int) < (n : Int) := by
 refine ⟨by omega, by rw [w64 _ (by omega) (by omega)]; omega, by omega, by omega, by omega, by omega⟩
def keyC (l : List S82) (i : Nat) : Int := (l.getD i z82).f0
def svC (l : List S82) (ps : List Int) (i : Nat) : Int := surp ps (l.getD i z82)
theorem map_getD (L : List S85) (i : Nat) (b : S85) (h : L[i]? = some b) : (L.map cv).getD i z82 = cv b := by
 simp [List.getD, h]
theorem gC_bounds {L : List S85} {ps : List Int} (ok : BOk L ps) (can : Nat → Bool) (x : Int) : ∀ m, m ≤ L.length → 0 ≤ gS can (keyC (L.map cv)) (svC (L.map cv) ps) x m ∧ gS can (keyC (L.map cv)) (svC (L.map cv) ps) x m ≤ 1099511627776
 | 0, _ => by simp [gS]
 | m + 1, h => by
  have ih := gC_bounds ok can x m (by omega)
  have hb : L[m]? = some L[m] := List.getElem?_eq_getElem (by omega)
  have hs := surp_hi ok L[m] (List.getElem_mem (by omega))
  have hv : svC (L.map cv) ps m = surp ps (cv L[m]) := by unfold svC; rw [map_getD L m _ hb]
  rw [gS_succ, hv]
  split
  ·rename_i hc; omega
  ·exact ih
section
variable {L : List S85} {ps : List Int} (ok : BOk L ps) (dec ins outs : List Int) (hd : DecR L.length dec ins outs)
include ok
theorem b9_l5 (acc : Int) (q : Nat) (hq : q < L.length) (i : Nat) (b : S85) (hb : L[i]? = some b) (can : Bool) (out r : Int)
  (hnext : Ev (fun k => worldmintref29_Bound.l4 k L ins outs ps acc (q : Int) (if can = true ∧ b.f0 = keyC (L.map cv) q ∧ out < surp ps (cv b) then surp ps (cv b) else out) ((i + 1 : Nat) : Int)) r) :
  ∀ (d : List Int) (p : Nat) (s : Int), b.f2.drop p = d → p ≤ b.f2.length → s = surp ps (cv b) + (d.map fun k => ps.getD k.toNat 0).sum → Ev (fun k => worldmintref29_Bound.l5 k L ins outs ps acc (q : Int) out (i : Int) can s (p : Int)) r := by
 obtain ⟨hi, hbm⟩ := List.getElem?_eq_some_iff.1 hb
 have hmem : b ∈ L := by rw [← hbm]; exact List.getElem_mem hi
 have h10 := ok.l10
 have hrd := rdR_at L i b hb
 have hf2 := ok.f2 b hmem
 have hbq : L[q]? = some L[q] := List.getElem?_eq_getElem hq
 have hkq : keyC (L.map cv) q = L[q].f0 := by unfold keyC; rw [map_getD L q _ hbq]; rfl
 have hrq := rdR_at L q _ hbq
 have hwi : wrap64 ((i : Int) + 1) = ((i + 1 : Nat) : Int) := by rw [w64 _ (by omega) (by omega)]; omega
 intro d
 induction d with
 | nil =>
  intro p s hd hp hs
  have hpe := drop_nil b.f2 p hp hd
  simp only [List.map_nil, List.sum_nil, Int.add_zero] at hs
  subst hs
  refine Ev.succ ?_
  simp only [worldmintref29_Bound.l5, hrd, hrq, if_pos (show (0 : Int) ≤ (i : Int) by omega), if_pos (show (i : Int) < (L.length : Int) by omega), if_neg (show ¬ (p : Int) < (b.f2.length : Int) by omega), hwi, if_pos (show (0 : Int) ≤ (q : Int) by omega), if_pos (show (q : Int) < (L.length : Int) by omega)]
  rw [hkq] at hnext
  cases can
  ·simp only [Bool.false_eq_true, if_false, false_and] at hnext ⊢
   exact hnext
  ·simp only [if_true, true_and] at hnext ⊢
   by_cases h1 : b.f0 = L[q].f0
   ·simp only [if_pos h1]
    by_cases h2 : out < surp ps (cv b)
    ·rw [if_pos ⟨h1, h2⟩] at hnext
     simp only [if_pos (show surp ps (cv b) > out from h2)]
     exact hnext
    ·rw [if_neg (fun h => h2 h.2)] at hnext
     simp only [if_neg (show ¬ surp ps (cv b) > out from h2)]
     exact hnext
   ·rw [if_neg (fun h => h1 h.1)] at hnext
    simp only [if_neg h1]
    exact hnext
 | cons y d ih =>
  intro p s hd hp hs
  obtain ⟨hy, hd', hlt⟩ := drop_cons b.f2 p y d hd
  obtain ⟨hy0, hy1⟩ := hf2.2 y (List.mem_of_getElem? hy)
  obtain ⟨hwp, hdl, hbt, hpp, hpi⟩ := rs_len b.f2 d y p hd hlt hf2.1
  have hrp : rd ps y = ps.getD y.toNat 0 := rfl
  have hsum : (b.f2.map fun k => ps.getD k.toNat 0).sum = ((b.f2.take p).map fun k => ps.getD k.toNat 0).sum + ((y :: d).map fun k => ps.getD k.toNat 0).sum := by
   rw [← hd, ← List.sum_append, ← List.map_append, List.take_append_drop]
  have hb1 := lots_le8 ok (b.f2.take p) hbt
  have hb2 := lots_le8 ok d hdl
  have hb3 := ok.f1 b hmem
  have hsp : surp ps (cv b) = b.f1 - (b.f2.map fun k => ps.getD k.toNat 0).sum := rfl
  simp only [List.map_cons, List.sum_cons] at hs hsum
  have hw2 : wrap64 (s - ps.getD y.toNat 0) = surp ps (cv b) + (d.map fun k => ps.getD k.toNat 0).sum := rs_step _ _ _ _ _ _ _ hs hsum hsp hb1 hb2 hb3 (lots_le8 ok b.f2 hf2.1)
  refine Ev.succ ?_
  simp only [worldmintref29_Bound.l5, hrd, if_pos (show (0 : Int) ≤ (i : Int) by omega), if_pos (show (i : Int) < (L.length : Int) by omega), if_pos hpi, if_pos hpp, rd_at b.f2 p y hy, if_pos hy0, if_pos hy1, hrp, hw2, hwp]
  exact ih (p + 1) _ hd' hlt rfl
include hd
theorem b9_l4 (acc : Int) (q : Nat) (hq : q < L.length) (r : Int) (hnext : Ev (fun k => worldmintref29_Bound.l2 k L ins outs ps (wrap64 (acc + gS (possP (L.map cv) dec) (keyC (L.map cv)) (svC (L.map cv) ps) (keyC (L.map cv) q) L.length)) (wrap64 ((q : Int) + 1))) r) :
  ∀ (d i : Nat), L.length - i = d → i ≤ L.length → Ev (fun k => worldmintref29_Bound.l4 k L ins outs ps acc (q : Int) (gS (possP (L.map cv) dec) (keyC (L.map cv)) (svC (L.map cv) ps) (keyC (L.map cv) q) i) (i : Int)) r := by
 have h10 := ok.l10
 intro d
 induction d with
 | zero =>
  intro i hd hi
  obtain rfl : i = L.length := by omega
  refine Ev.succ ?_
  simp only [worldmintref29_Bound.l4, if_neg (show ¬ (L.length : Int) < (L.length : Int) by omega)]
  exact hnext
 | succ d ih =>
  intro i hdi hi
  have hil : i < L.length := by omega
  have hb : L[i]? = some L[i] := List.getElem?_eq_getElem hil
  have hn := ih (i + 1) (by omega) (by omega)
  have hk : keyC (L.map cv) i = L[i].f0 := by unfold keyC; rw [map_getD L i _ hb]; rfl
  have hv : svC (L.map cv) ps i = surp ps (cv L[i]) := by unfold svC; rw [map_getD L i _ hb]
  have hposs := rposs_ok L (fun b hb => by have := (ok.f2 b hb).1; omega) dec ins outs hd i hil
  rw [gS_succ, hv] at hn
  have hin := b9_l5 ok ins outs acc q hq i L[i] hb (possP (L.map cv) dec i) _ _ (by rw [← hk]; exact hn) L[i].f2 0 L[i].f1 rfl (Nat.zero_le _) (by
   show L[i].f1 = L[i].f1 - (L[i].f2.map fun k => ps.getD k.toNat 0).sum + _
   omega)
  refine Ev.succ ?_
  simp only [worldmintref29_Bound.l4, if_pos (show (i : Int) < (L.length : Int) by omega), if_pos (show (0 : Int) ≤ (i : Int) by omega), rdR_at L i _ hb]
  exact Ev.bind hposs hin
omit hd in
theorem b9_sum (m : Nat) (hm : m ≤ L.length) : 0 ≤ sumG (fun x => gS (possP (L.map cv) dec) (keyC (L.map cv)) (svC (L.map cv) ps) x L.length) (keyC (L.map cv)) m ∧ sumG (fun x => gS (possP (L.map cv) dec) (keyC (L.map cv)) (svC (L.map cv) ps) x L.length) (keyC (L.map cv)) m ≤ m * 1099511627776 := by
 induction m with
 | zero => simp [sumG]
 | succ m ih =>
  have ih := ih (by omega)
  have hg := gC_bounds ok (possP (L.map cv) dec) (keyC (L.map cv) m) L.length (Nat.le_refl _)
  rw [sumG_succ]
  split <;> omega
omit hd in
theorem b9_l3 (i : Nat) (hi : i < L.length) (acc : Int) (r : Int) (hnext : Ev (fun k => if firstB (keyC (L.map cv)) i = true then worldmintref29_Bound.l4 k L ins outs ps acc (i : Int) 0 0 else worldmintref29_Bound.l2 k L ins outs ps acc ((i + 1 : Nat) : Int)) r) :
  ∀ (d p : Nat), i - p = d → p ≤ i → Ev (fun k => worldmintref29_Bound.l3 k L ins outs ps acc (i : Int) ((List.range p).all fun k => decide (keyC (L.map cv) k ≠ keyC (L.map cv) i)) (p : Int)) r := by
 have h10 := ok.l10
 have hb : L[i]? = some L[i] := List.getElem?_eq_getElem hi
 have hk : keyC (L.map cv) i = L[i].f0 := by unfold keyC; rw [map_getD L i _ hb]; rfl
 have hwi : wrap64 ((i : Int) + 1) = ((i + 1 : Nat) : Int) := by rw [w64 _ (by omega) (by omega)]; omega
 intro d
 induction d with
 | zero =>
  intro p hd hp
  obtain rfl : p = i := by omega
  refine Ev.succ ?_
  have hfb : ((List.range p).all fun k => decide (keyC (L.map cv) k ≠ keyC (L.map cv) p)) = firstB (keyC (L.map cv)) p := rfl
  simp only [worldmintref29_Bound.l3, if_neg (show ¬ (p : Int) < (p : Int) by omega), hfb]
  cases hf : firstB (keyC (L.map cv)) p
  ·rw [hf] at hnext
   simp only [Bool.false_eq_true, if_false] at hnext ⊢
   rw [hwi]
   exact hnext
  ·rw [hf] at hnext
   simp only [if_true] at hnext ⊢
   exact hnext
 | succ d ih =>
  intro p hd hp
  obtain ⟨hpl, hwp, e1, e2, e3, e4⟩ := rb_len i p d L.length hd hp hi h10
  have hbp : L[p]? = some L[p] := List.getElem?_eq_getElem hpl
  have hkp : keyC (L.map cv) p = L[p].f0 := by unfold keyC; rw [map_getD L p _ hbp]; rfl
  have hn := ih (p + 1) e1 e2
  rw [all_range_succ] at hn
  refine Ev.succ ?_
  simp only [worldmintref29_Bound.l3, if_pos e3]
  cases hf : (List.range p).all fun k => decide (keyC (L.map cv) k ≠ keyC (L.map cv) i)
  ·rw [hf] at hn
   simp only [Bool.false_and] at hn
   simp only [Bool.false_eq_true, if_false, hwp]
   exact hn
  ·rw [hf] at hn
   simp only [Bool.true_and] at hn
   have hd2 : decide (keyC (L.map cv) p ≠ keyC (L.map cv) i) = (L[p].f0 != L[i].f0) := by rw [hkp, hk]; by_cases h : L[p].f0 = L[i].f0 <;> simp [h]
   rw [hd2] at hn
   simp only [if_true, if_pos (Int.natCast_nonneg p), if_pos (Int.natCast_nonneg i), if_pos e4, if_pos (Int.ofNat_lt.2 hi), rdR_at L p _ hbp, rdR_at L i _ hb, hwp]
   exact hn
theorem b9_l2 (s : Int) (hs0 : 0 ≤ s) (hs1 : s ≤ 20 * 1099511627776) : Ev (fun k => worldmintref29_Bound.l2 k L ins outs ps s 0) (s + ((spS (L.map cv) dec ps L.length).map (·.2)).sum) := by
 have h10 := ok.l10
 have hsp : ((spS (L.map cv) dec ps L.length).map (·.2)).sum = sumG (fun x => gS (possP (L.map cv) dec) (keyC (L.map cv)) (svC (L.map cv) ps) x L.length) (keyC (L.map cv)) L.length := spG_sum (possP (L.map cv) dec) (keyC (L.map cv)) (svC (L.map cv) ps) L.length
 rw [hsp]
 have : ∀ (d i : Nat), L.length - i = d → i ≤ L.length → Ev (fun k => worldmintref29_Bound.l2 k L ins outs ps (s + sumG (fun x => gS (possP (L.map cv) dec) (keyC (L.map cv)) (svC (L.map cv) ps) x L.length) (keyC (L.map cv)) i) (i : Int)) (s + sumG (fun x => gS (possP (L.map cv) dec) (keyC (L.map cv)) (svC (L.map cv) ps) x L.length) (keyC (L.map cv)) L.length) := by
  intro d
  induction d with
  | zero =>
   intro i hd hi
   obtain rfl : i = L.length := by omega
   refine Ev.succ ?_
   simp only [worldmintref29_Bound.l2, if_neg (show ¬ (L.length : Int) < (L.length : Int) by omega)]
   exact Ev.some_
  | succ d ih =>
   intro i hdi hi
   have hil : i < L.length := by omega
   have hn := ih (i + 1) (by omega) (by omega)
   have hsb := b9_sum ok dec i (by omega)
   have hg := gC_bounds ok (possP (L.map cv) dec) (keyC (L.map cv) i) L.length (Nat.le_refl _)
   rw [sumG_succ] at hn
   have hwi : wrap64 ((i : Int) + 1) = ((i + 1 : Nat) : Int) := by rw [w64 _ (by omega) (by omega)]; omega
   have h2 := b9_l3 ok ins outs i hil (s + sumG (fun x => gS (possP (L.map cv) dec) (keyC (L.map cv)) (svC (L.map cv) ps) x L.length) (keyC (L.map cv)) i) (s + sumG (fun x => gS (possP (L.map cv) dec) (keyC (L.map cv)) (svC (L.map cv) ps) x L.length) (keyC (L.map cv)) L.length) (by
    cases hf : firstB (keyC (L.map cv)) i
    ·rw [hf] at hn
     simp only [Bool.false_eq_true, if_false, Int.add_zero] at hn ⊢
     exact hn
    ·rw [hf] at hn
     simp only [if_true] at hn ⊢
     refine b9_l4 ok dec ins outs hd _ i hil _ ?_ L.length 0 rfl (Nat.zero_le _)
     rw [hwi, w64 _ (by omega) (by omega), Int.add_assoc]
     exact hn) i 0 (by omega) (Nat.zero_le _)
   refine Ev.succ ?_
   simp only [worldmintref29_Bound.l2, if_pos (show (i : Int) < (L.length : Int) by omega)]
   exact h2
 have h := this _ 0 rfl (Nat.zero_le _)
 simpa [sumG] using h
/-- Is lot k free of the bids that are in? -/
def freeB (L : List S85) (xs : List Int) (k : Nat) : Bool := xs.all fun y => !(rd_T85 L y).f2.contains (k : Int)
omit hd in
theorem b9_l1 (hri : ∀ k ∈ ins, 0 ≤ k ∧ k < (L.length : Int)) (hli : ins.length ≤ 1000) (q : Nat) (hq : q < ps.length) (acc r : Int) (hnext : Ev (fun k => if freeB L ins q = true then worldmintref29_Bound.l0 k L ins outs ps (wrap64 (acc + ps.getD q 0)) ((q + 1 : Nat) : Int) else worldmintref29_Bound.l0 k L ins outs ps acc ((q + 1 : Nat) : Int)) r) :
  ∀ (d : List Int) (p : Nat), ins.drop p = d → p ≤ ins.length → Ev (fun k => worldmintref29_Bound.l1 k L ins outs ps acc (q : Int) (freeB L (ins.take p) q) (p : Int)) r := by
 have h8 := ok.p8
 have hwq : wrap64 ((q : Int) + 1) = ((q + 1 : Nat) : Int) := by rw [w64 _ (by omega) (by omega)]; omega
 have hrq : rd ps (q : Int) = ps.getD q 0 := by simp [rd]
 intro d
 induction d with
 | nil =>
  intro p hd hp
  have hpe := drop_nil ins p hp hd
  subst hpe
  rw [List.take_length]
  refine Ev.succ ?_
  simp only [worldmintref29_Bound.l1, if_neg (show ¬ (ins.length : Int) < (ins.length : Int) by omega)]
  cases hf : freeB L ins q
  ·rw [hf] at hnext
   simp only [Bool.false_eq_true, if_false, hwq] at hnext ⊢
   exact hnext
  ·rw [hf] at hnext
   simp only [if_true, if_pos (show (0 : Int) ≤ (q : Int) by omega), if_pos (show (q : Int) < (ps.length : Int) by omega), hwq, hrq] at hnext ⊢
   exact hnext
 | cons y d ih =>
  intro p hd hp
  obtain ⟨hy, hd', hlt⟩ := drop_cons ins p y d hd
  obtain ⟨hy0, hy1⟩ := hri y (List.mem_of_getElem? hy)
  have hwp : wrap64 ((p : Int) + 1) = ((p + 1 : Nat) : Int) := by rw [w64 _ (by omega) (by omega)]; omega
  have hn := ih (p + 1) hd' (by omega)
  have ht : ins.take (p + 1) = ins.take p ++ [y] := by
   rw [List.take_succ_eq_append_getElem hlt]
   obtain ⟨_, e⟩ := List.getElem?_eq_some_iff.1 hy
   rw [e]
  have hfs : freeB L (ins.take (p + 1)) q = (freeB L (ins.take p) q && !(rd_T85 L y).f2.contains (q : Int)) := by
   unfold freeB
   rw [ht, List.all_append]
   simp
  rw [hfs] at hn
  refine Ev.succ ?_
  simp only [worldmintref29_Bound.l1, if_pos (show (p : Int) < (ins.length : Int) by omega)]
  cases hf : freeB L (ins.take p) q
  ·rw [hf] at hn
   simp only [Bool.false_and] at hn
   simp only [Bool.false_eq_true, if_false, hwp]
   exact hn
  ·rw [hf] at hn
   simp only [Bool.true_and] at hn
   have hmem : rd_T85 L y ∈ L := by simp [rd_T85, List.getD, show y.toNat < L.length by omega]
   simp only [if_true, if_pos (show (0 : Int) ≤ (p : Int) by omega), rd_at ins p y hy, if_pos hy0, if_pos hy1, hwp]
   exact Ev.bind (has_ok _ (q : Int) (by have := (ok.f2 _ hmem).1; omega)) hn
def frB (L : List S85) (ins ps : List Int) (m : Nat) : Int := ((List.range m).map fun k => if freeB L ins k = true then ps.getD k 0 else 0).sum
omit ok hd in
theorem frB_succ (m : Nat) : frB L ins ps (m + 1) = frB L ins ps m + if freeB L ins m = true then ps.getD m 0 else 0 := by
 unfold frB
 rw [List.range_succ, List.map_append, List.sum_append]
 simp
omit hd in
theorem frB_bounds (m : Nat) (hm : m ≤ ps.length) : 0 ≤ frB L ins ps m ∧ frB L ins ps m ≤ m * 1099511627776 := by
 induction m with
 | zero => simp [frB]
 | succ m ih =>
  have ih := ih (by omega)
  have hp := ok.pr (ps.getD m 0) (by simp [List.getD, show m < ps.length by omega])
  rw [frB_succ ins]
  split <;> omega
theorem b9_l0 (s : Int) (hs0 : 0 ≤ s) (hs1 : s ≤ 10 * 1099511627776) : Ev (fun k => worldmintref29_Bound.l0 k L ins outs ps s 0) (s + frB L ins ps ps.length + ((spS (L.map cv) dec ps L.length).map (·.2)).sum) := by
 have h8 := ok.p8
 have : ∀ (d i : Nat), ps.length - i = d → i ≤ ps.length → Ev (fun k => worldmintref29_Bound.l0 k L ins outs ps (s + frB L ins ps i) (i : Int)) (s + frB L ins ps ps.length + ((spS (L.map cv) dec ps L.length).map (·.2)).sum) := by
  intro d
  induction d with
  | zero =>
   intro i hdi hi
   obtain rfl : i = ps.length := by omega
   have hfb := frB_bounds ok ins ps.length (Nat.le_refl _)
   refine Ev.succ ?_
   simp only [worldmintref29_Bound.l0, if_neg (show ¬ (ps.length : Int) < (ps.length : Int) by omega)]
   exact b9_l2 ok dec ins outs hd _ (by omega) (by omega)
  | succ d ih =>
   intro i hdi hi
   have hil : i < ps.length := by omega
   have hn := ih (i + 1) (by omega) (by omega)
   have hfb := frB_bounds ok ins i (by omega)
   have hp := ok.pr (ps.getD i 0) (by simp [List.getD, hil])
   rw [frB_succ ins] at hn
   have h1 := b9_l1 ok ins outs hd.ri hd.li i hil (s + frB L ins ps i) _ (by
    cases hf : freeB L ins i
    ·rw [hf] at hn
     simp only [Bool.false_eq_true, if_false, Int.add_zero] at hn ⊢
     exact hn
    ·rw [hf] at hn
     simp only [if_true] at hn ⊢
     rw [w64 _ (by omega) (by omega), Int.add_assoc]
     exact hn) ins 0 rfl (Nat.zero_le _)
   refine Ev.succ ?_
   simp only [worldmintref29_Bound.l0, if_pos (show (i : Int) < (ps.length : Int) by omega)]
   exact h1
 have h := this _ 0 rfl (Nat.zero_le _)
 simpa [frB] using h
end
theorem addK_mem (k y : Int) (ks : List Int) : y ∈ addK ks k ↔ y = k ∨ y ∈ ks := by
 unfold addK
 by_cases h : k ∈ ks
 ·rw [if_pos h]
  constructor
  ·exact .inr
  ·rintro (rfl | h2)
   ·exact h
   ·exact h2
 ·rw [if_neg h, List.mem_append, List.mem_singleton]
  exact or_comm
theorem foldK_mem (y : Int) : ∀ (xs ks : List Int), y ∈ xs.foldl addK ks ↔ y ∈ xs ∨ y ∈ ks
 | [], ks => by simp
 | x :: xs, ks => by
  rw [List.foldl_cons, foldK_mem y xs, addK_mem, List.mem_cons]
  constructor
  ·rintro (h | h | h)
   ·exact .inl (.inr h)
   ·exact .inl (.inl h)
   ·exact .inr h
  ·rintro ((h | h) | h)
   ·exact .inr (.inl h)
   ·exact .inl h
   ·exact .inr (.inr h)
theorem tk_mem (l : List S82) (dec : List Int) (y : Int) : ∀ m, y ∈ tkS l dec m ↔ ∃ i, i < m ∧ dec.getD i 0 = 1 ∧ y ∈ (l.getD i z82).f2
 | 0 => by simp [tkS]
 | m + 1 => by
  have ih := tk_mem l dec y m
  have e : tkS l dec (m + 1) = if dec.getD m 0 = 1 then (l.getD m z82).f2.foldl addK (tkS l dec m) else tkS l dec m := by
   unfold tkS; rw [List.range_succ, List.foldl_append]; rfl
  rw [e]
  by_cases h : dec.getD m 0 = 1
  ·rw [if_pos h, foldK_mem, ih]
   constructor
   ·rintro (h2 | ⟨i, h2, h3⟩)
    ·exact ⟨m, by omega, h, h2⟩
    ·exact ⟨i, by omega, h3⟩
   ·rintro ⟨i, h2, h3, h4⟩
    by_cases e : i = m
    ·subst e; exact .inl h4
    ·exact .inr ⟨i, by omega, h3, h4⟩
  ·rw [if_neg h, ih]
   constructor
   ·rintro ⟨i, h2, h3⟩; exact ⟨i, by omega, h3⟩
   ·rintro ⟨i, h2, h3, h4⟩
    have : i ≠ m := fun e => h (e ▸ h3)
    exact ⟨i, by omega, h3, h4⟩
theorem isum_one (a : Int) (g : Nat → Int) (m : Nat) (h0 : 0 ≤ a) (h1 : a < m) : ((List.range m).map fun (i : Nat) => if (i : Int) = a then g i else 0).sum = g a.toNat := by
 have : ∀ q, ((List.range q).map fun (i : Nat) => if (i : Int) = a then g i else 0).sum = if a < q then g a.toNat else 0 := by
  intro q
  induction q with
  | zero => simp; omega
  | succ q ih =>
   rw [List.range_succ, List.map_append, List.sum_append, ih]
   simp only [List.map_cons, List.map_nil, List.sum_cons, List.sum_nil]
   by_cases e : (q : Int) = a
   ·rw [if_pos e, if_neg (by omega), if_pos (by omega), show a.toNat = q by omega]; omega
   ·rw [if_neg e]
    by_cases e2 : a < (q : Int)
    ·rw [if_pos e2, if_pos (by omega)]; omega
    ·rw [if_neg e2, if_neg (by omega)]; omega
 rw [this m, if_pos h1]
theorem isum_add (g h : Nat → Int) : ∀ L : List Nat, (L.map fun k => g k + h k).sum = (L.map g).sum + (L.map h).sum
 | [] => rfl
 | x :: L => by simp only [List.map_cons, List.sum_cons, isum_add g h L]; omega
/-- The value of a choice, as a sum over all bids. -/
theorem val_sum (l : List S82) : ∀ ins : List Int, (∀ k ∈ ins, 0 ≤ k ∧ k < (l.length : Int)) → ins.Nodup → valP l ins = ((List.range l.length).map fun (i : Nat) => if (i : Int) ∈ ins then (l.getD i z82).f1 else 0).sum
 | [], _, _ => by
  have : ∀ L : List Nat, (L.map fun (i : Nat) => if (i : Int) ∈ ([] : List Int) then (l.getD i z82).f1 else 0).sum = 0 := by
   intro L
   induction L with
   | nil => rfl
   | cons x L ih => simp only [List.map_cons, List.sum_cons, ih]; simp
  rw [this]; rfl
 | a :: ins, h, hn => by
  rw [List.nodup_cons] at hn
  have ih := val_sum l ins (fun k hk => h k (by simp [hk])) hn.2
  have ha := h a (by simp)
  have e : (fun (i : Nat) => if (i : Int) ∈ a :: ins then (l.getD i z82).f1 else 0) = fun (i : Nat) => (if (i : Int) = a then (l.getD i z82).f1 else 0) + (if (i : Int) ∈ ins then (l.getD i z82).f1 else 0) := by
   funext i
   by_cases e1 : (i : Int) = a
   ·rw [if_pos e1, if_pos (by simp [e1]), if_neg (by rw [e1]; exact hn.1)]; omega
   ·rw [if_neg e1]
    by_cases e2 : (i : Int) ∈ ins
    ·rw [if_pos e2, if_pos (by simp [e2])]; omega
    ·rw [if_neg e2, if_neg (by simp [e1, e2])]; omega
  rw [e, isum_add, isum_one a (fun i => (l.getD i z82).f1) _ ha.1 ha.2, ← ih]
  simp [valP]
theorem rbound9_ok {L : List S85} {ps : List Int} (ok : BOk L ps) (dec ins outs : List Int) (hd : DecR L.length dec ins outs) (hn : ins.Nodup) (hli : ins.length ≤ 10) : Ev (fun k => worldmintref29_Bound.f k L ins outs ps) (boundD (L.map cv) dec ps) := by
 have hlm : (L.map cv).length = L.length := List.length_map ..
 have hval := rvalue_ok L ins hd.ri hd.li (fun b hb => by have := ok.f1 b hb; omega)
 have hv : valP (L.map cv) ins = inS (L.map cv) dec dec.length := by
  rw [val_sum (L.map cv) ins (by rw [hlm]; exact hd.ri) hn]
  unfold inS
  rw [hlm, hd.len]
  congr 1
  refine List.map_congr_left (fun i hi => ?_)
  have h1 := hd.i1 i (List.mem_range.1 hi)
  by_cases e : (i : Int) ∈ ins
  ·rw [if_pos e, if_pos (h1.2 e)]
  ·rw [if_neg e, if_neg (fun x => e (h1.1 x))]
 have hvb : 0 ≤ valP (L.map cv) ins ∧ valP (L.map cv) ins ≤ ins.length * 1099511627776 := by
  unfold valP
  have : ∀ xs : List Int, (∀ k ∈ xs, 0 ≤ k ∧ k < (L.length : Int)) → 0 ≤ (xs.map fun k => ((L.map cv).getD k.toNat z82).f1).sum ∧ (xs.map fun k => ((L.map cv).getD k.toNat z82).f1).sum ≤ xs.length * 1099511627776 := by
   intro xs
   induction xs with
   | nil => intro _; simp
   | cons x xs ih =>
    intro hx
    have h1 := ih (fun k hk => hx k (by simp [hk]))
    have h2 := hx x (by simp)
    have h3 : x.toNat < L.length := by omega
    have h4 := ok.f1 L[x.toNat] (List.getElem_mem h3)
    rw [List.map_cons, List.sum_cons, map_getD L x.toNat _ (List.getElem?_eq_getElem h3), List.length_cons]
    have h5 : (cv L[x.toNat]).f1 = L[x.toNat].f1 := rfl
    rw [h5]
    omega
  exact this ins hd.ri
 have hfr : frB L ins ps ps.length = frS (tkS (L.map cv) dec dec.length) ps ps.length := by
  unfold frB frS
  congr 1
  refine List.map_congr_left (fun k _ => ?_)
  have hiff : freeB L ins k = true ↔ ¬ (k : Int) ∈ tkS (L.map cv) dec dec.length := by
   rw [tk_mem]
   unfold freeB
   rw [List.all_eq_true]
   constructor
   ·rintro h ⟨i, h1, h2, h3⟩
    rw [hd.len] at h1
    have h4 := h (i : Int) ((hd.i1 i h1).1 h2)
    rw [map_getD L i _ (List.getElem?_eq_getElem h1)] at h3
    rw [rdR_at L i _ (List.getElem?_eq_getElem h1)] at h4
    simp only [Bool.not_eq_true', List.contains_eq_mem, decide_eq_false_iff_not] at h4
    exact h4 h3
   ·intro h y hy
    obtain ⟨h1, h2⟩ := hd.ri y hy
    have h3 : y.toNat < L.length := by omega
    simp only [Bool.not_eq_true', List.contains_eq_mem, decide_eq_false_iff_not]
    intro h4
    refine h ⟨y.toNat, by rw [hd.len]; exact h3, (hd.i1 y.toNat h3).2 (by rwa [show ((y.toNat : Nat) : Int) = y by omega]), ?_⟩
    rw [map_getD L y.toNat _ (List.getElem?_eq_getElem h3)]
    rw [show y = ((y.toNat : Nat) : Int) by omega, rdR_at L y.toNat _ (List.getElem?_eq_getElem h3)] at h4
    exact h4
  by_cases e : freeB L ins k = true
  ·rw [if_pos e, if_neg (hiff.1 e)]
  ·rw [if_neg e, if_pos (Classical.not_not.1 (fun x => e (hiff.2 x)))]
 unfold worldmintref29_Bound.f boundD
 rw [← hv, ← hfr, hlm]
 refine Ev.bind hval ?_
 exact b9_l0 ok dec ins outs hd _ hvb.1 (by omega)
/-- Do the places rise, in range? -/
def okR (n : Int) : Option Int → List Int → Bool
 | _, [] => true
 | none, x :: d => if x < 0 || n ≤ x then false else okR n (some x) d
 | some q, x :: d => if x < 0 || n ≤ x || x ≤ q then false else okR n (some x) d
theorem okR_rise (n : Int) : ∀ (d : List Int) (q : Option Int), okR n q d = true → (∀ k ∈ d, 0 ≤ k ∧ k < n) ∧ d.Pairwise (· < ·) ∧ ∀ p, q = some p → ∀ k ∈ d, p < k
 | [], q, _ => by simp
 | x :: d, none, h => by
  unfold okR at h
  split at h
  ·simp at h
  ·rename_i c
   simp only [Bool.or_eq_true, decide_eq_true_eq, not_or] at c
   obtain ⟨h1, h2, h3⟩ := okR_rise n d (some x) h
   refine ⟨fun k hk => ?_, List.pairwise_cons.2 ⟨fun k hk => h3 x rfl k hk, h2⟩, by simp⟩
   rcases List.mem_cons.1 hk with rfl | hk
   ·omega
   ·exact h1 k hk
 | x :: d, some q, h => by
  unfold okR at h
  split at h
  ·simp at h
  ·rename_i c
   simp only [Bool.or_eq_true, decide_eq_true_eq, not_or] at c
   obtain ⟨h1, h2, h3⟩ := okR_rise n d (some x) h
   refine ⟨fun k hk => ?_, List.pairwise_cons.2 ⟨fun k hk => h3 x rfl k hk, h2⟩, fun p hp k hk => ?_⟩
   ·rcases List.mem_cons.1 hk with rfl | hk
    ·omega
    ·exact h1 k hk
   ·injection hp with hp
    rcases List.mem_cons.1 hk with rfl | hk
    ·omega
    ·have := h3 x rfl k hk; omega
theorem feasP_okR (l : List S82) : ∀ (d pre : List Int), okR l.length pre.getLast? d = false → feasP l pre d = false
 | [], pre, h => by cases hp : pre.getLast? <;> rw [hp] at h <;> simp [okR] at h
 | x :: d, pre, h => by
  have ih := feasP_okR l d (pre ++ [x])
  rw [List.getLast?_append] at ih
  have e : ([x].getLast?.or pre.getLast?) = some x := rfl
  rw [e] at ih
  unfold feasP
  cases hp : pre.getLast? with
  | none =>
   rw [hp] at h
   unfold okR at h
   by_cases c : (x < 0 || (l.length : Int) ≤ x) = true
   ·rw [if_pos (by simpa using c)]
   ·rw [if_neg c] at h
    rw [if_neg (by simpa using c), ih h]
    split <;> rfl
  | some q =>
   rw [hp] at h
   unfold okR at h
   by_cases c : (x < 0 || (l.length : Int) ≤ x || x ≤ q) = true
   ·rw [if_pos (by simpa using c)]
   ·rw [if_neg c] at h
    rw [if_neg (by simpa using c), ih h]
    split <;> rfl
def feasQ (l : List S82) (c : List Int) : Bool := okR l.length none c && okS (fun _ => true) l [] c
theorem feas_any (l : List S82) (c : List Int) : feasP l [] c = feasQ l c := by
 unfold feasQ
 cases h : okR l.length none c
 ·rw [feasP_okR l c [] (by simpa using h), Bool.false_and]
 ·obtain ⟨h1, h2, _⟩ := okR_rise _ c none h
  rw [feas_ok l c [] h1 h2 (by simp), Bool.true_and]
section
variable (L : List S85) (hb : ∀ b ∈ L, b.f2.length ≤ 9223372036854775807)
include hb in
theorem rfeas_any (c : List Int) (hl : c.length ≤ 1000) : Ev (fun k => worldmintref27_Feasible.f k L c) (feasQ (L.map cv) c) := by
 have h1 : okR L.length none c = true → Ev (fun k => worldmintref27_Feasible.l1 k L c 0) (okS (fun _ => true) (L.map cv) [] c) := fun h => rfeas_l1 L hb c (okR_rise _ c none h).1 hl c 0 rfl (Nat.zero_le _)
 have h0 : ∀ (d : List Int) (p : Nat) (prev : Option Int), c.drop p = d → p ≤ c.length → (p = 0 → prev = none) → (∀ q, p = q + 1 → ∃ y, c[q]? = some y ∧ prev = some y) → (okR L.length prev d = true → okR L.length none c = true) →
   Ev (fun k => worldmintref27_Feasible.l0 k L c (p : Int)) (okR L.length prev d && okS (fun _ => true) (L.map cv) [] c) := by
  intro d
  induction d with
  | nil =>
   intro p prev hd hp hp0 hp1 hok
   have := drop_nil c p hp hd
   have hlt : ¬ (p : Int) < (c.length : Int) := by omega
   have ho : okR L.length prev [] = true := by cases prev <;> rfl
   refine Ev.succ ?_
   simp only [worldmintref27_Feasible.l0, if_neg hlt, ho, Bool.true_and]
   exact h1 (hok ho)
  | cons x d ih =>
   intro p prev hd hp hp0 hp1 hok
   obtain ⟨hx, hd', hlt⟩ := drop_cons c p x d hd
   have hlt1 : (p : Int) < (c.length : Int) := by omega
   have hge : (0 : Int) ≤ (p : Int) := by omega
   have hw : wrap64 ((p : Int) + 1) = ((p + 1 : Nat) : Int) := by rw [w64 _ (by omega) (by omega)]; omega
   have hih : okR L.length prev (x :: d) = okR L.length (some x) d → Ev (fun k => worldmintref27_Feasible.l0 k L c ((p + 1 : Nat) : Int)) (okR L.length prev (x :: d) && okS (fun _ => true) (L.map cv) [] c) := fun e => by
    rw [e]
    exact ih (p + 1) (some x) hd' (by omega) (by omega) (fun q hq => by
     obtain rfl : p = q := by omega
     exact ⟨x, hx, rfl⟩) (fun h => hok (by rw [e]; exact h))
   refine Ev.succ ?_
   simp only [worldmintref27_Feasible.l0, if_pos hlt1, if_pos hge, rd_at c p x hx, hw]
   by_cases c1 : x < 0
   ·have e : okR L.length prev (x :: d) = false := by cases prev <;> simp [okR, c1]
    simp only [if_pos c1, e, Bool.false_and]
    exact Ev.some_
   ·by_cases c2 : x ≥ (L.length : Int)
    ·have c2' : (L.length : Int) ≤ x := c2
     have e : okR L.length prev (x :: d) = false := by cases prev <;> simp [okR, c2']
     simp only [if_neg c1, if_pos c2, e, Bool.false_and]
     exact Ev.some_
    ·have c2' : ¬ (L.length : Int) ≤ x := c2
     simp only [if_neg c1, if_neg c2]
     cases p with
     | zero =>
      obtain rfl := hp0 rfl
      have hz : ¬ ((0 : Nat) : Int) > 0 := by omega
      simp only [if_neg hz]
      exact hih (by simp [okR, c1, c2'])
     | succ q =>
      obtain ⟨y, hy, rfl⟩ := hp1 q rfl
      have hz : ((q + 1 : Nat) : Int) > 0 := by omega
      have hw2 : wrap64 (((q + 1 : Nat) : Int) - 1) = (q : Int) := by rw [w64 _ (by omega) (by omega)]; omega
      have hq0 : (0 : Int) ≤ (q : Int) := by omega
      have hq1 : (q : Int) < (c.length : Int) := by omega
      simp only [if_pos hz, hw2, if_pos hq0, if_pos hq1, rd_at c q y hy]
      by_cases c3 : x ≤ y
      ·have e : okR L.length (some y) (x :: d) = false := by simp [okR, c3]
       simp only [if_pos c3, e, Bool.false_and]
       exact Ev.some_
      ·simp only [if_neg c3]
       exact hih (by simp [okR, c1, c2', c3])
 have h := h0 c 0 none rfl (Nat.zero_le _) (fun _ => rfl) (fun q hq => by omega) (fun h => h)
 unfold feasQ
 rw [List.length_map]
 exact h
end
def cn (x : S34) : S55 := ⟨x.f0, x.f1, x.f2, x.f3⟩
theorem rdN_at (l : List S34) (i : Nat) (x : S34) (h : l[i]? = some x) : rd_T34 l (i : Int) = x := by
 simp [rd_T34, List.getD, h]
theorem mapN_getD (l : List S34) (i : Nat) (x : S34) (h : l[i]? = some x) : (l.map cn).getD i z55 = cn x := by
 simp [List.getD, h]
/-- Decisions as a row and as two lists without repeats. -/
structure DN (m : Nat) (dec ins outs : List Int) : Prop where
 r : DecR m dec ins outs
 ro : ∀ k ∈ outs, 0 ≤ k ∧ k < (m : Int)
 nd : (ins ++ outs).Nodup
theorem nd_len (m : Nat) : ∀ s : List Int, (∀ k ∈ s, 0 ≤ k ∧ k < (m : Int)) → s.Nodup → s.length ≤ m := by
 induction m with
 | zero =>
  intro s h _
  cases s with
  | nil => simp
  | cons x s => have := h x (by simp); omega
 | succ m ih =>
  intro s h hn
  have h1 := ih (s.erase (m : Int)) (fun k hk => by
   have h2 := h k (List.mem_of_mem_erase hk)
   have h3 := ((List.Nodup.mem_erase_iff hn).1 hk).1
   omega) (hn.erase _)
  by_cases hm : (m : Int) ∈ s
  ·have := List.length_erase_of_mem hm
   have : 0 < s.length := List.length_pos_of_mem hm
   omega
  ·rw [List.erase_of_not_mem hm] at h1; omega
theorem DN.len {m : Nat} {dec ins outs : List Int} (h : DN m dec ins outs) : ins.length + outs.length ≤ m := by
 have := nd_len m (ins ++ outs) (fun k hk => by
  rcases List.mem_append.1 hk with x | x
  ·exact h.r.ri k x
  ·exact h.ro k x) h.nd
 rwa [List.length_append] at this
theorem DN.zero (m : Nat) : DN m (List.replicate m 0) [] [] := by
 refine ⟨⟨List.length_replicate, by simp, by simp, by simp, fun k hk => ?_, fun k hk => ?_⟩, by simp, by simp⟩
 ·simp [List.getD, List.getElem?_replicate, hk]
 ·simp [List.getD, List.getElem?_replicate, hk]
theorem DN.take {m : Nat} {dec ins outs : List Int} (hm : m ≤ 100) (h : DN m dec ins outs) (b : Nat) (hb : b < m) (h0 : dec.getD b 0 = 0) :
  DN m (dec.set b 1) (ins ++ [(b : Int)]) outs ∧ DN m (dec.set b 2) ins (outs ++ [(b : Int)]) := by
 have hl := h.len
 obtain ⟨n1, n2⟩ := (h.r.i0 b hb).1 h0
 have hlen := h.r.len
 have hg : ∀ (d : Int) (k : Nat), (dec.set b d).getD k 0 = if k = b then d else dec.getD k 0 := by
  intro d k
  simp only [List.getD, List.getElem?_set]
  by_cases e : b = k
  ·subst e; simp [hlen, hb]
  ·rw [if_neg e, if_neg (fun x => e x.symm)]
 constructor
 ·refine ⟨⟨by simpa using hlen, by simp; omega, by omega, fun k hk => ?_, fun k hk => ?_, fun k hk => ?_⟩, h.ro, ?_⟩
  ·rcases List.mem_append.1 hk with x | x
   ·exact h.r.ri k x
   ·rw [List.mem_singleton] at x; omega
  ·rw [hg, List.mem_append, List.mem_singleton]
   by_cases e : k = b
   ·simp [e]
   ·rw [if_neg e, h.r.i1 k hk]
    constructor
    ·exact .inl
    ·rintro (x | x)
     ·exact x
     ·omega
  ·rw [hg, List.mem_append, List.mem_singleton]
   by_cases e : k = b
   ·simp [e]
   ·rw [if_neg e, h.r.i0 k hk]
    constructor
    ·rintro ⟨x, y⟩
     exact ⟨fun z => z.elim x (fun w => e (by omega)), y⟩
    ·rintro ⟨x, y⟩
     exact ⟨fun z => x (.inl z), y⟩
  ·have := h.nd
   rw [List.nodup_append] at this ⊢
   refine ⟨?_, this.2.1, ?_⟩
   ·rw [List.nodup_append]
    refine ⟨this.1, by simp, ?_⟩
    intro a ha c hc e
    rw [List.mem_singleton] at hc
    subst hc; subst e
    exact n1 ha
   ·intro a ha c hc e
    rcases List.mem_append.1 ha with x | x
    ·exact this.2.2 a x c hc e
    ·rw [List.mem_singleton] at x
     subst x; subst e
     exact n2 hc
 ·refine ⟨⟨by simpa using hlen, by omega, by simp; omega, h.r.ri, fun k hk => ?_, fun k hk => ?_⟩, fun k hk => ?_, ?_⟩
  ·rw [hg]
   by_cases e : k = b
   ·subst e
    simp [n1]
   ·rw [if_neg e, h.r.i1 k hk]
  ·rw [hg, List.mem_append, List.mem_singleton]
   by_cases e : k = b
   ·simp [e]
   ·rw [if_neg e, h.r.i0 k hk]
    constructor
    ·rintro ⟨x, y⟩
     exact ⟨x, fun z => z.elim y (fun w => e (by omega))⟩
    ·rintro ⟨x, y⟩
     exact ⟨x, fun z => y (.inl z)⟩
  ·rcases List.mem_append.1 hk with x | x
   ·exact h.ro k x
   ·rw [List.mem_singleton] at x; omega
  ·have := h.nd
   rw [← List.append_assoc, List.nodup_append]
   refine ⟨this, by simp, ?_⟩
   intro a ha c hc e
   rw [List.mem_singleton] at hc
   subst hc; subst e
   rcases List.mem_append.1 ha with x | x
   ·exact n1 x
   ·exact n2 x
theorem poss_open {l : List S82} {dec : List Int} {b : Nat} (h : possP l dec b = true) : dec.getD b 0 = 0 := by
 unfold possP at h
 simp only [Bool.and_eq_true, decide_eq_true_eq] at h
 exact h.1
/-- What is known where Valid found nothing. -/
structure VOk (n : Int) (L : List S85) : Prop where
 n8 : 1 ≤ n ∧ n ≤ 8
 l10 : L.length ≤ 10
 f1 : ∀ b ∈ L, 1 ≤ b.f1 ∧ b.f1 ≤ 1099511627776
 f2 : ∀ b ∈ L, b.f2.length ≤ 8 ∧ ∀ k ∈ b.f2, 0 ≤ k ∧ k < n
theorem VOk.of {n : Int} {L : List S85} (h : validP n (L.map cv) = 0) : VOk n L := by
 obtain ⟨hn1, hn2, hl10, hbb⟩ := validP_bids n (L.map cv) h
 rw [List.length_map] at hl10
 exact ⟨⟨hn1, hn2⟩, hl10, fun b hb => (hbb _ (List.mem_map_of_mem (f := cv) hb)).1, fun b hb => (hbb _ (List.mem_map_of_mem (f := cv) hb)).2⟩
theorem VOk.bok {n : Int} {L : List S85} (h : VOk n L) {ps : List Int} (hp : (ps.length : Int) = n) (hr : ∀ x ∈ ps, 0 ≤ x ∧ x ≤ 1099511627776) : BOk L ps :=
 ⟨h.l10, by have := h.n8; omega, hr, h.f1, fun b hb => ⟨(h.f2 b hb).1, fun k hk => by have := (h.f2 b hb).2 k hk; omega⟩⟩
section
variable {n : Int} {L : List S85} (ok : VOk n L) (v : Int) (NS : List S34)
include ok
theorem right_leaf (dec ins outs : List Int) (hd : DN L.length dec ins outs) (f0 f1 f2 : Int) (ps : List Int) (hl : (ps.length : Int) = n) : Ev (fun k => worldmintref29_right.l0 k n L ins outs 0 v NS f0 f1 f2 ps) (!ps.any badPrice && decide (boundD (L.map cv) dec ps ≤ v)) := by
 have h8 := ok.n8
 have : ∀ (d : List Int) (p : Nat), ps.drop p = d → p ≤ ps.length → (∀ x ∈ ps.take p, badPrice x = false) → Ev (fun k => worldmintref29_right.l0 k n L ins outs (p : Int) v NS f0 f1 f2 ps) (!ps.any badPrice && decide (boundD (L.map cv) dec ps ≤ v)) := by
  intro d
  induction d with
  | nil =>
   intro p hd2 hp hb
   have := drop_nil ps p hp hd2
   subst this
   rw [List.take_length] at hb
   have hany : ps.any badPrice = false := by
    rw [List.any_eq_false]
    intro x hx
    rw [hb x hx]; simp
   have hbo := rbound9_ok (ok.bok hl (fun x hx => by
    have h := hb x hx
    unfold badPrice at h
    simp only [Bool.or_eq_false_iff, decide_eq_false_iff_not] at h
    omega)) dec ins outs hd.r (List.nodup_append.1 hd.nd).1 (by have := hd.len; have := ok.l10; omega)
   refine Ev.succ ?_
   simp only [worldmintref29_right.l0, if_neg (show ¬ (ps.length : Int) < n by omega), hany, Bool.not_false, Bool.true_and]
   exact Ev.bind hbo Ev.some_
  | cons y d ih =>
   intro p hd2 hp hb
   obtain ⟨hy, hd', hlt⟩ := drop_cons ps p y d hd2
   have hym : y ∈ ps := List.mem_of_getElem? hy
   have hwp : wrap64 ((p : Int) + 1) = ((p + 1 : Nat) : Int) := by rw [w64 _ (by omega) (by omega)]; omega
   refine Ev.succ ?_
   simp only [worldmintref29_right.l0, if_pos (show (p : Int) < n by omega), if_pos (show (0 : Int) ≤ (p : Int) by omega), if_pos (show (p : Int) < (ps.length : Int) by omega), rd_at ps p y hy, hwp]
   by_cases c1 : y < 0
   ·have hany : ps.any badPrice = true := List.any_eq_true.2 ⟨y, hym, by unfold badPrice; simp [c1]⟩
    simp only [if_pos c1, hany, Bool.not_true, Bool.false_and]
    exact Ev.some_
   ·by_cases c2 : y > 1099511627776
    ·have hany : ps.any badPrice = true := List.any_eq_true.2 ⟨y, hym, by unfold badPrice; simp [show 1099511627776 < y from c2]⟩
     simp only [if_neg c1, if_pos c2, hany, Bool.not_true, Bool.false_and]
     exact Ev.some_
    ·simp only [if_neg c1, if_neg c2]
     refine ih (p + 1) hd' (by omega) ?_
     have ht : ps.take (p + 1) = ps.take p ++ [y] := by
      rw [List.take_succ_eq_append_getElem hlt]
      obtain ⟨_, e⟩ := List.getElem?_eq_some_iff.1 hy
      rw [e]
     rw [ht]
     intro x hx
     rcases List.mem_append.1 hx with h | h
     ·exact hb x h
     ·rw [List.mem_singleton] at h
      subst h
      unfold badPrice
      simp only [Bool.or_eq_false_iff, decide_eq_false_iff_not]
      omega
 exact this ps 0 rfl (Nat.zero_le _) (by simp)
theorem right_ok (hN : NS.length ≤ 100000) : ∀ (f i : Nat) (dec ins outs : List Int), i < NS.length → NS.length ≤ i + f → DN L.length dec ins outs → Ev (fun k => worldmintref29_right.f k n L v NS (i : Int) ins outs) (rightP n (L.map cv) v (NS.map cn) f i dec)
 | 0, i, _, _, _, hi, hf, _ => by omega
 | f + 1, i, dec, ins, outs, hi, hf, hd => by
  have h10 := ok.l10
  have hdl := hd.len
  have hx : NS[i]? = some NS[i] := List.getElem?_eq_getElem hi
  have hlm : (L.map cv).length = L.length := List.length_map ..
  have hln : (NS.map cn).length = NS.length := List.length_map ..
  have hdr := hd.r
  unfold rightP
  rw [mapN_getD NS i _ hx]
  generalize NS[i] = x at *
  have e0 : (cn x).f0 = x.f0 := rfl
  have e1 : (cn x).f1 = x.f1 := rfl
  have e2 : (cn x).f2 = x.f2 := rfl
  have e3 : (cn x).f3 = x.f3 := rfl
  refine Ev.succ ?_
  simp only [worldmintref29_right.f, if_pos (show (0 : Int) ≤ (i : Int) by omega), if_pos (show (i : Int) < (NS.length : Int) by omega), rdN_at NS i x hx, e0, e1, e2, e3, hlm, hln]
  by_cases c0 : x.f0 = -1
  ·simp only [if_pos c0]
   have hfalse : ∀ b : Bool, b = true → leafP n (L.map cv) v dec (cn x) = false → Ev (fun k => worldmintref29_right.j0 k n L ins outs b v NS x.f0 x.f1 x.f2 x.f3) (leafP n (L.map cv) v dec (cn x)) := by
    intro b hb hl
    rw [hl]
    refine Ev.succ ?_
    simp only [worldmintref29_right.j0, if_pos hb]
    exact Ev.some_
   by_cases c1 : x.f1 = 0
   ·by_cases c2 : x.f2 = 0
    ·simp only [if_pos c1, if_pos c2]
     by_cases c3 : (x.f3.length : Int) = n
     ·have hl := right_leaf ok v NS dec ins outs hd x.f0 x.f1 x.f2 x.f3 c3
      have hleaf : leafP n (L.map cv) v dec (cn x) = (!x.f3.any badPrice && decide (boundD (L.map cv) dec x.f3 ≤ v)) := by
       unfold leafP
       rw [e1, e2, e3, decide_eq_true c1, decide_eq_true c2, decide_eq_true c3]
       simp
      rw [hleaf]
      have hb : ((x.f3.length : Int) != n) = false := by simpa using c3
      rw [hb]
      refine Ev.succ ?_
      simp only [worldmintref29_right.j0, Bool.false_eq_true, if_false]
      exact hl
     ·refine hfalse _ (bne_iff_ne.mpr c3) ?_
      unfold leafP
      rw [e3, decide_eq_false c3]
      simp
    ·simp only [if_pos c1, if_neg c2]
     refine hfalse _ rfl ?_
     unfold leafP
     rw [e2, decide_eq_false c2]
     simp
   ·simp only [if_neg c1]
    refine hfalse _ rfl ?_
    unfold leafP
    rw [e1, decide_eq_false c1]
    simp
  ·simp only [if_neg c0]
   have hbad : ∀ (b r : Bool), b = true → r = false → Ev (fun k => worldmintref29_right.j2 k n L ins outs b v NS x.f0 x.f1 x.f2 x.f3) r := by
    intro b r hb hr
    subst hr
    refine Ev.succ ?_
    simp only [worldmintref29_right.j2, if_pos hb]
    exact Ev.some_
   by_cases c1 : x.f0 < 0
   ·simp only [if_pos c1]
    exact hbad _ _ rfl (by rw [if_pos (.inl c1)])
   ·simp only [if_neg c1]
    by_cases c2 : x.f0 ≥ (L.length : Int)
    ·simp only [if_pos c2]
     exact hbad _ _ rfl (by rw [if_pos (.inr (.inl c2))])
    ·simp only [if_neg c2]
     by_cases c3 : (x.f3.length : Int) > 0
     ·simp only [if_pos c3]
      exact hbad _ _ rfl (by rw [if_pos (.inr (.inr (.inr (by omega))))])
     ·simp only [if_neg c3]
      have hno1 : ∀ g : Nat → List Int → Bool, ∀ a d1 d2 : Int, ¬ ((i : Int) < a ∧ a < (NS.length : Int)) → stepR g NS.length i dec x.f0.toNat a d1 = false := fun g a d1 d2 h => by unfold stepR; rw [if_neg h]
      by_cases c4 : x.f1 ≤ (i : Int)
      ·simp only [if_pos c4]
       refine hbad _ _ rfl ?_
       rw [hno1 _ x.f1 1 0 (fun h => by omega)]
       split <;> simp
      ·simp only [if_neg c4]
       by_cases c5 : x.f1 ≥ (NS.length : Int)
       ·simp only [if_pos c5]
        refine hbad _ _ rfl ?_
        rw [hno1 _ x.f1 1 0 (fun h => by omega)]
        split <;> simp
       ·simp only [if_neg c5]
        by_cases c6 : x.f2 ≤ (i : Int)
        ·simp only [if_pos c6]
         refine hbad _ _ rfl ?_
         rw [hno1 _ x.f2 2 0 (fun h => by omega)]
         split <;> simp
        ·simp only [if_neg c6]
         by_cases c7 : x.f2 ≥ (NS.length : Int)
         ·refine hbad _ _ (decide_eq_true c7) ?_
          rw [hno1 _ x.f2 2 0 (fun h => by omega)]
          split <;> simp
         ·rw [decide_eq_false c7]
          obtain ⟨b, hb⟩ : ∃ b : Nat, x.f0 = (b : Int) := ⟨x.f0.toNat, by omega⟩
          obtain ⟨ka, hka⟩ : ∃ k : Nat, x.f1 = (k : Int) := ⟨x.f1.toNat, by omega⟩
          obtain ⟨kb, hkb⟩ : ∃ k : Nat, x.f2 = (k : Int) := ⟨x.f2.toNat, by omega⟩
          have hposs := rposs_ok L (fun b hb => by have := (ok.f2 b hb).1; omega) dec ins outs hdr b (by omega)
          rw [hb, hka, hkb, Int.toNat_natCast]
          refine Ev.succ ?_
          simp only [worldmintref29_right.j2, Bool.false_eq_true, if_false]
          refine Ev.bind hposs ?_
          cases hpo : possP (L.map cv) dec b
          ·simp only [Bool.false_eq_true, if_false]
           rw [if_pos (.inr (.inr (.inl trivial)))]
           exact Ev.some_
          ·obtain ⟨d1, d2⟩ := hd.take (by omega) b (by omega) (poss_open hpo)
           have iha := right_ok hN f ka (dec.set b 1) (ins ++ [(b : Int)]) outs (by omega) (by omega) d1
           have ihb := right_ok hN f kb (dec.set b 2) ins (outs ++ [(b : Int)]) (by omega) (by omega) d2
           rw [if_neg (by
            rintro (h | h | h | h)
            ·omega
            ·omega
            ·cases h
            ·omega)]
           unfold stepR
           rw [if_pos ⟨by omega, by omega⟩, if_pos ⟨by omega, by omega⟩, Int.toNat_natCast, Int.toNat_natCast]
           simp only [if_true, List.nil_append, List.length_nil, Nat.zero_add, Option.bind_some, if_pos (show ins.length < 17592186044416 by omega), if_pos (show outs.length < 17592186044416 by omega)]
           refine Ev.bind iha ?_
           cases rightP n (L.map cv) v (NS.map cn) f ka (dec.set b 1)
           ·simp only [Bool.false_eq_true, if_false, Bool.false_and]
            exact Ev.some_
           ·simp only [if_true, Bool.true_and]
            exact Ev.bind ihb Ev.some_
end
/-! ### Check's two looks ahead -/
theorem node_at (NS : List S34) (k : Nat) (hk : k < NS.length) : (NS.map cn).getD k z55 = cn (rd_T34 NS (k : Int)) := by
 have hx : NS[k]? = some NS[k] := List.getElem?_eq_getElem hk
 rw [mapN_getD NS k _ hx, rdN_at NS k _ hx]
theorem ptr_eq (NS : List S34) (j k : Nat) (hk : k < NS.length) : ptrR NS j k = ptrP (NS.map cn) j k := by
 unfold ptrR ptrP
 rw [node_at NS k hk]
 rfl
theorem par_eq (NS : List S34) (j : Nat) : sumR NS j NS.length = parP (NS.map cn) j := by
 unfold sumR parP
 rw [List.length_map]
 congr 1
 exact List.map_congr_left (fun k hk => ptr_eq NS j k (List.mem_range.1 hk))
theorem par_all (NS : List S34) : (List.range NS.length).all (parOk NS) = true ↔ OnePar (NS.map cn) := by
 rw [List.all_eq_true]
 unfold OnePar
 rw [List.length_map]
 constructor
 ·intro h j hj
  have := h j (List.mem_range.2 hj)
  unfold parOk at this
  rw [par_eq] at this
  by_cases e : j = 0
  ·rw [if_pos e] at this ⊢
   exact of_decide_eq_true this
  ·rw [if_neg e] at this ⊢
   exact of_decide_eq_true this
 ·intro h j hj
  have := h j (List.mem_range.1 hj)
  unfold parOk
  rw [par_eq]
  by_cases e : j = 0
  ·rw [if_pos e] at this ⊢
   exact decide_eq_true this
  ·rw [if_neg e] at this ⊢
   exact decide_eq_true this
theorem late_all (NS : List S34) : (List.range NS.length).all (lateOk NS) = true ↔ Later (NS.map cn) := by
 rw [List.all_eq_true]
 unfold Later
 rw [List.length_map]
 have hq : ∀ k, k < NS.length → (lateOk NS k = true ↔ (((NS.map cn).getD k z55).f0 ≠ -1 → (k : Int) < ((NS.map cn).getD k z55).f1 ∧ (k : Int) < ((NS.map cn).getD k z55).f2)) := by
  intro k hk
  rw [node_at NS k hk]
  unfold lateOk
  show _ ↔ ((rd_T34 NS (k : Int)).f0 ≠ -1 → (k : Int) < (rd_T34 NS (k : Int)).f1 ∧ (k : Int) < (rd_T34 NS (k : Int)).f2)
  generalize rd_T34 NS (k : Int) = x
  by_cases c0 : x.f0 = -1
  ·simp [c0]
  ·simp [c0]
 constructor
 ·intro h k hk
  exact (hq k hk).1 (h k (List.mem_range.2 hk))
 ·intro h k hk
  exact (hq k (List.mem_range.1 hk)).2 (h k (List.mem_range.1 hk))
theorem rcheck_ok (n : Int) (L : List S85) (hf : ∀ b ∈ L, b.f2.length ≤ 9223372036854775807) (win : List Int) (hw : win.length ≤ 1000) (v : Int) (NS : List S34) :
  Ev (fun k => worldmintref29_Check.f k n L win v NS) (checkP n (L.map cv) win v (NS.map cn)) := by
 have hv := rvalid_ok n L hf
 have hlm : (L.map cv).length = L.length := List.length_map ..
 have hln : (NS.map cn).length = NS.length := List.length_map ..
 unfold worldmintref29_Check.f checkP
 refine Ev.bind hv ?_
 by_cases hz : validP n (L.map cv) = 0
 ·have ok := VOk.of hz
  rw [if_neg (by rw [hz]; simp)]
  simp only [if_pos hz]
  have hfe := rfeas_any L hf win hw
  rw [← feas_any] at hfe
  refine Ev.bind hfe ?_
  cases hfb : feasP (L.map cv) [] win
  ·rw [if_pos rfl]
   simp only [Bool.false_eq_true, if_false]
   exact Ev.some_
  ·simp only [if_true]
   rw [if_neg (by simp), hln]
   obtain ⟨hr, _, _⟩ := feasP_facts (L.map cv) win [] hfb
   rw [hlm] at hr
   by_cases hbig : 2047 < NS.length
   ·simp only [if_pos hbig]
    exact Ev.some_
   ·simp only [if_neg hbig]
    by_cases h0 : NS.length = 0
    ·rw [if_pos (.inl h0)]
     simp only [if_pos h0]
     exact Ev.some_
    ·simp only [if_neg h0]
     refine Ev.bind (rvalue_ok L win hr hw (fun b hb => by have := ok.f1 b hb; omega)) ?_
     by_cases hvv : v = valP (L.map cv) win
     ·rw [if_neg (by
       rintro (h | h)
       ·exact h0 h
       ·exact h hvv)]
      simp only [if_pos hvv]
      have htree := root_tree (n := n) (l := L.map cv) (v := v) (nodes := NS.map cn) NS.length (List.replicate L.length 0) (by rw [hln]; omega)
      have hroot : rootP n (L.map cv) v (NS.map cn) = nodeP n (L.map cv) v (NS.map cn) NS.length 0 (List.replicate L.length 0) (List.replicate (NS.map cn).length false) := by
       unfold rootP; rw [hlm, hln]
      rw [hroot]
      have hright := right_ok ok v NS (by omega) NS.length 0 (List.replicate L.length 0) [] [] (by omega) (by omega) (DN.zero L.length)
      obtain ⟨R, hR⟩ : ∃ R : Int, R = if (nodeP n (L.map cv) v (NS.map cn) NS.length 0 (List.replicate L.length 0) (List.replicate (NS.map cn).length false)).1 = true ∧ (nodeP n (L.map cv) v (NS.map cn) NS.length 0 (List.replicate L.length 0) (List.replicate (NS.map cn).length false)).2.all id = true then 0 else 20 := ⟨_, rfl⟩
      rw [← hR]
      by_cases hp : (List.range NS.length).all (parOk NS) = true
      ·simp only [if_pos hp]
       by_cases hl : (List.range NS.length).all (lateOk NS) = true
       ·simp only [if_pos hl]
        refine Ev.bind hright ?_
        cases hrr : rightP n (L.map cv) v (NS.map cn) NS.length 0 (List.replicate L.length 0)
        ·have hR0 : R = 20 := by rw [hR, if_neg (fun h => by have := (htree.1 h).2.2; rw [hrr] at this; cases this)]
         rw [hR0, if_neg (by simp)]
         exact Ev.some_
        ·have hR0 : R = 0 := by rw [hR, if_pos (htree.2 ⟨(par_all NS).1 hp, (late_all NS).1 hl, hrr⟩)]
         rw [hR0, if_pos rfl]
         exact Ev.some_
       ·simp only [if_neg hl]
        have hR0 : R = 20 := by rw [hR, if_neg (fun h => hl ((late_all NS).2 (htree.1 h).2.1))]
        rw [hR0]
        exact Ev.some_
      ·simp only [if_neg hp]
       have hR0 : R = 20 := by rw [hR, if_neg (fun h => hp ((par_all NS).2 (htree.1 h).1))]
       rw [hR0]
       exact Ev.some_
     ·rw [if_pos (.inr hvv)]
      simp only [if_neg hvv]
      exact Ev.some_
 ·rw [if_pos hz]
  simp only [if_neg hz]
  exact Ev.some_
end Go.Proofs.Ytdamibblnjeooaa.H

/- The reference's grow and Full, walked by hand. -/
namespace Go.Proofs.Ytdamibblnjeooaa.H
open Go.RowKit Go.Proofs.YtdamibblnjeooaaW.PrintWords Go.Proofs.YtdamibblnjeooaaW.PrintLast Go.Proofs.YtdamibblnjeooaaW.PrintMore
set_option linter.unusedVariables false
set_option linter.unusedSimpArgs false
/-- What a call of grow is told. -/
structure GCx where
 n : Nat
 v : Int
 Ab : Option Addr
 cb : Nat
 L : List S85
 w0 : World
def GCx.base (s : GCx) : Nat := s.w0.heap.size
/-- The two lists of decisions. -/
structure GDec (s : GCx) (ins outs : List Int) : Prop where
 ri : ∀ k ∈ ins, 0 ≤ k ∧ k < (s.L.length : Int)
 ro : ∀ k ∈ outs, 0 ≤ k ∧ k < (s.L.length : Int)
 nd : (ins ++ outs).Nodup
/-- How the boxes and rows of a call stand in X: vb lies in the box, vs is the list's row. -/
structure GSt (s : GCx) (w : World) (okn P : Nat → Prop) (own : Option Nat) (A4 : Option Addr) (ins : List Int) (A5 : Option Addr) (outs : List Int) (X : World) (vb vs : Value) (ns : List S34) : Prop where
 gr : w.grownBy X own
 sz : w.heap.size + 2 ≤ X.heap.size
 b7 : X.heap[w.heap.size]? = some (.cells #[.int .i64 s.v, vb] 30 (0, 0))
 b10 : X.heap[w.heap.size + 1]? = some (.cells #[.int .i64 0, .slice none 0 0] 30 (0, 0))
 hN : Kd.N k34 34 X s.base (fun k => (okn k ∧ k < w.heap.size) ∨ w.heap.size + 2 ≤ k) vs ns
 hat : vs.ownBlock = own ∨ ∃ b, vs.ownBlock = some b ∧ w.heap.size + 2 ≤ b
 fb : Below s.base s.w0 X
 hbw : s.base ≤ w.heap.size
 f4 : Kd.F (Kd.int .i64) X (fun k => P k ∧ k < w.heap.size) A4 ins.length ins
 f5 : Kd.F (Kd.int .i64) X (fun k => P k ∧ k < w.heap.size) A5 outs.length outs
 hap : ∀ k, P k → some k ≠ own
 hown : ∀ k, own = some k → k < w.heap.size
section
variable {s : GCx} {w : World} {okn P : Nat → Prop} {own : Option Nat} {A4 A5 : Option Addr} {ins outs : List Int} {X X1 : World} {vb vs v1 : Value} {ns ns1 : List S34}
theorem GSt.step (h : GSt s w okn P own A4 ins A5 outs X vb vs ns) (hb : Below X.heap.size X X1) : GSt s w okn P own A4 ins A5 outs X1 vb vs ns := by
 have hsz := h.sz
 exact ⟨⟨hb.os.trans h.gr.os, hb.tape.trans h.gr.tape, hb.output.trans h.gr.output, Nat.le_trans h.gr.size hb.size, fun k hk hne => (hb.block k (by omega)).trans (h.gr.block k hk hne)⟩, Nat.le_trans hsz hb.size, (hb.block _ (by omega)).trans h.b7, (hb.block _ (by omega)).trans h.b10, Kd.N_below h.hN hb, h.hat, h.fb.trans (hb.mono h.fb.size), h.hbw, Kd.F_below h.f4 hb, Kd.F_below h.f5 hb, h.hap, h.hown⟩
/-- The list has been written (its own block, or new ones). -/
theorem GSt.mv (h : GSt s w okn P own A4 ins A5 outs X vb vs ns) (hg : X.grownBy X1 vs.ownBlock) (hN : Kd.N k34 34 X1 s.base (fun k => (okn k ∧ k < w.heap.size) ∨ w.heap.size + 2 ≤ k) v1 ns1) (hat : v1.ownBlock = vs.ownBlock ∨ ∃ b, v1.ownBlock = some b ∧ X.heap.size ≤ b) :
  GSt s w okn P own A4 ins A5 outs X1 vb v1 ns1 := by
 have hsz := h.sz
 have hne : ∀ k, k < w.heap.size + 2 → (k < w.heap.size → some k ≠ own) → some k ≠ vs.ownBlock := by
  intro k hk hko he
  rcases h.hat with e | ⟨b, e, hb⟩
  ·rw [e] at he
   have := h.hown k he.symm
   exact hko this he
  ·rw [e] at he
   injection he with he
   omega
 have hP : ∀ k, P k ∧ k < w.heap.size → some k ≠ vs.ownBlock := fun k hk => hne k (by omega) (fun _ => h.hap k hk.1)
 refine ⟨⟨hg.os.trans h.gr.os, hg.tape.trans h.gr.tape, hg.output.trans h.gr.output, Nat.le_trans h.gr.size hg.size, fun k hk hn => (hg.block k (by omega) (hne k (by omega) (fun _ => hn))).trans (h.gr.block k hk hn)⟩, Nat.le_trans hsz hg.size, (hg.block _ (by omega) (hne _ (by omega) (fun h => by omega))).trans h.b7, (hg.block _ (by omega) (hne _ (by omega) (fun h => by omega))).trans h.b10, hN, ?_, h.fb.trans ⟨hg.os, hg.tape, hg.output, hg.size, fun k hk => hg.block k (Nat.lt_of_lt_of_le hk h.fb.size) (fun e => by have := Kd.N_base h.hN k e.symm; omega)⟩, h.hbw, Kd.F_grown h.f4 hg hP, Kd.F_grown h.f5 hg hP, h.hap, h.hown⟩
 rcases hat with e | ⟨b, e, hb⟩
 ·rw [e]; exact h.hat
 ·exact .inr ⟨b, e, by omega⟩
theorem GSt.apart (h : GSt s w okn P own A4 ins A5 outs X vb vs ns) : ∀ k, (P k ∧ k < w.heap.size) ∨ X.heap.size ≤ k → some k ≠ vs.ownBlock := by
 intro k hk he
 have hlt := Kd.N_lt h.hN k he.symm
 rcases hk with hk | hk
 ·rcases h.hat with e | ⟨b, e, hb⟩
  ·rw [e] at he; exact h.hap k hk.1 he
  ·rw [e] at he
   injection he with he
   omega
 ·omega
theorem GDec.take {s : GCx} {ins outs : List Int} (h : GDec s ins outs) (m : Nat) (hm : m < s.L.length) (hp : posL (s.L.map cv) ins outs m = true) : GDec s (ins ++ [(m : Int)]) outs ∧ GDec s ins (outs ++ [(m : Int)]) := by
 unfold posL at hp
 simp only [Bool.and_eq_true, Bool.not_eq_true', List.contains_eq_mem, decide_eq_false_iff_not] at hp
 obtain ⟨⟨n1, n2⟩, _⟩ := hp
 have hnd := h.nd
 constructor
 ·refine ⟨fun k hk => ?_, h.ro, ?_⟩
  ·rcases List.mem_append.1 hk with x | x
   ·exact h.ri k x
   ·rw [List.mem_singleton] at x; omega
  ·rw [List.nodup_append] at hnd ⊢
   refine ⟨?_, hnd.2.1, ?_⟩
   ·rw [List.nodup_append]
    refine ⟨hnd.1, by simp, ?_⟩
    intro a ha c hc e
    rw [List.mem_singleton] at hc
    subst hc; subst e
    exact n1 ha
   ·intro a ha c hc e
    rcases List.mem_append.1 ha with x | x
    ·exact hnd.2.2 a x c hc e
    ·rw [List.mem_singleton] at x
     subst x; subst e
     exact n2 hc
 ·refine ⟨h.ri, fun k hk => ?_, ?_⟩
  ·rcases List.mem_append.1 hk with x | x
   ·exact h.ro k x
   ·rw [List.mem_singleton] at x; omega
  ·rw [← List.append_assoc, List.nodup_append]
   refine ⟨hnd, by simp, ?_⟩
   intro a ha c hc e
   rw [List.mem_singleton] at hc
   subst hc; subst e
   rcases List.mem_append.1 ha with x | x
   ·exact n1 x
   ·exact n2 x
/-- A store into the box. -/
theorem GSt.put (h : GSt s w okn P own A4 ins A5 outs X vb vs ns) (u : Value) : GSt s w okn P own A4 ins A5 outs (X.setCell ⟨w.heap.size, 1, none⟩ u) u vs ns := by
 have hB : Below w.heap.size X (X.setCell ⟨w.heap.size, 1, none⟩ u) := (Below.refl _ X).setCell (p := ⟨w.heap.size, 1, none⟩) (Nat.le_refl _) u
 have hne : ∀ k, (okn k ∧ k < w.heap.size) ∨ w.heap.size + 2 ≤ k → k ≠ w.heap.size := fun k hk => by omega
 have hP : ∀ k, P k ∧ k < w.heap.size → k ≠ w.heap.size := fun k hk => by omega
 exact ⟨⟨hB.os.trans h.gr.os, hB.tape.trans h.gr.tape, hB.output.trans h.gr.output, Nat.le_trans h.gr.size hB.size, fun k hk hn => (hB.block k hk).trans (h.gr.block k hk hn)⟩, Nat.le_trans h.sz hB.size, blk_put h.b7 1 u rfl, (Below.heap_setCell X ⟨w.heap.size, 1, none⟩ u _ (by show w.heap.size + 1 ≠ w.heap.size; omega)).trans h.b10, Kd.N_far (p := ⟨w.heap.size, 1, none⟩) h.hN hne u, h.hat, h.fb.setCell (p := ⟨w.heap.size, 1, none⟩) h.hbw u, h.hbw, Kd.F_far (p := ⟨w.heap.size, 1, none⟩) h.f4 hP u, Kd.F_far (p := ⟨w.heap.size, 1, none⟩) h.f5 hP u, h.hap, h.hown⟩
theorem GSt.cells (h : GSt s w okn P own A4 ins A5 outs X vb vs ns) : X.cell? ⟨w.heap.size, 0, none⟩ = some (.int .i64 s.v) ∧ X.cell? ⟨w.heap.size, 1, none⟩ = some vb ∧ X.frozen? ⟨w.heap.size, 0, none⟩ = false ∧ X.frozen? ⟨w.heap.size, 1, none⟩ = false :=
 ⟨(blk_cell h.b7 0).trans rfl, (blk_cell h.b7 1).trans rfl, blk_frozen h.b7 0, blk_frozen h.b7 1⟩
end
end Go.Proofs.Ytdamibblnjeooaa.H

/- Certificates as the law hands them over; what Full makes. Plain. -/
namespace Go.Proofs.Ytdamibblnjeooaa.H
open Go.RowKit Go.Proofs.YtdamibblnjeooaaW.PrintWords Go.Proofs.YtdamibblnjeooaaW.PrintLast
set_option linter.unusedVariables false
set_option linter.unusedSimpArgs false
theorem spoilt_ok (L : List S85) (at_ how by_ : Int) (h1 : (Lit.int .i64 at_).wf = true) (h2 : (Lit.int .i64 how).wf = true) (hL : L.length ≤ 1000) (hb : ∀ b ∈ L, b.f2.length ≤ 8) :
  ∃ L2, worldmintref27_Spoilt.f L at_ how by_ = some L2 ∧ L2.length = L.length ∧ ∀ b ∈ L2, b.f2.length ≤ 9 := by
 unfold worldmintref27_Spoilt.f
 have hok : spoOk L = true := by
  unfold spoOk
  simp only [Bool.and_eq_true, decide_eq_true_eq, List.all_eq_true]
  exact ⟨hL, fun b hb' => by have := hb b hb'; omega⟩
 rw [if_pos hok]
 by_cases h0 : L.length = 0
 ·rw [if_pos h0]
  refine ⟨[], rfl, h0.symm, fun b hb' => by cases hb'⟩
 ·rw [if_neg h0]
  obtain ⟨t, ht, ht0, ht1⟩ := around_ok at_ L.length h1 (by omega)
  obtain ⟨u, hu, hu0, hu1⟩ := around_ok how 5 h2 (by omega)
  simp only [ht, hu, Option.bind_some]
  rw [if_pos ⟨ht0, ht1, hu0, hu1⟩]
  have hm : L.getD t.toNat z85 ∈ L := by
   have : t.toNat < L.length := by omega
   simp [List.getD, this]
  have hlen := hb _ hm
  refine ⟨_, rfl, by simp, fun b hb' => ?_⟩
  rcases List.mem_or_eq_of_mem_set hb' with h | h
  ·have := hb b h; omega
  ·subst h
   unfold spoB
   split
   ·show (L.getD t.toNat z85).f2.length ≤ 9; omega
   ·split
    ·show (L.getD t.toNat z85).f2.length ≤ 9; omega
    ·split
     ·simp only [List.length_append, List.length_singleton]; omega
     ·split
      ·exact Nat.zero_le _
      ·simp only [List.length_cons]; omega
theorem best_feas (n : Int) (l : List S82) (hV : validP n l = 0) : feasP l [] (searchP (fun _ => true) l).1 = true ∧ (searchP (fun _ => true) l).2 = valP l (searchP (fun _ => true) l).1 := by
 obtain ⟨_, _, _, hbb⟩ := validP_bids n l hV
 obtain ⟨p, hib, hse⟩ := search_best (fun _ => true) l (fun b hb => (hbb b hb).1.1)
 have hok := (ok_sel (fun _ => true) l p).2 hib.feas
 have hsr : ∀ k ∈ sel p l.length 0, 0 ≤ k ∧ k < l.length := fun k hk => by
  obtain ⟨q, hq, _, rfl⟩ := (mem_sel0 _ _ _).1 hk
  omega
 rw [hse]
 exact ⟨feas_sel _ _ hsr (rise_sel p l.length 0) hok, (valB_sel l p).symm⟩
def nc (x : S55) : S34 := ⟨x.f0, x.f1, x.f2, x.f3⟩
theorem nc_cn (l : List S55) : (l.map nc).map cn = l := by
 rw [List.map_map]
 exact List.map_id' l
theorem rdP_at (l : List S55) (i : Nat) (x : S55) (h : l[i]? = some x) : rd_T55 l (i : Int) = x := by
 simp [rd_T55, List.getD, h]
theorem taken_ok (v : Int) (NS : List S55) (hl : NS.length < 2932031007402) : Ev (fun k => worldmintlaw29_taken.f k v NS) (v, NS.map nc) := by
 have : ∀ (d : List S55) (p : Nat), NS.drop p = d → p ≤ NS.length → Ev (fun k => worldmintlaw29_taken.l0 k (p : Int) v NS v ((NS.take p).map nc)) (v, NS.map nc) := by
  intro d
  induction d with
  | nil =>
   intro p hd hp
   have := drop_nil NS p hp hd
   subst this
   rw [List.take_length]
   refine Ev.succ ?_
   simp only [worldmintlaw29_taken.l0, if_neg (show ¬ (NS.length : Int) < (NS.length : Int) by omega)]
   exact Ev.some_
  | cons y d ih =>
   intro p hd hp
   obtain ⟨hy, hd', hlt⟩ := drop_cons NS p y d hd
   have hwp : wrap64 ((p : Int) + 1) = ((p + 1 : Nat) : Int) := by rw [w64 _ (by omega) (by omega)]; omega
   have ht : (NS.take (p + 1)).map nc = (NS.take p).map nc ++ [(⟨y.f0, y.f1, y.f2, y.f3⟩ : S34)] := by
    rw [List.take_succ_eq_append_getElem hlt, List.map_append]
    obtain ⟨_, e⟩ := List.getElem?_eq_some_iff.1 hy
    rw [e]
    rfl
   have h1 := ih (p + 1) hd' (by omega)
   rw [ht] at h1
   refine Ev.succ ?_
   simp only [worldmintlaw29_taken.l0, if_pos (show (p : Int) < (NS.length : Int) by omega), if_pos (show (0 : Int) ≤ (p : Int) by omega), if_pos (show ((NS.take p).map nc).length < 2932031007402 by rw [List.length_map, List.length_take]; omega), rdP_at NS p y hy, hwp]
   exact h1
 have h := this NS 0 rfl (Nat.zero_le _)
 simpa [worldmintlaw29_taken.f] using h
theorem best_f (n : Int) (l : List S82) (hV : validP n l = 0) : clear_Best.f n l = some ((searchP (fun _ => true) l).1, (searchP (fun _ => true) l).2, 0) := by
 unfold clear_Best.f
 rw [if_pos hV]
theorem best_ne (n : Int) (l : List S82) (hV : validP n l ≠ 0) : clear_Best.f n l = some ([], 0, validP n l) := by
 unfold clear_Best.f
 rw [if_neg hV]
end Go.Proofs.Ytdamibblnjeooaa.H

/- ProofMakes' law function: its calls give true (walked by hand). -/
namespace Go.Proofs.Ytdamibblnjeooaa.H
open Go.RowKit Go.Proofs.YtdamibblnjeooaaW.PrintWords Go.Proofs.YtdamibblnjeooaaW.PrintLast Go.Proofs.YtdamibblnjeooaaW.PrintMore
set_option linter.unusedVariables false
set_option linter.unusedSimpArgs false
def worldmintlaw29_ProofMakes.f (k : Nat) (a0 : Int) (l1 : List Int) (a2 a3 a4 : Int) : Option Bool :=
 if ((Lit.int .i64 a0).wf && l1.all (fun x => (Lit.int .i64 x).wf) && (Lit.int .i64 a2).wf && (Lit.int .i64 a3).wf && (Lit.int .i64 a4).wf) = true then some true else none
/-- What the generated bids are. -/
theorem gen_bids (a0 : Int) (l1 : List Int) (most : Int) (w0 : (Lit.int .i64 a0).wf = true) (w1 : ∀ x ∈ l1, (Lit.int .i64 x).wf = true) (hm0 : 0 ≤ most) (hm9 : most ≤ 9) :
  ∃ (n k1 k2 : Nat) (L : List S85), 1 ≤ n ∧ n ≤ 8 ∧ worldmintref27_Lots.f a0 = some (n : Int) ∧ worldmintref27_Bids.f k1 (n : Int) l1 most = some L ∧ worldmintlaw29_given.f k2 L = some (L.map cv) ∧ (L.length : Int) ≤ most ∧ (∀ b ∈ L, b.f2.length ≤ 8 ∧ 1 ≤ b.f1 ∧ b.f1 ≤ 450 ∧ b.f0 ≠ 0) ∧ validP (n : Int) (L.map cv) = 0 := by
 obtain ⟨t, ht, ht0, ht1⟩ := lots_ok a0 w0
 obtain ⟨n, rfl⟩ := Int.eq_ofNat_of_zero_le (show 0 ≤ t by omega)
 obtain ⟨L, hL, hLl, hLg⟩ := bids_ok (n : Int) l1 w1 most ht0 ht1 hm0 (by omega)
 obtain ⟨k1, h1⟩ := hL.ex
 obtain ⟨k2, h2⟩ := (given_ok L (by omega)).ex
 refine ⟨n, k1, k2, L, by omega, by omega, ht, h1, h2, hLl, fun b hb => ?_, ?_⟩
 ·obtain ⟨g1, g2, g3, g4, g5, g6, g7⟩ := hLg b hb
  exact ⟨g7, g3, by omega, by omega⟩
 ·refine fine_valid (n : Int) _ ht0 ht1 (by rw [List.length_map]; omega) (fun b hb => ?_)
  obtain ⟨y, hy, rfl⟩ := List.mem_map.1 hb
  obtain ⟨g1, g2, g3, g4, g5, g6, g7⟩ := hLg y hy
  exact ⟨g1, by show y.f0 ≤ _; omega, g3, by show y.f1 ≤ _; omega, g5, g6⟩
def pmk6.T6 : Bool × List (List Nat × List Nat) := (true, [([], []), ([0], [0]), ([1], [1]), ([2], [2]), ([3, 2], [2, 3]), ([2, 4], [2, 4]), ([5, 2], [5]), ([6], [6]), ([7, 6], [6, 7]), ([6], [6]), ([8, 9, 6], [6, 8, 9]), ([6, 10], [6, 10]), ([11, 6], [11]), ([12], [12]), ([12], [12]), ([12], [12]), ([12], [12]), ([13, 14, 15, 16, 12, 12], [12, 13, 14, 15, 16]), ([17, 12], [12, 17]), ([12, 18], [12, 18]), ([19, 17], [19]), ([20], [20]), ([20], [20]), ([20], [20]), ([20], [20]), ([24, 20, 20], [20, 24]), ([21, 22, 23, 25, 25, 20], [20, 21, 22, 23, 25]), ([26, 20], [20, 26]), ([20, 27], [20, 27]), ([28, 26], [28]), ([29], [29]), ([30, 29, 29], [29, 30]), ([29], [29]), ([32, 29], [29, 32]), ([33, 29], [29, 33]), ([31, 34, 29], [29, 31, 34]), ([29, 35], [29, 35]), ([36, 31], [36]), ([37], [37]), ([38, 37], [37, 38]), ([39, 37], [37, 39]), ([40, 37], [37, 40]), ([37, 41], [37, 41])])
def pmk6.B6 : List Nat := [0, 1, 3, 7, 15, 31, 63, 127, 255, 127, 1023, 2047, 4095, 8191, 8191, 8191, 8191, 131071, 262143, 524287, 1048575, 2097151, 2097151, 2097151, 2097151, 18874367, 67108863, 134217727, 268435455, 536870911, 1073741823, 2147483647, 1073741823, 5368709119, 13958643711, 34359738367, 68719476735, 137438953471, 274877906943, 549755813887, 1099511627775, 2199023255551, 4398046511103]
theorem pmk6.tab6 : rtab .any (opsOf Try.f7 6) = pmk6.T6 := by kernel_rfl
theorem pmk6.bits6 : waitsOk pmk6.T6.2 pmk6.B6 = true := by kernel_rfl
set_option maxHeartbeats 8000000 in
set_option maxRecDepth 100000 in
theorem worldmintlaw29_ProofMakes.calls (k : Nat) (a0 : Int) (A1 : Option Addr) (c1 : Nat) (l1 : List Int) (a2 a3 a4 : Int) (r : Bool) (w : World) (hr1 : Kd.C (Kd.int .i64) w A1 l1.length l1) (hc1 : l1.length ≤ c1) (h : worldmintlaw29_ProofMakes.f k a0 l1 a2 a3 a4 = some r) :
  Calls Try.prog 7 #[.int .i64 a0, .slice A1 l1.length c1, .int .i64 a2, .int .i64 a3, .int .i64 a4] w fun e w' => e = .returned (.bool r) ∧ Below w.heap.size w w' := by
 unfold worldmintlaw29_ProofMakes.f at h
 by_cases hw : ((Lit.int .i64 a0).wf && l1.all (fun x => (Lit.int .i64 x).wf) && (Lit.int .i64 a2).wf && (Lit.int .i64 a3).wf && (Lit.int .i64 a4).wf) = true
 case neg => rw [if_neg hw] at h; cases h
 rw [if_pos hw] at h
 obtain rfl := Option.some.inj h
 simp only [Bool.and_eq_true, List.all_eq_true] at hw
 obtain ⟨⟨⟨⟨w0, w1⟩, w2⟩, w3⟩, w4⟩ := hw
 obtain ⟨n, k1, k2, L, hn1, hn8, h1, h2, h3, hLl, hLg, hV⟩ := gen_bids a0 l1 9 w0 w1 (by omega) (by omega)
 have hLl : L.length ≤ 9 := by omega
 obtain ⟨X, hX, hXl, hXg⟩ := spoilt_ok L a2 a3 a4 w2 w3 (by omega) (fun b hb => (hLg b hb).1)
 obtain ⟨k3, h5⟩ := (given_ok X (by omega)).ex
 obtain ⟨k4, h6⟩ := (rvalid_ok (n : Int) X (fun b hb => by have := hXg b hb; omega)).ex
 have H1 := Aside0.mk h1
 have H2 := Aside0.mk h2
 have H3 := Aside0.mk h3
 have HX := Aside0.mk hX
 have H5 := Aside0.mk h5
 have H6 := Aside0.mk h6
 have HV := Aside0.mk hV
 have HLg := Aside0.mk hLg
 have HL9 := Aside0.mk hLl
 have HXl := Aside0.mk hXl
 have Hr1 := Aside0.mk hr1
 clear h1 h2 h3 h5 h6 hX hV hLg hXg hr1 h w0 w1 w2 w3 w4 hLl hXl
 go_enter Try.func7, Try.ntmps7
 go_wp2_with fail
 refine (worldmintref27_Lots.calls a0 (n : Int) _ H1.out).mono ?_
 rintro e w1 ⟨rfl, hd1⟩
 have hb1 := hd1.below
 clear hd1
 go_wp2_with fail
 refine (worldmintref27_Bids.calls k1 (n : Int) _ _ l1 9 L _ (Kd.C_below Hr1.out hb1) hc1 H2.out).mono ?_
 rintro e w2 ⟨vb, rfl, ho2, hb2⟩
 have HB2 := Aside0.mk (hb1.trans (hb2.mono hb1.size))
 obtain ⟨Ab, cb, eb⟩ := Kd.S_slice ho2
 subst eb
 have V2 := Aside0.mk (Kd.S_V (base' := 0) ho2)
 have hcb := (Kd.S_reads' ho2).2.1
 clear ho2 hb1 hb2 Hr1
 go_wp2_with fail
 refine (worldmintlaw29_given.calls k2 (fun _ => True) Ab cb L (L.map cv) w2 V2.out H3.out).mono ?_
 rintro e w3 ⟨vg, rfl, ho3, hb3⟩
 obtain ⟨Ag, cg, eg⟩ := Kd.N_slice ho3
 subst eg
 have HB3 := Aside0.mk (HB2.out.trans (hb3.mono HB2.out.size))
 have V3 := Aside0.mk (Kd.V_below V2.out hb3)
 have G3 := Aside0.mk (Kd.N_reads' ho3).2.2
 have hcg := (Kd.N_reads' ho3).2.1
 clear ho3 hb3 V2 HB2
 obtain ⟨g, hg⟩ : ∃ g, g = L.map cv := ⟨_, rfl⟩
 have hgl : g.length = L.length := by rw [hg, List.length_map]
 have Hgl := Aside0.mk hgl
 rw [← hg] at G3 hcg HV
 rw [← hg]
 have Hg := Aside0.mk hg
 clear hgl hg
 obtain ⟨win, hwin⟩ : ∃ win, win = (searchP (fun _ => true) g).1 := ⟨_, rfl⟩
 obtain ⟨v, hv⟩ : ∃ v, v = (searchP (fun _ => true) g).2 := ⟨_, rfl⟩
 have hbf := best_f (n : Int) g HV.out
 have hfe := best_feas (n : Int) g HV.out
 have hmh := mhyp_ok n g HV.out
 rw [← hwin, ← hv] at hbf hfe
 rw [← hv] at hmh
 have Hbf := Aside0.mk hbf
 have Hfe := Aside0.mk hfe
 have Hmh := Aside0.mk hmh
 clear hbf hfe hmh hwin hv
 go_wp2_with fail
 refine (clear_Best.calls (n : Int) Ag cg g win v 0 w3 G3.out hcg Hbf.out).mono ?_
 rintro e w4 ⟨vw, rfl, ho4, hb4⟩
 obtain ⟨Aw, cw, ew⟩ := Kd.R_slice ho4
 subst ew
 have hcw := (Kd.R_reads' ho4).2.1
 have W4 := Aside0.mk (Kd.R_reads' ho4).2.2
 have HB4 := Aside0.mk (HB3.out.trans (hb4.mono HB3.out.size))
 have V4 := Aside0.mk (Kd.V_below V3.out hb4)
 have G4 := Aside0.mk (Kd.C_below G3.out hb4)
 clear ho4 hb4 HB3 V3 G3
 go_wp2_with fail
 refine (make_ok n Ag cg g win v (DIn g) w4 G4.out hcg Hbf.out Hmh.out).mono ?_
 rintro e w5 ⟨vs, ns, rfl, ho5, htree, hnl, hb5⟩
 obtain ⟨An, cn0, en⟩ := Kd.N_slice ho5
 subst en
 have HB5 := Aside0.mk (HB4.out.trans (hb5.mono HB4.out.size))
 have V5 := Aside0.mk (Kd.V_below V4.out hb5)
 have G5 := Aside0.mk (Kd.C_below G4.out hb5)
 have W5 := Aside0.mk (Kd.C_below W4.out hb5)
 have N5 : Aside0 (Kd.V k55 55 w5 0 (fun _ => True) (.slice An ns.length cn0) ns) := ⟨Kd.V_mono (Kd.N_V (base' := 0) ho5) (fun _ _ => trivial)⟩
 have hcn := (Kd.N_reads' ho5).2.1
 have hns : ns.length ≤ 1023 := by
  have h1 : 2 ^ (g.length + 1) ≤ 2 ^ 10 := Nat.pow_le_pow_right (by omega) (by have := Hgl.out; have := HL9.out; omega)
  omega
 have hn0 := htree.lt
 have hck : checkP (n : Int) g win v ns = 0 := check_grown htree HV.out win Hfe.out.1 Hfe.out.2 (by omega)
 obtain ⟨k5, h7⟩ := (taken_ok v ns (by omega)).ex
 obtain ⟨k6, h8⟩ := (rcheck_ok (n : Int) L (fun b hb => by have := (HLg.out b hb).1; omega) win (by have := feas_len g win Hfe.out.1; have := Hgl.out; have := HL9.out; omega) v (ns.map nc)).ex
 rw [nc_cn, ← Hg.out, hck] at h8
 have hNTl : (ns.map nc).length = ns.length := List.length_map ..
 generalize ns.map nc = NT at h7 h8 hNTl
 have HNTl := Aside0.mk hNTl
 clear hNTl
 have Hck := Aside0.mk hck
 have H7 := Aside0.mk h7
 have H8 := Aside0.mk h8
 clear ho5 hb5 HB4 V4 G4 W4 htree hnl hck h7 h8
 go_upto_region 6 with (fail)
 obtain ⟨W6, hW6⟩ : ∃ W6, W6 = w5.alloc (.cells #[.int .i64 v, .slice An ns.length cn0] 44) := ⟨_, rfl⟩
 obtain ⟨g17, hg17⟩ : ∃ g17, g17 = w5.heap.size := ⟨_, rfl⟩
 have hbk : W6.heap[g17]? = some (.cells #[.int .i64 v, .slice An ns.length cn0] 44 (0, 0)) := by rw [hW6, hg17]; exact heap_alloc_new w5 _
 have hb6 : Below w5.heap.size w5 W6 := by rw [hW6]; exact (Below.refl _ w5).alloc (Nat.le_refl _) _
 have HB6 := Aside0.mk (HB5.out.trans (hb6.mono HB5.out.size))
 have V6 := Aside0.mk (Kd.V_below V5.out hb6)
 have G6 := Aside0.mk (Kd.C_below G5.out hb6)
 have W6c := Aside0.mk (Kd.C_below W5.out hb6)
 have N6 := Aside0.mk (Kd.V_below N5.out hb6)
 have Hkeep : Aside0 (∀ w', Below W6.heap.size W6 w' → w'.cell? ⟨g17, 0, none⟩ = some (.int .i64 v) ∧ w'.cell? ⟨g17, 1, none⟩ = some (.slice An ns.length cn0)) := ⟨fun w' hb => ⟨(blk_cell (blk_below hbk hb) 0).trans rfl, (blk_cell (blk_below hbk hb) 1).trans rfl⟩⟩
 rw [← hW6]
 rw [← hg17]
 clear hW6 hg17 hbk hb6 HB5 V5 G5 W5 N5
 have q1 : (v != v) = false := by simp
 have q2 : ((ns.length : Int) != (ns.length : Int)) = false := by simp
 have q3 : ((ns.length : Int) == 0) = false := beq_false_of_ne (by omega)
 have q4 : ¬ ns = [] := fun e => by rw [e] at hn0; exact absurd hn0 (by simp)
 have q5 : ¬ ns.length = 0 := by omega
 refine start_ (n := 43) (S := fun w' => w'.cell? ⟨g17, 0, none⟩ = some (.int .i64 v) ∧ w'.cell? ⟨g17, 1, none⟩ = some (.slice An ns.length cn0)) (ds := []) #[false, false, false, false, false, false, false, false, false, false, false, false, false, false, false, false, false, false, false, false, false, false, false, false, false, false, false, false, false, false, false, false, false, false, false, false, false, false, false, false, false, false, false] (by kernel_rfl) rfl rfl (Hkeep.out W6.drew (below_drew1 (Below.refl _ _))) (fun hHeld => ?_)
 refine with_tabW pmk6.tab6 pmk6.bits6 (fun HT_ HW_ => ?_)
 refine pure_ (i := 0) (N := some 43) (v := ?_) (a' := ?_) #[true, false, false, false, false, false, false, false, false, false, false, false, false, false, false, false, false, false, false, false, false, false, false, false, false, false, false, false, false, false, false, false, false, false, false, false, false, false, false, false, false, false, false] rfl rfl (any_of HT_.out (by kernel_rfl)) (fun _ _ _ h => h) (Or.inl ⟨by rfl, ?_⟩) ?_ ?_
 rotate_left
 ·(intro w_; go_simp; try with_reducible rfl)
 rotate_left
 ·(simp only [Act.put, List.setIfInBounds_toArray, List.set_cons_zero, List.set_cons_succ, i64_w, i32_w]; rfl)
 refine pure_ (i := 1) (N := some 44) (v := ?_) (a' := ?_) #[true, true, false, false, false, false, false, false, false, false, false, false, false, false, false, false, false, false, false, false, false, false, false, false, false, false, false, false, false, false, false, false, false, false, false, false, false, false, false, false, false, false, false] rfl rfl (any_of HT_.out (by kernel_rfl)) (fun _ _ _ h => h) (Or.inl ⟨by rfl, ?_⟩) ?_ ?_
 rotate_left
 ·(intro w_; go_simp; try with_reducible rfl)
 rotate_left
 ·(simp only [Act.put, List.setIfInBounds_toArray, List.set_cons_zero, List.set_cons_succ, i64_w, i32_w]; rfl)
 refine pure_ (i := 2) (N := some 45) (v := ?_) (a' := ?_) #[true, true, true, false, false, false, false, false, false, false, false, false, false, false, false, false, false, false, false, false, false, false, false, false, false, false, false, false, false, false, false, false, false, false, false, false, false, false, false, false, false, false, false] rfl rfl (any_of HT_.out (by kernel_rfl)) (fun _ _ _ h => h) (Or.inl ⟨by rfl, ?_⟩) ?_ ?_
 rotate_left
 ·(intro w_; go_simp; try with_reducible rfl)
 rotate_left
 ·(simp only [Act.put, List.setIfInBounds_toArray, List.set_cons_zero, List.set_cons_succ, i64_w, i32_w]; rfl)
 refine pure_ (i := 3) (N := some 46) (v := ?_) (a' := ?_) #[true, true, true, true, false, false, false, false, false, false, false, false, false, false, false, false, false, false, false, false, false, false, false, false, false, false, false, false, false, false, false, false, false, false, false, false, false, false, false, false, false, false, false] rfl rfl (any_of HT_.out (by kernel_rfl)) (fun _ _ _ h => h) (Or.inl ⟨by rfl, ?_⟩) ?_ ?_
 rotate_left
 ·(intro w_; go_simp; try with_reducible rfl)
 rotate_left
 ·(simp only [Act.put, List.setIfInBounds_toArray, List.set_cons_zero, List.set_cons_succ, i64_w, i32_w]; rfl)
 refine pure_ (i := 4) (N := some 47) (v := ?_) (a' := ?_) #[true, true, true, true, true, false, false, false, false, false, false, false, false, false, false, false, false, false, false, false, false, false, false, false, false, false, false, false, false, false, false, false, false, false, false, false, false, false, false, false, false, false, false] rfl rfl (any_of HT_.out (by kernel_rfl)) (fun _ _ _ h => h) (Or.inl ⟨by rfl, ?_⟩) ?_ ?_
 rotate_left
 ·(intro w_; go_simp; try with_reducible rfl)
 rotate_left
 ·(simp only [Act.put, List.setIfInBounds_toArray, List.set_cons_zero, List.set_cons_succ, i64_w, i32_w]; rfl)
 refine pure_ (i := 5) (N := some 48) (v := ?_) (a' := ?_) #[true, true, true, true, true, true, false, false, false, false, false, false, false, false, false, false, false, false, false, false, false, false, false, false, false, false, false, false, false, false, false, false, false, false, false, false, false, false, false, false, false, false, false] rfl rfl (any_of HT_.out (by kernel_rfl)) (fun _ _ _ h => h) (Or.inl ⟨by rfl, ?_⟩) ?_ ?_
 rotate_left
 ·(intro w_; go_simp; try with_reducible rfl)
 rotate_left
 ·(simp only [Act.put, List.setIfInBounds_toArray, List.set_cons_zero, List.set_cons_succ, i64_w, i32_w]; rfl)
 refine pure_ (i := 6) (N := some 49) (v := ?_) (a' := ?_) #[true, true, true, true, true, true, true, false, false, false, false, false, false, false, false, false, false, false, false, false, false, false, false, false, false, false, false, false, false, false, false, false, false, false, false, false, false, false, false, false, false, false, false] rfl rfl (any_of HT_.out (by kernel_rfl)) (fun _ _ _ h => h) (Or.inl ⟨by rfl, ?_⟩) ?_ ?_
 rotate_left
 ·(intro w_; go_simp; try with_reducible rfl)
 rotate_left
 ·(simp only [Act.put, List.setIfInBounds_toArray, List.set_cons_zero, List.set_cons_succ, i64_w, i32_w]; rfl)
 refine pure_ (i := 7) (N := some 50) (v := ?_) (a' := ?_) #[true, true, true, true, true, true, true, true, false, false, false, false, false, false, false, false, false, false, false, false, false, false, false, false, false, false, false, false, false, false, false, false, false, false, false, false, false, false, false, false, false, false, false] rfl rfl (any_of HT_.out (by kernel_rfl)) (fun _ _ _ h => h) (Or.inl ⟨by rfl, ?_⟩) ?_ ?_
 rotate_left
 ·(intro w_; go_simp; try with_reducible rfl)
 rotate_left
 ·(simp only [Act.put, List.setIfInBounds_toArray, List.set_cons_zero, List.set_cons_succ, i64_w, i32_w]; rfl)
 refine take_ (i := 8) (N := some 51) (v := ?_) (a' := ?_) #[true, true, true, true, true, true, true, true, true, false, false, false, false, false, false, false, false, false, false, false, false, false, false, false, false, false, false, false, false, false, false, false, false, false, false, false, false, false, false, false, false, false, false] rfl rfl (take_ofW HT_.out HW_.out (by kernel_rfl)) (fun _ _ _ h => h) (Or.inl ⟨by rfl, ?_⟩) (by assumption) ?_ ?_
 rotate_left
 ·(intro w_ hSw_; (try dsimp only at hSw_); go_simp; try with_reducible rfl)
 rotate_left
 ·(simp only [Act.put, List.setIfInBounds_toArray, List.set_cons_zero, List.set_cons_succ, i64_w, i32_w]; rfl)
 refine pure_ (i := 9) (N := some 52) (v := ?_) (a' := ?_) #[true, true, true, true, true, true, true, true, true, true, false, false, false, false, false, false, false, false, false, false, false, false, false, false, false, false, false, false, false, false, false, false, false, false, false, false, false, false, false, false, false, false, false] rfl rfl (any_of HT_.out (by kernel_rfl)) (fun _ _ _ h => h) (Or.inl ⟨by rfl, ?_⟩) ?_ ?_
 rotate_left
 ·(intro w_; go_simp; try with_reducible rfl)
 rotate_left
 ·(simp only [Act.put, List.setIfInBounds_toArray, List.set_cons_zero, List.set_cons_succ, i64_w, i32_w]; rfl)
 refine pure_ (i := 10) (N := some 53) (v := ?_) (a' := ?_) #[true, true, true, true, true, true, true, true, true, true, true, false, false, false, false, false, false, false, false, false, false, false, false, false, false, false, false, false, false, false, false, false, false, false, false, false, false, false, false, false, false, false, false] rfl rfl (any_of HT_.out (by kernel_rfl)) (fun _ _ _ h => h) (Or.inl ⟨by rfl, ?_⟩) ?_ ?_
 rotate_left
 ·(intro w_; go_simp; try with_reducible rfl)
 rotate_left
 ·(simp only [Act.put, List.setIfInBounds_toArray, List.set_cons_zero, List.set_cons_succ, i64_w, i32_w]; rfl)
 refine pure_ (i := 11) (N := some 54) (v := ?_) (a' := ?_) #[true, true, true, true, true, true, true, true, true, true, true, true, false, false, false, false, false, false, false, false, false, false, false, false, false, false, false, false, false, false, false, false, false, false, false, false, false, false, false, false, false, false, false] rfl rfl (any_of HT_.out (by kernel_rfl)) (fun _ _ _ h => h) (Or.inl ⟨by rfl, ?_⟩) ?_ ?_
 rotate_left
 ·(intro w_; go_simp; try with_reducible rfl)
 rotate_left
 ·(simp only [Act.put, List.setIfInBounds_toArray, List.set_cons_zero, List.set_cons_succ, i64_w, i32_w]; rfl)
 refine pure_ (i := 12) (N := some 55) (v := ?_) (a' := ?_) #[true, true, true, true, true, true, true, true, true, true, true, true, true, false, false, false, false, false, false, false, false, false, false, false, false, false, false, false, false, false, false, false, false, false, false, false, false, false, false, false, false, false, false] rfl rfl (any_of HT_.out (by kernel_rfl)) (fun _ _ _ h => h) (Or.inl ⟨by rfl, ?_⟩) ?_ ?_
 rotate_left
 ·(intro w_; go_simp; try with_reducible rfl)
 rotate_left
 ·(simp only [Act.put, List.setIfInBounds_toArray, List.set_cons_zero, List.set_cons_succ, i64_w, i32_w]; rfl)
 refine pure_ (i := 13) (N := some 56) (v := ?_) (a' := ?_) #[true, true, true, true, true, true, true, true, true, true, true, true, true, true, false, false, false, false, false, false, false, false, false, false, false, false, false, false, false, false, false, false, false, false, false, false, false, false, false, false, false, false, false] rfl rfl (any_of HT_.out (by kernel_rfl)) (fun _ _ _ h => h) (Or.inl ⟨by rfl, ?_⟩) ?_ ?_
 rotate_left
 ·(intro w_; go_simp; try with_reducible rfl)
 rotate_left
 ·(simp only [Act.put, List.setIfInBounds_toArray, List.set_cons_zero, List.set_cons_succ, i64_w, i32_w]; rfl)
 refine pure_ (i := 14) (N := some 57) (v := ?_) (a' := ?_) #[true, true, true, true, true, true, true, true, true, true, true, true, true, true, true, false, false, false, false, false, false, false, false, false, false, false, false, false, false, false, false, false, false, false, false, false, false, false, false, false, false, false, false] rfl rfl (any_of HT_.out (by kernel_rfl)) (fun _ _ _ h => h) (Or.inl ⟨by rfl, ?_⟩) ?_ ?_
 rotate_left
 ·(intro w_; go_simp; try with_reducible rfl)
 rotate_left
 ·(simp only [Act.put, List.setIfInBounds_toArray, List.set_cons_zero, List.set_cons_succ, i64_w, i32_w]; rfl)
 refine pure_ (i := 15) (N := some 58) (v := ?_) (a' := ?_) #[true, true, true, true, true, true, true, true, true, true, true, true, true, true, true, true, false, false, false, false, false, false, false, false, false, false, false, false, false, false, false, false, false, false, false, false, false, false, false, false, false, false, false] rfl rfl (any_of HT_.out (by kernel_rfl)) (fun _ _ _ h => h) (Or.inl ⟨by rfl, ?_⟩) ?_ ?_
 rotate_left
 ·(intro w_; go_simp; try with_reducible rfl)
 rotate_left
 ·(simp only [Act.put, List.setIfInBounds_toArray, List.set_cons_zero, List.set_cons_succ, i64_w, i32_w]; rfl)
 refine take_ (i := 16) (N := some 59) (v := ?_) (a' := ?_) #[true, true, true, true, true, true, true, true, true, true, true, true, true, true, true, true, true, false, false, false, false, false, false, false, false, false, false, false, false, false, false, false, false, false, false, false, false, false, false, false, false, false, false] rfl rfl (take_ofW HT_.out HW_.out (by kernel_rfl)) (fun _ _ _ h => h) (Or.inl ⟨by rfl, ?_⟩) (by assumption) ?_ ?_
 rotate_left
 ·(intro w_ hSw_; (try dsimp only at hSw_); go_simp; try with_reducible rfl)
 rotate_left
 ·(simp only [Act.put, List.setIfInBounds_toArray, List.set_cons_zero, List.set_cons_succ, i64_w, i32_w]; rfl)
 refine one_ (i := 17) (N := some 60) #[true, true, true, true, true, true, true, true, true, true, true, true, true, true, true, true, true, true, false, false, false, false, false, false, false, false, false, false, false, false, false, false, false, false, false, false, false, false, false, false, false, false, false] rfl rfl (one_of HT_.out (by kernel_rfl)) (by decide) (fun K hK => ?_)
 go_simp
 have hd6 := below_drew1 (Below.refl W6.heap.size W6)
 have hq1 := proof_Check.calls (n : Int) Ag cg g Aw cw win v An cn0 ns _ W6.drew (Kd.C_below G6.out hd6) hcg (Kd.C_below W6c.out hd6) hcw (Kd.V_reads' (Kd.V_below N6.out hd6)).2.2 hcn rfl
 rw [Hck.out] at hq1
 refine hq1.mono ?_
 rintro e w7 ⟨rfl, hb7⟩
 have HB7 : Aside0 (Below W6.heap.size W6 w7) := ⟨hd6.trans (hb7.mono hd6.size)⟩
 refine hK.out _ _ (Hkeep.out _ HB7.out) (fun hSn_ => ?_)
 clear hK K
 try simp only [Act.put, List.getElem_toArray, List.getElem_cons_zero, List.getElem_cons_succ, List.setIfInBounds_toArray, List.set_cons_zero, List.set_cons_succ]
 clear hd6 hq1 hb7
 refine pure_ (i := 18) (N := some 61) (v := ?_) (a' := ?_) #[true, true, true, true, true, true, true, true, true, true, true, true, true, true, true, true, true, true, true, false, false, false, false, false, false, false, false, false, false, false, false, false, false, false, false, false, false, false, false, false, false, false, false] rfl rfl (any_of HT_.out (by kernel_rfl)) (fun _ _ _ h => h) (Or.inl ⟨by rfl, ?_⟩) ?_ ?_
 rotate_left
 ·(intro w_; go_simp; try with_reducible rfl)
 rotate_left
 ·(simp only [Act.put, List.setIfInBounds_toArray, List.set_cons_zero, List.set_cons_succ, i64_w, i32_w]; rfl)
 refine pure_ (i := 19) (N := some 62) (v := ?_) (a' := ?_) #[true, true, true, true, true, true, true, true, true, true, true, true, true, true, true, true, true, true, true, true, false, false, false, false, false, false, false, false, false, false, false, false, false, false, false, false, false, false, false, false, false, false, false] rfl rfl (any_of HT_.out (by kernel_rfl)) (fun _ _ _ h => h) (Or.inl ⟨by rfl, ?_⟩) ?_ ?_
 rotate_left
 ·(intro w_; go_simp; try with_reducible rfl)
 rotate_left
 ·(simp only [Act.put, List.setIfInBounds_toArray, List.set_cons_zero, List.set_cons_succ, i64_w, i32_w]; rfl)
 refine pure_ (i := 20) (N := some 63) (v := ?_) (a' := ?_) #[true, true, true, true, true, true, true, true, true, true, true, true, true, true, true, true, true, true, true, true, true, false, false, false, false, false, false, false, false, false, false, false, false, false, false, false, false, false, false, false, false, false, false] rfl rfl (any_of HT_.out (by kernel_rfl)) (fun _ _ _ h => h) (Or.inl ⟨by rfl, ?_⟩) ?_ ?_
 rotate_left
 ·(intro w_; go_simp; try with_reducible rfl)
 rotate_left
 ·(simp only [Act.put, List.setIfInBounds_toArray, List.set_cons_zero, List.set_cons_succ, i64_w, i32_w]; rfl)
 refine pure_ (i := 21) (N := some 64) (v := ?_) (a' := ?_) #[true, true, true, true, true, true, true, true, true, true, true, true, true, true, true, true, true, true, true, true, true, true, false, false, false, false, false, false, false, false, false, false, false, false, false, false, false, false, false, false, false, false, false] rfl rfl (any_of HT_.out (by kernel_rfl)) (fun _ _ _ h => h) (Or.inl ⟨by rfl, ?_⟩) ?_ ?_
 rotate_left
 ·(intro w_; go_simp; try with_reducible rfl)
 rotate_left
 ·(simp only [Act.put, List.setIfInBounds_toArray, List.set_cons_zero, List.set_cons_succ, i64_w, i32_w]; rfl)
 refine pure_ (i := 22) (N := some 65) (v := ?_) (a' := ?_) #[true, true, true, true, true, true, true, true, true, true, true, true, true, true, true, true, true, true, true, true, true, true, true, false, false, false, false, false, false, false, false, false, false, false, false, false, false, false, false, false, false, false, false] rfl rfl (any_of HT_.out (by kernel_rfl)) (fun _ _ _ h => h) (Or.inl ⟨by rfl, ?_⟩) ?_ ?_
 rotate_left
 ·(intro w_; go_simp; try with_reducible rfl)
 rotate_left
 ·(simp only [Act.put, List.setIfInBounds_toArray, List.set_cons_zero, List.set_cons_succ, i64_w, i32_w]; rfl)
 refine pure_ (i := 23) (N := some 66) (v := ?_) (a' := ?_) #[true, true, true, true, true, true, true, true, true, true, true, true, true, true, true, true, true, true, true, true, true, true, true, true, false, false, false, false, false, false, false, false, false, false, false, false, false, false, false, false, false, false, false] rfl rfl (any_of HT_.out (by kernel_rfl)) (fun _ _ _ h => h) (Or.inl ⟨by rfl, ?_⟩) ?_ ?_
 rotate_left
 ·(intro w_; go_simp; try with_reducible rfl)
 rotate_left
 ·(simp only [Act.put, List.setIfInBounds_toArray, List.set_cons_zero, List.set_cons_succ, i64_w, i32_w]; rfl)
 refine take_ (i := 24) (N := some 67) (v := ?_) (a' := ?_) #[true, true, true, true, true, true, true, true, true, true, true, true, true, true, true, true, true, true, true, true, true, true, true, true, true, false, false, false, false, false, false, false, false, false, false, false, false, false, false, false, false, false, false] rfl rfl (take_ofW HT_.out HW_.out (by kernel_rfl)) (fun _ _ _ h => h) (Or.inl ⟨by rfl, ?_⟩) (by assumption) ?_ ?_
 rotate_left
 ·(intro w_ hSw_; (try dsimp only at hSw_); go_simp; try with_reducible rfl)
 rotate_left
 ·(simp only [Act.put, List.setIfInBounds_toArray, List.set_cons_zero, List.set_cons_succ, i64_w, i32_w]; rfl)
 refine one_ (i := 25) (N := some 68) #[true, true, true, true, true, true, true, true, true, true, true, true, true, true, true, true, true, true, true, true, true, true, true, true, true, true, false, false, false, false, false, false, false, false, false, false, false, false, false, false, false, false, false] rfl rfl (one_of HT_.out (by kernel_rfl)) (by decide) (fun K hK => ?_)
 go_simp
 refine (worldmintlaw29_taken.calls k5 v (fun _ => True) An cn0 ns v NT w7 (Kd.V_below N6.out HB7.out) H7.out).mono ?_
 rintro e w8 ⟨vt, rfl, ho8, hb8⟩
 obtain ⟨At, ct, et⟩ := Kd.N_slice ho8
 subst et
 have HB8 := Aside0.mk (HB7.out.trans (hb8.mono HB7.out.size))
 have T8 := Aside0.mk (Kd.N_reads' ho8).2.2
 have hct := (Kd.N_reads' ho8).2.1
 refine hK.out _ _ (Hkeep.out _ HB8.out) (fun hSn_ => ?_)
 clear hK K
 try simp only [Act.put, List.getElem_toArray, List.getElem_cons_zero, List.getElem_cons_succ, List.setIfInBounds_toArray, List.set_cons_zero, List.set_cons_succ]
 clear ho8 hb8 HB7
 have Hrc := Aside0.mk (worldmintref29_Check.calls k6 (n : Int) Ab cb L Aw cw win v At ct NT 0 w8 (Kd.V_reads' (Kd.V_below V6.out HB8.out)).2.2 hcb (Kd.C_below W6c.out HB8.out) hcw T8.out hct H8.out)
 refine one_ (i := 26) (N := some 69) #[true, true, true, true, true, true, true, true, true, true, true, true, true, true, true, true, true, true, true, true, true, true, true, true, true, true, true, false, false, false, false, false, false, false, false, false, false, false, false, false, false, false, false] rfl rfl (one_of HT_.out (by kernel_rfl)) (by decide) (fun K hK => ?_)
 go_simp
 refine Hrc.out.mono ?_
 rintro e w9 ⟨rfl, hb9⟩
 have HB9 := Aside0.mk (HB8.out.trans (hb9.mono HB8.out.size))
 refine hK.out _ _ (Hkeep.out _ HB9.out) (fun hSn_ => ?_)
 clear hK K
 try simp only [Act.put, List.getElem_toArray, List.getElem_cons_zero, List.getElem_cons_succ, List.setIfInBounds_toArray, List.set_cons_zero, List.set_cons_succ]
 clear hb9 Hrc T8 HB8
 refine pure_ (i := 27) (N := some 70) (v := ?_) (a' := ?_) #[true, true, true, true, true, true, true, true, true, true, true, true, true, true, true, true, true, true, true, true, true, true, true, true, true, true, true, true, false, false, false, false, false, false, false, false, false, false, false, false, false, false, false] rfl rfl (any_of HT_.out (by kernel_rfl)) (fun _ _ _ h => h) (Or.inl ⟨by rfl, ?_⟩) ?_ ?_
 rotate_left
 ·(intro w_; go_simp; try with_reducible rfl)
 rotate_left
 ·(simp only [Act.put, List.setIfInBounds_toArray, List.set_cons_zero, List.set_cons_succ, i64_w, i32_w]; rfl)
 refine pure_ (i := 28) (N := some 71) (v := ?_) (a' := ?_) #[true, true, true, true, true, true, true, true, true, true, true, true, true, true, true, true, true, true, true, true, true, true, true, true, true, true, true, true, true, false, false, false, false, false, false, false, false, false, false, false, false, false, false] rfl rfl (any_of HT_.out (by kernel_rfl)) (fun _ _ _ h => h) (Or.inl ⟨by rfl, ?_⟩) ?_ ?_
 rotate_left
 ·(intro w_; go_simp; try with_reducible rfl)
 rotate_left
 ·(simp only [Act.put, List.setIfInBounds_toArray, List.set_cons_zero, List.set_cons_succ, i64_w, i32_w]; rfl)
 refine pure_ (i := 29) (N := some 72) (v := ?_) (a' := ?_) #[true, true, true, true, true, true, true, true, true, true, true, true, true, true, true, true, true, true, true, true, true, true, true, true, true, true, true, true, true, true, false, false, false, false, false, false, false, false, false, false, false, false, false] rfl rfl (any_of HT_.out (by kernel_rfl)) (fun _ _ _ h => h) (Or.inl ⟨by rfl, ?_⟩) ?_ ?_
 rotate_left
 ·(intro w_; go_simp; try with_reducible rfl)
 rotate_left
 ·(simp only [Act.put, List.setIfInBounds_toArray, List.set_cons_zero, List.set_cons_succ, i64_w, i32_w]; rfl)
 refine take_ (i := 30) (N := some 73) (v := ?_) (a' := ?_) #[true, true, true, true, true, true, true, true, true, true, true, true, true, true, true, true, true, true, true, true, true, true, true, true, true, true, true, true, true, true, true, false, false, false, false, false, false, false, false, false, false, false, false] rfl rfl (take_ofW HT_.out HW_.out (by kernel_rfl)) (fun _ _ _ h => h) (Or.inl ⟨by rfl, ?_⟩) (by assumption) ?_ ?_
 rotate_left
 ·(intro w_ hSw_; (try dsimp only at hSw_); go_simp; try with_reducible rfl)
 rotate_left
 ·(simp only [Act.put, List.setIfInBounds_toArray, List.set_cons_zero, List.set_cons_succ, i64_w, i32_w]; rfl)
 refine pure_ (i := 32) (N := some 75) (v := ?_) (a' := ?_) #[true, true, true, true, true, true, true, true, true, true, true, true, true, true, true, true, true, true, true, true, true, true, true, true, true, true, true, true, true, true, true, false, true, false, false, false, false, false, false, false, false, false, false] rfl rfl (any_of HT_.out (by kernel_rfl)) (fun _ _ _ h => h) (Or.inl ⟨by rfl, ?_⟩) ?_ ?_
 rotate_left
 ·(intro w_; go_simp; try with_reducible rfl)
 rotate_left
 ·(simp only [Act.put, List.setIfInBounds_toArray, List.set_cons_zero, List.set_cons_succ, i64_w, i32_w]; rfl)
 refine take_ (i := 33) (N := some 76) (v := ?_) (a' := ?_) #[true, true, true, true, true, true, true, true, true, true, true, true, true, true, true, true, true, true, true, true, true, true, true, true, true, true, true, true, true, true, true, false, true, true, false, false, false, false, false, false, false, false, false] rfl rfl (take_ofW HT_.out HW_.out (by kernel_rfl)) (fun _ _ _ h => h) (Or.inl ⟨by rfl, ?_⟩) (by assumption) ?_ ?_
 rotate_left
 ·(intro w_ hSw_; (try dsimp only at hSw_); go_simp; try with_reducible rfl)
 rotate_left
 ·(simp only [Act.put, List.setIfInBounds_toArray, List.set_cons_zero, List.set_cons_succ, i64_w, i32_w]; rfl)
 refine pure_ (i := 34) (N := some 77) (v := ?_) (a' := ?_) #[true, true, true, true, true, true, true, true, true, true, true, true, true, true, true, true, true, true, true, true, true, true, true, true, true, true, true, true, true, true, true, false, true, true, true, false, false, false, false, false, false, false, false] rfl rfl (any_of HT_.out (by kernel_rfl)) (fun _ _ _ h => h) (Or.inl ⟨by rfl, ?_⟩) ?_ ?_
 rotate_left
 ·(intro w_; go_simp; try with_reducible rfl)
 rotate_left
 ·(simp only [Act.put, List.setIfInBounds_toArray, List.set_cons_zero, List.set_cons_succ, i64_w, i32_w]; rfl)
 refine one_ (i := 31) (N := some 74) #[true, true, true, true, true, true, true, true, true, true, true, true, true, true, true, true, true, true, true, true, true, true, true, true, true, true, true, true, true, true, true, true, true, true, true, false, false, false, false, false, false, false, false] rfl rfl (one_of HT_.out (by kernel_rfl)) (by decide) (fun K hK => ?_)
 go_simp
 refine (proof_Size.calls v An cn0 ns (ns.length : Int) w9 (Kd.V_reads' (Kd.V_below N6.out HB9.out)).2.2 hcn rfl).mono ?_
 rintro e w10 ⟨rfl, hb10⟩
 have HB10 := Aside0.mk (HB9.out.trans (hb10.mono HB9.out.size))
 refine hK.out _ _ (Hkeep.out _ HB10.out) (fun hSn_ => ?_)
 clear hK K
 try simp only [Act.put, List.getElem_toArray, List.getElem_cons_zero, List.getElem_cons_succ, List.setIfInBounds_toArray, List.set_cons_zero, List.set_cons_succ]
 clear hb10 HB9
 refine pure_ (i := 35) (N := some 78) (v := ?_) (a' := ?_) #[true, true, true, true, true, true, true, true, true, true, true, true, true, true, true, true, true, true, true, true, true, true, true, true, true, true, true, true, true, true, true, true, true, true, true, true, false, false, false, false, false, false, false] rfl rfl (any_of HT_.out (by kernel_rfl)) (fun _ _ _ h => h) (Or.inl ⟨by rfl, ?_⟩) ?_ ?_
 rotate_left
 ·(intro w_; go_simp; try with_reducible rfl)
 rotate_left
 ·(simp only [Act.put, List.setIfInBounds_toArray, List.set_cons_zero, List.set_cons_succ, i64_w, i32_w]; rfl)
 refine pure_ (i := 36) (N := some 79) (v := ?_) (a' := ?_) #[true, true, true, true, true, true, true, true, true, true, true, true, true, true, true, true, true, true, true, true, true, true, true, true, true, true, true, true, true, true, true, true, true, true, true, true, true, false, false, false, false, false, false] rfl rfl (any_of HT_.out (by kernel_rfl)) (fun _ _ _ h => h) (Or.inl ⟨by rfl, ?_⟩) ?_ ?_
 rotate_left
 ·(intro w_; go_simp; try with_reducible rfl)
 rotate_left
 ·(simp only [Act.put, List.setIfInBounds_toArray, List.set_cons_zero, List.set_cons_succ, i64_w, i32_w]; rfl)
 refine pure_ (i := 37) (N := some 80) (v := ?_) (a' := ?_) #[true, true, true, true, true, true, true, true, true, true, true, true, true, true, true, true, true, true, true, true, true, true, true, true, true, true, true, true, true, true, true, true, true, true, true, true, true, true, false, false, false, false, false] rfl rfl (any_of HT_.out (by kernel_rfl)) (fun _ _ _ h => h) (Or.inl ⟨by rfl, ?_⟩) ?_ ?_
 rotate_left
 ·(intro w_; go_simp; try with_reducible rfl)
 rotate_left
 ·(simp only [Act.put, List.setIfInBounds_toArray, List.set_cons_zero, List.set_cons_succ, i64_w, i32_w]; rfl)
 refine pure_ (i := 38) (N := some 81) (v := ?_) (a' := ?_) #[true, true, true, true, true, true, true, true, true, true, true, true, true, true, true, true, true, true, true, true, true, true, true, true, true, true, true, true, true, true, true, true, true, true, true, true, true, true, true, false, false, false, false] rfl rfl (any_of HT_.out (by kernel_rfl)) (fun _ _ _ h => h) (Or.inl ⟨by rfl, ?_⟩) ?_ ?_
 rotate_left
 ·(intro w_; go_simp; try with_reducible rfl)
 rotate_left
 ·(simp only [Act.put, List.setIfInBounds_toArray, List.set_cons_zero, List.set_cons_succ, i64_w, i32_w]; rfl)
 refine take_ (i := 39) (N := some 82) (v := ?_) (a' := ?_) #[true, true, true, true, true, true, true, true, true, true, true, true, true, true, true, true, true, true, true, true, true, true, true, true, true, true, true, true, true, true, true, true, true, true, true, true, true, true, true, true, false, false, false] rfl rfl (take_ofW HT_.out HW_.out (by kernel_rfl)) (fun _ _ _ h => h) (Or.inl ⟨by rfl, ?_⟩) (by assumption) ?_ ?_
 rotate_left
 ·(intro w_ hSw_; (try dsimp only at hSw_); go_simp; try with_reducible rfl)
 rotate_left
 ·(simp only [Act.put, List.setIfInBounds_toArray, List.set_cons_zero, List.set_cons_succ, i64_w, i32_w]; rfl)
 refine pure_ (i := 40) (N := some 83) (v := ?_) (a' := ?_) #[true, true, true, true, true, true, true, true, true, true, true, true, true, true, true, true, true, true, true, true, true, true, true, true, true, true, true, true, true, true, true, true, true, true, true, true, true, true, true, true, true, false, false] rfl rfl (any_of HT_.out (by kernel_rfl)) (fun _ _ _ h => h) (Or.inl ⟨by rfl, ?_⟩) ?_ ?_
 rotate_left
 ·(intro w_; go_simp; try with_reducible rfl)
 rotate_left
 ·(simp only [Act.put, List.setIfInBounds_toArray, List.set_cons_zero, List.set_cons_succ, i64_w, i32_w]; rfl)
 refine pure_ (i := 41) (N := some 84) (v := ?_) (a' := ?_) #[true, true, true, true, true, true, true, true, true, true, true, true, true, true, true, true, true, true, true, true, true, true, true, true, true, true, true, true, true, true, true, true, true, true, true, true, true, true, true, true, true, true, false] rfl rfl (any_of HT_.out (by kernel_rfl)) (fun _ _ _ h => h) (Or.inl ⟨by rfl, ?_⟩) ?_ ?_
 rotate_left
 ·(intro w_; go_simp; try with_reducible rfl)
 rotate_left
 ·(simp only [Act.put, List.setIfInBounds_toArray, List.set_cons_zero, List.set_cons_succ, i64_w, i32_w]; rfl)
 refine pure_ (i := 42) (N := some 85) (v := ?_) (a' := ?_) #[true, true, true, true, true, true, true, true, true, true, true, true, true, true, true, true, true, true, true, true, true, true, true, true, true, true, true, true, true, true, true, true, true, true, true, true, true, true, true, true, true, true, true] rfl rfl (any_of HT_.out (by kernel_rfl)) (fun _ _ _ h => h) (Or.inl ⟨by rfl, ?_⟩) ?_ ?_
 rotate_left
 ·(intro w_; go_simp; try with_reducible rfl)
 rotate_left
 ·(simp only [Act.put, List.setIfInBounds_toArray, List.set_cons_zero, List.set_cons_succ, i64_w, i32_w]; rfl)
 refine done_ (by kernel_rfl) ?_
 have V10 := Aside0.mk (Kd.V_below V6.out HB10.out)
 have HBt := Aside0.mk (HB6.out.trans (HB10.out.mono HB6.out.size))
 clear HB10 HB6 V6 G6 W6c N6 Hkeep hHeld hSn_ HT_ HW_ Hck H7 H8 HNTl
 go_wp2_with fail
 refine (worldmintref27_Spoilt.calls (fun _ => True) Ab cb L a2 a3 a4 X w10 V10.out HX.out).mono ?_
 rintro e w11 ⟨vx, rfl, ho11, hb11⟩
 obtain ⟨Ax, cx, ex⟩ := Kd.N_slice ho11
 subst ex
 have X11 : Aside0 (Kd.V k85 85 w11 0 (fun _ => True) (.slice Ax X.length cx) X) := ⟨Kd.V_mono (Kd.N_V (base' := 0) ho11) (fun _ _ => trivial)⟩
 have hcx := (Kd.N_reads' ho11).2.1
 have HB11 := Aside0.mk (HBt.out.trans (hb11.mono HBt.out.size))
 clear ho11 hb11 HBt V10
 go_wp2_with fail
 refine (worldmintlaw29_given.calls k3 (fun _ => True) Ax cx X (X.map cv) w11 X11.out H5.out).mono ?_
 rintro e w12 ⟨vg, rfl, ho12, hb12⟩
 obtain ⟨Ay, cy, ey⟩ := Kd.N_slice ho12
 subst ey
 have HB12 := Aside0.mk (HB11.out.trans (hb12.mono HB11.out.size))
 have X12 := Aside0.mk (Kd.V_below X11.out hb12)
 have G12 := Aside0.mk (Kd.N_reads' ho12).2.2
 have hcy := (Kd.N_reads' ho12).2.1
 clear ho12 hb12 X11 HB11
 generalize X.map cv = gx at *
 by_cases hz : validP (n : Int) gx = 0
 ·have hbf := best_f (n : Int) gx hz
  have hmh := mhyp_ok n gx hz
  have h6 := H6.out
  rw [hz] at h6
  have H6' := Aside0.mk h6
  generalize (searchP (fun _ => true) gx).1 = win2 at hbf
  generalize (searchP (fun _ => true) gx).2 = v2 at hbf hmh
  have Hbf2 := Aside0.mk hbf
  have Hmh2 := Aside0.mk hmh
  clear hbf hmh h6 H6 hz
  go_wp2_with fail
  refine (make_ok n Ay cy gx win2 v2 (DIn gx) w12 G12.out hcy Hbf2.out Hmh2.out).mono ?_
  rintro e w13 ⟨vs2, ns2, rfl, ho13, _, _, hb13⟩
  obtain ⟨A13, c13, e13⟩ := Kd.N_slice ho13
  subst e13
  have HB13 := Aside0.mk (HB12.out.trans (hb13.mono HB12.out.size))
  have X13 := Aside0.mk (Kd.V_below X12.out hb13)
  clear ho13 hb13 HB12 X12 G12
  go_upto_region 10 with (fail)
  generalize hW14 : World.alloc w13 _ = W14
  have hb14 : Below w13.heap.size w13 W14 := by rw [← hW14]; exact (Below.refl _ w13).alloc (Nat.le_refl _) _
  have hbk14 := hW14 ▸ heap_alloc_new w13 _
  have HB14 := Aside0.mk (HB13.out.trans (hb14.mono HB13.out.size))
  have X14 := Aside0.mk (Kd.V_below X13.out hb14)
  obtain ⟨g20, hg20⟩ : ∃ g20, g20 = w13.heap.size := ⟨_, rfl⟩
  rw [← hg20]
  rw [← hg20] at hbk14
  have Hbk14 := Aside0.mk hbk14
  clear hW14 hb14 hbk14 hg20
  have hv13 := worldmintref27_Valid.calls k4 (n : Int) Ax cx X 0 W14 (Kd.V_reads' X14.out).2.2 hcx H6'.out
  go_wp2_with fail
  refine hv13.mono ?_
  rintro e w15 ⟨rfl, hb15⟩
  have hbk15 := blk_below Hbk14.out hb15
  have HB15 := Aside0.mk (HB14.out.trans (hb15.mono HB14.out.size))
  have z0 := (blk_cell hbk15 0).trans rfl
  have z1 := (blk_cell hbk15 1).trans rfl
  have hlv := worldmintlaw29_lives.calls true w15 rfl
  have Hlv := Aside0.mk hlv
  clear hlv hbk15 hb15 Hbk14 X14 HB14 X13 HB13
  go_wp2_with fail
  refine Hlv.out.mono ?_
  rintro e w16 ⟨rfl, hb16⟩
  have hfin := HB15.out.trans (hb16.mono HB15.out.size)
  go_wp2
  go_ret
  exact ⟨rfl, hfin⟩
 ·have hbf := best_ne (n : Int) gx hz
  obtain ⟨e2, he2⟩ : ∃ e2, e2 = validP (n : Int) gx := ⟨_, rfl⟩
  rw [← he2] at hbf hz
  have h6 := H6.out
  rw [← he2] at h6
  have H6' := Aside0.mk h6
  have Hbf2 := Aside0.mk hbf
  have r1 : (e2 == e2) = true := by simp
  have r2 : (e2 == 0) = false := by simpa using hz
  clear hbf h6 H6 he2
  go_wp2_with fail
  refine (make_err (n : Int) Ay cy gx [] 0 e2 w12 G12.out hcy Hbf2.out hz).mono ?_
  rintro e w13 ⟨rfl, hb13⟩
  have HB13 := Aside0.mk (HB12.out.trans (hb13.mono HB12.out.size))
  have X13 := Aside0.mk (Kd.V_below X12.out hb13)
  clear hb13 HB12 X12 G12
  go_upto_region 10 with (fail)
  generalize hW14 : World.alloc w13 _ = W14
  have hb14 : Below w13.heap.size w13 W14 := by rw [← hW14]; exact (Below.refl _ w13).alloc (Nat.le_refl _) _
  have hbk14 := hW14 ▸ heap_alloc_new w13 _
  have HB14 := Aside0.mk (HB13.out.trans (hb14.mono HB13.out.size))
  have X14 := Aside0.mk (Kd.V_below X13.out hb14)
  obtain ⟨g20, hg20⟩ : ∃ g20, g20 = w13.heap.size := ⟨_, rfl⟩
  rw [← hg20]
  rw [← hg20] at hbk14
  have Hbk14 := Aside0.mk hbk14
  clear hW14 hb14 hbk14 hg20
  have hv13 := worldmintref27_Valid.calls k4 (n : Int) Ax cx X e2 W14 (Kd.V_reads' X14.out).2.2 hcx H6'.out
  go_wp2_with fail
  refine hv13.mono ?_
  rintro e w15 ⟨rfl, hb15⟩
  have hbk15 := blk_below Hbk14.out hb15
  have HB15 := Aside0.mk (HB14.out.trans (hb15.mono HB14.out.size))
  have z0 := (blk_cell hbk15 0).trans rfl
  have z1 := (blk_cell hbk15 1).trans rfl
  have hlv := worldmintlaw29_lives.calls true w15 rfl
  have Hlv := Aside0.mk hlv
  clear hlv hbk15 hb15 Hbk14 X14 HB14 X13 HB13
  go_wp2_with fail
  refine Hlv.out.mono ?_
  rintro e w16 ⟨rfl, hb16⟩
  have hfin := HB15.out.trans (hb16.mono HB15.out.size)
  go_wp2
  go_ret
  exact ⟨rfl, hfin⟩
end Go.Proofs.Ytdamibblnjeooaa.H

/- Written by a program of this session over the kit's printer: what the functions named below compute, and that the machine's calls compute it. Not trusted: Lean checks it. -/
namespace Go.Proofs.Ytdamibblnjeooaa.H
open Go.RowKit Go.Proofs.YtdamibblnjeooaaW.PrintWords Go.Proofs.YtdamibblnjeooaaW.PrintLast Go.Proofs.YtdamibblnjeooaaW.PrintMore
attribute [local go_sem] max2_int min2_int max_two min_two max_three min_three max_four min_four   -- for this text's walks alone
set_option linter.unusedVariables false
set_option linter.unusedSimpArgs false

/-! ### worldmintlaw29_ProofMakes: function 7 -/
/-- THE ONE PURE STATEMENT of worldmintlaw29_ProofMakes: yours. -/
def worldmintlaw29_ProofMakes.Pure : Prop := ∀ (a0 : Int) (l1 : List Int) (a2 : Int) (a3 : Int) (a4 : Int), (Lit.int .i64 a0).wf = true → l1.length ≤ maxLen → l1.length * 8 ≤ 140737488351232 → (∀ x ∈ l1, (Lit.int .i64 x).wf = true) → (Lit.int .i64 a2).wf = true → (Lit.int .i64 a3).wf = true → (Lit.int .i64 a4).wf = true → ∃ k, worldmintlaw29_ProofMakes.f k a0 l1 a2 a3 a4 = some true
theorem worldmintlaw29_ProofMakes.walk (P : worldmintlaw29_ProofMakes.Pure) (a0 : Int) (a1 : Option Addr) (len1 cap1 : Nat) (z1 : List Int) (a2 : Int) (a3 : Int) (a4 : Int) (w : World) (w0 : (Lit.int .i64 a0).wf = true) (w1 : (a1 = none ∧ len1 = 0 ∧ cap1 = 0 ∧ z1 = []) ∨ ∃ x, a1 = some x ∧ len1 ≤ cap1 ∧ cap1 ≤ maxLen ∧ z1.length = cap1 ∧ (∀ i, i < z1.length → w.cell? (x.add i) = some (.int .i64 (z1.getD i 0))) ∧ ∀ n ∈ z1, (Lit.int .i64 n).wf = true) (y1 : len1 * 8 ≤ 140737488351232) (w2 : (Lit.int .i64 a2).wf = true) (w3 : (Lit.int .i64 a3).wf = true) (w4 : (Lit.int .i64 a4).wf = true) :
  Calls Try.prog 7 #[.int .i64 a0, .slice a1 len1 cap1, .int .i64 a2, .int .i64 a3, .int .i64 a4] w fun e w' => e = .returned (.bool true) ∧ Below w.heap.size w w' := by
 obtain ⟨l1, rfl, hr1, hm1, hw1, hc1⟩ := ReadsInt.ofRowC w1
 obtain ⟨k, h⟩ := P a0 l1 a2 a3 a4 w0 hm1 y1 hw1 w2 w3 w4
 refine (worldmintlaw29_ProofMakes.calls k a0 _ _ l1 a2 a3 a4 true w (Kd.C_of_reads (d := (0 : Int)) (h1 := fun _ => rfl) hr1) hc1 h).mono ?_
 rintro e w' ⟨rfl, hd⟩
 exact ⟨rfl, hd⟩

end Go.Proofs.Ytdamibblnjeooaa.H

/- ProofMakes: the plain statement. -/
namespace Go.Proofs.Ytdamibblnjeooaa.H
open Go.RowKit Go.Proofs.YtdamibblnjeooaaW.PrintWords Go.Proofs.YtdamibblnjeooaaW.PrintLast
theorem ProofMakes_pure : worldmintlaw29_ProofMakes.Pure := by
 intro a0 l1 a2 a3 a4 w0 _ _ w1 w2 w3 w4
 refine ⟨0, if_pos ?_⟩
 simp only [Bool.and_eq_true, List.all_eq_true]
 exact ⟨⟨⟨⟨w0, w1⟩, w2⟩, w3⟩, w4⟩
end Go.Proofs.Ytdamibblnjeooaa.H
namespace Go.Proofs.Ytdamibblnjeooaa.Pure
theorem ProofMakes : H.worldmintlaw29_ProofMakes.Pure := H.ProofMakes_pure
end Go.Proofs.Ytdamibblnjeooaa.Pure
