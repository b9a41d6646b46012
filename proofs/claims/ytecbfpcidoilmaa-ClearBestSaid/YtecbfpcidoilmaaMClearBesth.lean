/- Texts of this claim, one behind the other. -/
import Derived.Test.YtecbfpcidoilmaaMClearBeste
import Derived.Test.YtecbfpcidoilmaaMClearBestb
import Derived.Test.YtecbfpcidoilmaaMClearBestc
import Derived.Test.YtecbfpcidoilmaaMClearBestd
import Derived.Test.YtecbfpcidoilmaaMClearBestf
import Derived.Test.YtecbfpcidoilmaaMClearBestg

/- What a printed function computes with rounds enough: its laws; the generators of the reference. -/
namespace Go.Proofs.Ytecbfpcidoilmaa.H
open Go.RowKit Go.Proofs.YtecbfpcidoilmaaW.PrintWords Go.Proofs.YtecbfpcidoilmaaW.PrintLast
set_option linter.unusedVariables false
set_option linter.unusedSimpArgs false
/-- With rounds enough, f tells a. -/
def Ev {α : Type} (f : Nat → Option α) (a : α) : Prop := ∃ K, ∀ k, K ≤ k → f k = some a
section
variable {α β : Type} {f : Nat → Option α} {a : α}
theorem Ev.succ (h : Ev (fun k => f (k + 1)) a) : Ev f a := by
  obtain ⟨K, h⟩ := h
  refine ⟨K + 1, fun k hk => ?_⟩
  obtain ⟨j, rfl⟩ : ∃ j, k = j + 1 := ⟨k - 1, by omega⟩
  exact h j (by omega)
theorem Ev.bind {g : Nat → α → Option β} {b : β} (hf : Ev f a) (hg : Ev (fun k => g k a) b) : Ev (fun k => (f k).bind (g k)) b := by
  obtain ⟨K, h⟩ := hf
  obtain ⟨K2, h2⟩ := hg
  exact ⟨max K K2, fun k hk => by
    show (f k).bind (g k) = some b
    rw [h k (by omega)]
    exact h2 k (by omega)⟩
theorem Ev.some_ : Ev (fun _ => some a) a := ⟨0, fun _ _ => rfl⟩
theorem Ev.ex (h : Ev f a) : ∃ k, f k = some a := by
  obtain ⟨K, h⟩ := h
  exact ⟨K, h K (Nat.le_refl _)⟩
theorem Ev.of_mono (hm : ∀ k, LeO (f k) (f (k + 1))) (h : ∃ k, f k = some a) : Ev f a := by
  obtain ⟨K, h⟩ := h
  refine ⟨K, fun k hk => ?_⟩
  obtain ⟨d, rfl⟩ := Nat.exists_eq_add_of_le hk
  clear hk
  induction d with
  | zero => exact h
  | succ d ih => exact hm (K + d) _ ih
end
theorem wf_bounds (n : Int) (h : (Lit.int .i64 n).wf = true) : -9223372036854775808 ≤ n ∧ n ≤ 9223372036854775807 := by
  simpa [Lit.wf, IntKind.min, IntKind.max, IntKind.signed, IntKind.bits] using h
theorem w64 (x : Int) (h0 : -9223372036854775808 ≤ x) (h1 : x ≤ 9223372036854775807) : wrap64 x = x := by
  unfold wrap64
  omega
theorem around_ok (n most : Int) (hn : (Lit.int .i64 n).wf = true) (hm : 0 < most) : ∃ r, worldmintref01_Around.f n most = some r ∧ 0 ≤ r ∧ r < most := by
  have hb := wf_bounds n hn
  unfold worldmintref01_Around.f
  by_cases h : n < 0
  · rw [if_pos h, if_neg (by omega), w64 (n + 1) (by omega) (by omega), w64 (-(n + 1)) (by omega) (by omega)]
    exact ⟨_, rfl, Int.tmod_nonneg _ (by omega), Int.tmod_lt_of_pos _ hm⟩
  · rw [if_neg h, if_neg (by omega)]
    exact ⟨_, rfl, Int.tmod_nonneg _ (by omega), Int.tmod_lt_of_pos _ hm⟩
theorem lots_ok (n : Int) (hn : (Lit.int .i64 n).wf = true) : ∃ r, worldmintref27_Lots.f n = some r ∧ 1 ≤ r ∧ r ≤ 8 := by
  obtain ⟨r, h, h0, h1⟩ := around_ok n 8 hn (by omega)
  unfold worldmintref27_Lots.f
  rw [h, Option.bind_some, w64 _ (by omega) (by omega)]
  exact ⟨_, rfl, by omega, by omega⟩
theorem pick_ok (l : List Int) (i most : Int) (hl : ∀ x ∈ l, (Lit.int .i64 x).wf = true) (hm : 0 < most) : ∃ r, worldmintref01_Pick.f l i most = some r ∧ 0 ≤ r ∧ r < most := by
  unfold worldmintref01_Pick.f
  by_cases h : i < 0
  · rw [if_pos h]; exact ⟨0, rfl, by omega, hm⟩
  · rw [if_neg h]
    by_cases h2 : i ≥ (l.length : Int)
    · rw [if_pos h2]; exact ⟨0, rfl, by omega, hm⟩
    · rw [if_neg h2, if_pos (by omega), if_pos (by omega)]
      have hm2 : rd l i ∈ l := by
        have : i.toNat < l.length := by omega
        simp [rd, List.getD, this]
      obtain ⟨r, h3, h4, h5⟩ := around_ok (rd l i) most (hl _ hm2) hm
      exact ⟨r, by rw [h3]; rfl, h4, h5⟩
/-- A bid as the reference draws it. -/
def GoodBid (n : Int) (b : S63) : Prop := 1 ≤ b.f0 ∧ b.f0 ≤ 6 ∧ 1 ≤ b.f1 ∧ b.f1 ≤ 450 ∧ b.f2.length ≠ 0 ∧ lotsOk n (-1) b.f2 = true ∧ b.f2.length ≤ 8
theorem lotsOk_snoc (n j : Int) (hj : j < n) : ∀ (ks : List Int) (last : Int), lotsOk n last ks = true → (∀ k ∈ ks, k < j) → last < j → lotsOk n last (ks ++ [j]) = true
  | [], last, _, _, h => by
    simp only [List.nil_append, lotsOk]
    simp [hj, h]
  | k :: ks, last, h, hk, _ => by
    simp only [List.cons_append, lotsOk] at h ⊢
    split at h
    · simp at h
    · rename_i hc
      rw [if_neg hc]
      exact lotsOk_snoc n j hj ks k h (fun x hx => hk x (by simp [hx])) (hk k (by simp))
set_option maxHeartbeats 1000000 in
theorem bids_l1 (n : Int) (l : List Int) (most : Int) (x7 : List S63) (x8 f0 f1 : Int) (hn1 : 1 ≤ n) (hn8 : n ≤ 8) (hx7 : x7.length < 3518437208883) (L : List S63)
    (hnext : ∀ ks : List Int, ks.length ≠ 0 → lotsOk n (-1) ks = true → ks.length ≤ 8 → ∃ L, Ev (fun k => worldmintref27_Bids.l0 k n l most (x7 ++ [⟨f0, f1, ks⟩]) (wrap64 (x8 + 1))) L ∧ (L.length : Int) ≤ most ∧ ∀ b ∈ L, GoodBid n b) :
    ∀ (d : Nat) (j : Int) (bs : Int) (ks : List Int), (n - j).toNat = d → 0 ≤ j → j ≤ n → lotsOk n (-1) ks = true → (∀ k ∈ ks, k < j) → (ks.length : Int) ≤ j → (j = n → ks.length ≠ 0) →
    ∃ L, Ev (fun k => worldmintref27_Bids.l1 k n l most x7 x8 bs j f0 f1 ks) L ∧ (L.length : Int) ≤ most ∧ ∀ b ∈ L, GoodBid n b
  | 0, j, bs, ks, hd, h0, hjn, hk, hkj, hkl, hne => by
    obtain ⟨L, h1, h2⟩ := hnext ks (hne (by omega)) hk (by omega)
    refine ⟨L, Ev.succ ?_, h2⟩
    simp only [worldmintref27_Bids.l1]
    simp only [if_neg (show ¬ j < n by omega), if_pos hx7]
    exact h1
  | d + 1, j, bs, ks, hd, h0, hjn, hk, hkj, hkl, hne => by
    have hw : wrap64 (j + 1) = j + 1 := w64 _ (by omega) (by omega)
    have hw2 : wrap64 (n - 1) = n - 1 := w64 _ (by omega) (by omega)
    have happ := fun bs' => bids_l1 n l most x7 x8 f0 f1 hn1 hn8 hx7 L hnext d (j + 1) bs' (ks ++ [j]) (by omega) (by omega) (by omega) (lotsOk_snoc n j (by omega) ks (-1) hk hkj (by omega)) (fun k hk' => by
      rcases List.mem_append.1 hk' with h | h
      · have := hkj k h; omega
      · simp at h; omega) (by simp; omega) (fun _ => by simp)
    have hnot := fun bs' (hh : j + 1 = n → ks.length ≠ 0) => bids_l1 n l most x7 x8 f0 f1 hn1 hn8 hx7 L hnext d (j + 1) bs' ks (by omega) (by omega) (by omega) hk (fun k hk' => by have := hkj k hk'; omega) (by omega) hh
    by_cases c1 : Int.tmod bs 2 = 1
    · obtain ⟨L, h1, h2⟩ := happ (wrap64 (Int.tdiv bs 2))
      refine ⟨L, Ev.succ ?_, h2⟩
      simp only [worldmintref27_Bids.l1]
      simp only [if_pos (show j < n by omega), if_pos c1, if_pos (show ks.length < 17592186044416 by omega), hw]
      exact h1
    · by_cases c2 : j = n - 1
      · by_cases c3 : (ks.length : Int) = 0
        · obtain ⟨L, h1, h2⟩ := happ (wrap64 (Int.tdiv bs 2))
          refine ⟨L, Ev.succ ?_, h2⟩
          simp only [worldmintref27_Bids.l1]
          simp only [if_pos (show j < n by omega), if_neg c1, hw2, if_pos c2, if_pos c3, if_pos (show ks.length < 17592186044416 by omega), hw]
          exact h1
        · obtain ⟨L, h1, h2⟩ := hnot (wrap64 (Int.tdiv bs 2)) (fun _ => by omega)
          refine ⟨L, Ev.succ ?_, h2⟩
          simp only [worldmintref27_Bids.l1]
          simp only [if_pos (show j < n by omega), if_neg c1, hw2, if_pos c2, if_neg c3, hw]
          exact h1
      · obtain ⟨L, h1, h2⟩ := hnot (wrap64 (Int.tdiv bs 2)) (fun _ => by omega)
        refine ⟨L, Ev.succ ?_, h2⟩
        simp only [worldmintref27_Bids.l1]
        simp only [if_pos (show j < n by omega), if_neg c1, hw2, if_neg c2, hw]
        exact h1
set_option maxHeartbeats 1000000 in
theorem bids_l0 (n : Int) (l : List Int) (hl : ∀ x ∈ l, (Lit.int .i64 x).wf = true) (most : Int) (hn1 : 1 ≤ n) (hn8 : n ≤ 8) (hm0 : 0 ≤ most) (hm1 : most ≤ 1000) :
    ∀ (d : Nat) (x7 : List S63), (most - x7.length).toNat = d → (x7.length : Int) ≤ most → (∀ b ∈ x7, GoodBid n b) →
    ∃ L, Ev (fun k => worldmintref27_Bids.l0 k n l most x7 x7.length) L ∧ (L.length : Int) ≤ most ∧ ∀ b ∈ L, GoodBid n b := by
  intro d
  induction d with
  | zero =>
    intro x7 hd hx hb
    obtain ⟨r, hr, hr0, hr1⟩ := pick_ok l 0 (most + 1) hl (by omega)
    refine ⟨x7, Ev.succ ?_, hx, hb⟩
    simp only [worldmintref27_Bids.l0, w64 (most + 1) (by omega) (by omega), hr, Option.bind_some]
    simp only [if_neg (show ¬ (x7.length : Int) < r by omega)]
    exact Ev.some_
  | succ d ih =>
    intro x7 hd hx hb
    obtain ⟨r, hr, hr0, hr1⟩ := pick_ok l 0 (most + 1) hl (by omega)
    by_cases hlt : (x7.length : Int) < r
    · obtain ⟨t, ht, ht0, ht1⟩ := pick_ok l (wrap64 (1 + wrap64 (3 * (x7.length : Int)))) 1000000 hl (by omega)
      obtain ⟨u, hu, hu0, hu1⟩ := pick_ok l (wrap64 (2 + wrap64 (3 * (x7.length : Int)))) 255 hl (by omega)
      obtain ⟨v, hv, hv0, hv1⟩ := pick_ok l (wrap64 (3 + wrap64 (3 * (x7.length : Int)))) 255 hl (by omega)
      have e0 : 0 ≤ Int.tmod t 6 ∧ Int.tmod t 6 < 6 := ⟨Int.tmod_nonneg _ ht0, Int.tmod_lt_of_pos _ (by omega)⟩
      have hq : 0 ≤ Int.tdiv t 6 ∧ Int.tdiv t 6 ≤ t := ⟨Int.tdiv_nonneg ht0 (by omega), Int.tdiv_le_self _ ht0⟩
      have hq2 : 0 ≤ Int.tdiv t 216 ∧ Int.tdiv t 216 ≤ t := ⟨Int.tdiv_nonneg ht0 (by omega), Int.tdiv_le_self _ ht0⟩
      have hw1 : wrap64 (Int.tdiv t 6) = Int.tdiv t 6 := w64 _ (by omega) (by omega)
      have hw2 : wrap64 (Int.tdiv t 216) = Int.tdiv t 216 := w64 _ (by omega) (by omega)
      have e1 : 0 ≤ Int.tmod (Int.tdiv t 6) 9 ∧ Int.tmod (Int.tdiv t 6) 9 < 9 := ⟨Int.tmod_nonneg _ hq.1, Int.tmod_lt_of_pos _ (by omega)⟩
      have e2 : 0 ≤ Int.tmod (Int.tdiv t 216) 50 ∧ Int.tmod (Int.tdiv t 216) 50 < 50 := ⟨Int.tmod_nonneg _ hq2.1, Int.tmod_lt_of_pos _ (by omega)⟩
      have g0 : wrap64 (1 + Int.tmod t 6) = 1 + Int.tmod t 6 := w64 _ (by omega) (by omega)
      have g1 : wrap64 (1 + Int.tmod (Int.tdiv t 6) 9) = 1 + Int.tmod (Int.tdiv t 6) 9 := w64 _ (by omega) (by omega)
      have g2 : wrap64 (1 + Int.tmod (Int.tdiv t 216) 50) = 1 + Int.tmod (Int.tdiv t 216) 50 := w64 _ (by omega) (by omega)
      have hpr : ∀ a b : Int, 1 ≤ a → a ≤ 9 → 1 ≤ b → b ≤ 50 → 1 ≤ a * b ∧ a * b ≤ 450 := fun a b a1 a2 b1 b2 => by
        have h1 : 1 * 1 ≤ a * b := Int.mul_le_mul a1 b1 (by omega) (by omega)
        have h2 : a * b ≤ 9 * 50 := Int.mul_le_mul a2 b2 (by omega) (by omega)
        omega
      have hp := hpr (1 + Int.tmod (Int.tdiv t 6) 9) (1 + Int.tmod (Int.tdiv t 216) 50) (by omega) (by omega) (by omega) (by omega)
      have g3 : wrap64 ((1 + Int.tmod (Int.tdiv t 6) 9) * (1 + Int.tmod (Int.tdiv t 216) 50)) = (1 + Int.tmod (Int.tdiv t 6) 9) * (1 + Int.tmod (Int.tdiv t 216) 50) := w64 _ (by omega) (by omega)
      have hstep : ∀ p : Int, 1 ≤ p → p ≤ 450 → ∃ L, Ev (fun k => worldmintref27_Bids.j1 k n l most x7 (x7.length : Int) (1 + Int.tmod t 6) p) L ∧ (L.length : Int) ≤ most ∧ ∀ b ∈ L, GoodBid n b := fun p hp1 hp2 => by
        obtain ⟨L, h1, h2⟩ := bids_l1 n l most x7 (x7.length : Int) (1 + Int.tmod t 6) p hn1 hn8 (by omega) [] (fun ks hk0 hk1 hk2 => by
          obtain ⟨L, h1, h2⟩ := ih (x7 ++ [⟨1 + Int.tmod t 6, p, ks⟩]) (by simp; omega) (by simp; omega) (fun b hb' => by
            rcases List.mem_append.1 hb' with h | h
            · exact hb b h
            · rw [List.mem_singleton] at h; subst h; exact ⟨by show 1 ≤ 1 + _; omega, by show 1 + _ ≤ 6; omega, hp1, hp2, hk0, hk1, hk2⟩)
          refine ⟨L, ?_, h2⟩
          rw [w64 _ (by omega) (by omega)]
          simpa using h1) n.toNat 0 (Go.bits .and .i64 u (Go.bits .or .i64 v 17)) [] (by omega) (by omega) (by omega) rfl (by simp) (by simp) (by omega)
        refine ⟨L, Ev.succ ?_, h2⟩
        simp only [worldmintref27_Bids.j1, hu, hv, Option.bind_some]
        exact h1
      by_cases c : Int.tmod (wrap64 (Int.tdiv t 54)) 4 = 0
      · obtain ⟨L, h1, h2⟩ := hstep _ hp.1 hp.2
        refine ⟨L, Ev.succ ?_, h2⟩
        simp only [worldmintref27_Bids.l0, w64 (most + 1) (by omega) (by omega), hr, ht, Option.bind_some, if_pos hlt, if_pos c, hw1, hw2, g0, g1, g2, g3]
        exact h1
      · obtain ⟨L, h1, h2⟩ := hstep (1 + Int.tmod (Int.tdiv t 6) 9) (by omega) (by omega)
        refine ⟨L, Ev.succ ?_, h2⟩
        simp only [worldmintref27_Bids.l0, w64 (most + 1) (by omega) (by omega), hr, ht, Option.bind_some, if_pos hlt, if_neg c, hw1, g0, g1]
        exact h1
    · refine ⟨x7, Ev.succ ?_, hx, hb⟩
      simp only [worldmintref27_Bids.l0, w64 (most + 1) (by omega) (by omega), hr, Option.bind_some]
      simp only [if_neg hlt]
      exact Ev.some_
theorem bids_ok (n : Int) (l : List Int) (hl : ∀ x ∈ l, (Lit.int .i64 x).wf = true) (most : Int) (hn1 : 1 ≤ n) (hn8 : n ≤ 8) (hm0 : 0 ≤ most) (hm1 : most ≤ 1000) :
    ∃ L, Ev (fun k => worldmintref27_Bids.f k n l most) L ∧ (L.length : Int) ≤ most ∧ ∀ b ∈ L, GoodBid n b := by
  have := bids_l0 n l hl most hn1 hn8 hm0 hm1 _ [] rfl (by simpa using hm0) (by simp)
  simpa [worldmintref27_Bids.f] using this
end Go.Proofs.Ytecbfpcidoilmaa.H

/- The search's answer: the best choice, and of equals the least. Plain. -/
namespace Go.Proofs.Ytecbfpcidoilmaa.H
open Go.RowKit
set_option linter.unusedVariables false
set_option linter.unusedSimpArgs false
/-- Do places a and b conflict? -/
def cf (l : List S45) (a b : Int) : Bool := conf (l.getD a.toNat z45) (l.getD b.toNat z45)
/-- The places from i on, n of them, whose bit is set. -/
def choiceP : Nat → Nat → Nat → List Int
  | 0, _, _ => []
  | n + 1, bits, i => if bits % 2 = 1 then (i : Int) :: choiceP n (bits / 2) (i + 1) else choiceP n (bits / 2) (i + 1)
/-- Places that go with those taken, and among each other. -/
def okS (U : S45 → Bool) (l : List S45) : List Int → List Int → Bool
  | _, [] => true
  | win, k :: s => U (l.getD k.toNat z45) && !(win.any fun w => cf l w k) && okS U l (win ++ [k]) s
def valP (l : List S45) (s : List Int) : Int := (s.map fun k => (l.getD k.toNat z45).f1).sum
def lessP : List Int → List Int → Bool
  | [], [] => false
  | [], _ :: _ => true
  | _ :: _, [] => false
  | a :: s, b :: t => if a = b then lessP s t else decide (a < b)
/-- The best extension. -/
def ext (U : S45 → Bool) (l : List S45) : List S45 → Nat → List Int → List Int × Int
  | [], _, _ => ([], 0)
  | b :: left, i, win =>
    if U b && !(win.any fun w => conf (l.getD w.toNat z45) b) then
      if (ext U l left (i + 1) (win ++ [(i : Int)])).2 + b.f1 < (ext U l left (i + 1) win).2 then ext U l left (i + 1) win
      else ((i : Int) :: (ext U l left (i + 1) (win ++ [(i : Int)])).1, (ext U l left (i + 1) (win ++ [(i : Int)])).2 + b.f1)
    else ext U l left (i + 1) win
section
variable {U : S45 → Bool} {l : List S45}
theorem ext_bounds : ∀ (left : List S45) (i : Nat) (win : List Int), (∀ b ∈ left, 1 ≤ b.f1) → 0 ≤ (ext U l left i win).2 ∧ (ext U l left i win).2 ≤ restOf U left
  | [], _, _, _ => by simp [ext, restOf]
  | b :: left, i, win, h => by
    have hb := h b (by simp)
    have h1 := ext_bounds left (i + 1) win (fun x hx => h x (by simp [hx]))
    have h2 := ext_bounds left (i + 1) (win ++ [(i : Int)]) (fun x hx => h x (by simp [hx]))
    unfold ext restOf
    cases hU : U b
    · simp only [Bool.false_and, Bool.false_eq_true, if_false]; omega
    · simp only [Bool.true_and, if_true]
      split
      · split
        · constructor <;> omega
        · constructor <;> (simp only; omega)
      · constructor <;> omega
theorem try_ext : ∀ (left : List S45) (i : Nat) (value : Int) (win : List Int) (best : Int) (out : List Int) (val : Int), (∀ b ∈ left, 1 ≤ b.f1) →
    tryP U l left i value win (best, out, val) = if best < value + (ext U l left i win).2 then (value + (ext U l left i win).2, win ++ (ext U l left i win).1, value + (ext U l left i win).2) else (best, out, val)
  | [], i, value, win, best, out, val, _ => by
    simp only [tryP, ext, Int.add_zero, List.append_nil]
    by_cases h : value ≤ best
    · rw [if_pos h, if_neg (by omega)]
    · rw [if_neg h, if_pos (by omega)]
  | b :: left, i, value, win, best, out, val, h => by
    have hl : ∀ x ∈ left, 1 ≤ x.f1 := fun x hx => h x (by simp [hx])
    have hb := h b (by simp)
    have hbd := ext_bounds (U := U) (l := l) (b :: left) i win h
    simp only [tryP]
    by_cases hp : value + restOf U (b :: left) ≤ best
    · rw [if_pos hp, if_neg (by omega)]
    · rw [if_neg hp]
      have ht := try_ext left (i + 1) (value + b.f1) (win ++ [(i : Int)]) best out val hl
      have hs := fun B O V => try_ext left (i + 1) value win B O V hl
      unfold ext
      by_cases hc : (U b && !(win.any fun w => conf (l.getD w.toNat z45) b)) = true
      · rw [if_pos hc, if_pos hc, ht]
        generalize ext U l left (i + 1) (win ++ [(i : Int)]) = T at *
        generalize ext U l left (i + 1) win = S at *
        by_cases h1 : best < value + b.f1 + T.2
        · rw [if_pos h1, hs]
          by_cases h2 : T.2 + b.f1 < S.2
          · rw [if_pos h2, if_pos (by omega), if_pos (by omega)]
          · rw [if_neg h2, if_neg (by omega)]
            simp only
            rw [if_pos (by omega)]
            rw [show value + b.f1 + T.2 = value + (T.2 + b.f1) from by omega]
            simp
        · rw [if_neg h1, hs]
          by_cases h2 : T.2 + b.f1 < S.2
          · rw [if_pos h2]
          · rw [if_neg h2, if_neg (by omega)]
            simp only
            rw [if_neg (by omega)]
      · rw [if_neg hc, if_neg hc, hs]
theorem search_ext (h : ∀ b ∈ l, 1 ≤ b.f1) : searchP U l = ext U l l 0 [] := by
  have hb := ext_bounds (U := U) (l := l) l 0 [] h
  unfold searchP
  rw [try_ext l 0 0 [] (-1) [] 0 h, if_pos (by omega)]
  simp
theorem choice_ge : ∀ (n bits i : Nat), ∀ k ∈ choiceP n bits i, (i : Int) ≤ k ∧ k < (i : Int) + n
  | 0, _, _ => by simp [choiceP]
  | n + 1, bits, i => by
    intro k hk
    have ih := choice_ge n (bits / 2) (i + 1)
    unfold choiceP at hk
    split at hk
    · rcases List.mem_cons.1 hk with rfl | hk
      · constructor <;> omega
      · have := ih k hk; constructor <;> omega
    · have := ih k hk; constructor <;> omega
theorem drop_getD (i : Nat) (b : S45) (left : List S45) (h : l.drop i = b :: left) : l.getD (i : Int).toNat z45 = b ∧ l.drop (i + 1) = left := by
  have h1 : l[i]? = some b := by
    have := congrArg (fun t => t[0]?) h
    simpa using this
  refine ⟨by simp [List.getD, h1], ?_⟩
  have := congrArg List.tail h
  simpa using this
theorem ext_valid : ∀ (left : List S45) (i : Nat) (win : List Int), l.drop i = left →
    okS U l win (ext U l left i win).1 = true ∧ valP l (ext U l left i win).1 = (ext U l left i win).2 ∧ ∃ bits, bits < 2 ^ left.length ∧ choiceP left.length bits i = (ext U l left i win).1
  | [], i, win, _ => ⟨by simp [ext, okS], by simp [ext, valP], 0, by simp, by simp [ext, choiceP]⟩
  | b :: left, i, win, h => by
    obtain ⟨hg, hd⟩ := drop_getD i b left h
    obtain ⟨s1, s2, sb, s3, s4⟩ := ext_valid left (i + 1) win hd
    obtain ⟨t1, t2, tb, t3, t4⟩ := ext_valid left (i + 1) (win ++ [(i : Int)]) hd
    have hskip : okS U l win (ext U l left (i + 1) win).1 = true ∧ valP l (ext U l left (i + 1) win).1 = (ext U l left (i + 1) win).2 ∧ ∃ bits, bits < 2 ^ (b :: left).length ∧ choiceP (b :: left).length bits i = (ext U l left (i + 1) win).1 := by
      refine ⟨s1, s2, 2 * sb, by simp only [List.length_cons, Nat.pow_succ]; omega, ?_⟩
      simp only [List.length_cons, choiceP]
      rw [if_neg (by omega), show 2 * sb / 2 = sb from by omega, s4]
    unfold ext
    by_cases hc : (U b && !(win.any fun w => conf (l.getD w.toNat z45) b)) = true
    · rw [if_pos hc]
      split
      · exact hskip
      · refine ⟨?_, ?_, 2 * tb + 1, by simp only [List.length_cons, Nat.pow_succ]; omega, ?_⟩
        · simp only [okS, cf, hg, t1, Bool.and_true]
          exact hc
        · simp only [valP, List.map_cons, List.sum_cons, hg] at t2 ⊢
          omega
        · simp only [List.length_cons, choiceP]
          rw [if_pos (by omega), show (2 * tb + 1) / 2 = tb from by omega, t4]
    · rw [if_neg hc]
      exact hskip
theorem ext_best : ∀ (left : List S45) (i : Nat) (win : List Int), l.drop i = left → (∀ b ∈ left, 1 ≤ b.f1) → ∀ bits, okS U l win (choiceP left.length bits i) = true →
    valP l (choiceP left.length bits i) ≤ (ext U l left i win).2 ∧ (valP l (choiceP left.length bits i) = (ext U l left i win).2 → choiceP left.length bits i = (ext U l left i win).1 ∨ lessP (ext U l left i win).1 (choiceP left.length bits i) = true)
  | [], i, win, _, _, bits, _ => ⟨by simp [choiceP, ext, valP], fun _ => .inl (by simp [choiceP, ext])⟩
  | b :: left, i, win, h, hp, bits, hok => by
    obtain ⟨hg, hd⟩ := drop_getD i b left h
    have hb := hp b (by simp)
    have hl : ∀ x ∈ left, 1 ≤ x.f1 := fun x hx => hp x (by simp [hx])
    have hs := ext_best left (i + 1) win hd hl (bits / 2)
    have ht := ext_best left (i + 1) (win ++ [(i : Int)]) hd hl (bits / 2)
    have hge := choice_ge left.length (bits / 2) (i + 1)
    have htb := ext_bounds (U := U) (l := l) left (i + 1) (win ++ [(i : Int)]) hl
    simp only [List.length_cons, choiceP] at hok ⊢
    by_cases hbit : bits % 2 = 1
    · rw [if_pos hbit] at hok ⊢
      simp only [okS, cf, hg, Bool.and_eq_true] at hok
      obtain ⟨⟨hU, hnc⟩, hrest⟩ := hok
      obtain ⟨h1, h2⟩ := ht hrest
      unfold ext
      rw [if_pos (by simp only [Bool.and_eq_true]; exact ⟨hU, hnc⟩)]
      have hv : valP l ((i : Int) :: choiceP left.length (bits / 2) (i + 1)) = b.f1 + valP l (choiceP left.length (bits / 2) (i + 1)) := by
        simp only [valP, List.map_cons, List.sum_cons, hg]
      rw [hv]
      split
      · exact ⟨by omega, fun e => by omega⟩
      · refine ⟨by show _ ≤ (_, _).2; simp only; omega, fun e => ?_⟩
        simp only at e ⊢
        rcases h2 (by omega) with h3 | h3
        · exact .inl (by rw [h3])
        · exact .inr (by simp only [lessP, if_true]; exact h3)
    · rw [if_neg hbit] at hok ⊢
      obtain ⟨h1, h2⟩ := hs hok
      unfold ext
      split
      · split
        · exact ⟨h1, h2⟩
        · refine ⟨by show _ ≤ (_, _).2; simp only; omega, fun e => .inr ?_⟩
          simp only at e ⊢
          cases hc : choiceP left.length (bits / 2) (i + 1) with
          | nil =>
            rw [hc] at e
            simp only [valP, List.map_nil, List.sum_nil] at e
            omega
          | cons k s =>
            have := hge k (by rw [hc]; simp)
            simp only [lessP]
            rw [if_neg (by omega)]
            simp
            omega
      · exact ⟨h1, h2⟩
/-- What the reference keeps: a choice that is the best. -/
theorem best_unique (hp : ∀ b ∈ l, 1 ≤ b.f1) (win : List Int) (value : Int) (b0 : Nat) (h0 : b0 < 2 ^ l.length) (hw : choiceP l.length b0 0 = win) (hok : okS U l [] win = true) (hv : valP l win = value)
    (hall : ∀ b, b < 2 ^ l.length → okS U l [] (choiceP l.length b 0) = true → valP l (choiceP l.length b 0) ≤ value ∧ (valP l (choiceP l.length b 0) = value → lessP (choiceP l.length b 0) win = false)) :
    (win, value) = searchP U l := by
  rw [search_ext hp]
  obtain ⟨e1, e2, be, e3, e4⟩ := ext_valid (U := U) l 0 [] (l := l) rfl
  obtain ⟨h1, h2⟩ := hall be e3 (by rw [e4]; exact e1)
  obtain ⟨h3, h4⟩ := ext_best (U := U) (l := l) l 0 [] rfl hp b0 (by rw [hw]; exact hok)
  rw [e4] at h1 h2
  rw [hw] at h3 h4
  have hvv : value = (ext U l l 0 []).2 := by omega
  have hww : win = (ext U l l 0 []).1 := by
    rcases h4 (by omega) with h5 | h5
    · exact h5
    · rw [h2 (by omega)] at h5
      cases h5
  rw [hvv, hww]
theorem less_irrefl : ∀ s, lessP s s = false
  | [] => rfl
  | a :: s => by simp [lessP, less_irrefl s]
theorem less_trans : ∀ a b c, lessP a b = true → lessP b c = true → lessP a c = true
  | [], [], _, h, _ => by simp [lessP] at h
  | [], _ :: _, [], _, h => by simp [lessP] at h
  | [], _ :: _, _ :: _, _, _ => rfl
  | _ :: _, [], _, h, _ => by simp [lessP] at h
  | _ :: _, _ :: _, [], _, h => by simp [lessP] at h
  | x :: a, y :: b, z :: c, h1, h2 => by
    simp only [lessP] at h1 h2 ⊢
    by_cases e1 : x = y
    · subst e1
      rw [if_pos rfl] at h1
      by_cases e2 : x = z
      · subst e2
        rw [if_pos rfl] at h2 ⊢
        exact less_trans a b c h1 h2
      · rw [if_neg e2] at h2 ⊢
        exact h2
    · rw [if_neg e1] at h1
      simp only [decide_eq_true_eq] at h1
      by_cases e2 : y = z
      · subst e2
        rw [if_neg e1]
        simpa using h1
      · rw [if_neg e2] at h2
        simp only [decide_eq_true_eq] at h2
        rw [if_neg (by omega)]
        simp only [decide_eq_true_eq]
        omega
end
end Go.Proofs.Ytecbfpcidoilmaa.H

/- What the reference of bids and clear computes: by the same plain words. -/
namespace Go.Proofs.Ytecbfpcidoilmaa.H
open Go.RowKit Go.Proofs.YtecbfpcidoilmaaW.PrintWords Go.Proofs.YtecbfpcidoilmaaW.PrintLast
set_option linter.unusedVariables false
set_option linter.unusedSimpArgs false
/-- A bid of the reference as a bid of the program. -/
def cv (b : S63) : S45 := ⟨b.f0, b.f1, b.f2⟩
theorem drop_cons {α : Type} (l : List α) (p : Nat) (x : α) (d : List α) (h : l.drop p = x :: d) : l[p]? = some x ∧ l.drop (p + 1) = d ∧ p < l.length := by
  have h1 : l[p]? = some x := by
    have := congrArg (fun t => t[0]?) h
    simpa using this
  refine ⟨h1, ?_, ?_⟩
  · have := congrArg List.tail h
    simpa using this
  · have := congrArg List.length h
    simp at this
    omega
theorem drop_nil {α : Type} (l : List α) (p : Nat) (hp : p ≤ l.length) (h : l.drop p = []) : p = l.length := by
  have := congrArg List.length h
  simp at this
  omega
theorem rdR_at (l : List S63) (i : Nat) (x : S63) (h : l[i]? = some x) : rd_T63 l (i : Int) = x := by
  simp [rd_T63, List.getD, h]
theorem rdR_cv (l : List S63) (i : Int) : cv (rd_T63 l i) = (l.map cv).getD i.toNat z45 := by
  simp only [rd_T63, List.getD, List.getElem?_map]
  cases l[i.toNat]? <;> rfl
/-! ### Valid -/
theorem rvalid_l1 (n : Int) (l : List S63) (i f0 f1 : Int) (ks : List Int) (hk : ks.length ≤ 9223372036854775807) (r : Int) (hr : Ev (fun k => worldmintref27_Valid.l0 k n l (wrap64 (i + 1))) r) :
    ∀ (d : List Int) (p : Nat) (last : Int), ks.drop p = d → p ≤ ks.length → -1 ≤ last → (p = 0 → last = -1) → (∀ q, p = q + 1 → rd ks q = last) →
    Ev (fun k => worldmintref27_Valid.l1 k n l i (p : Int) f0 f1 ks) (if lotsOk n last d then r else 1)
  | [], p, last, hd, hp, hl, hz, hq => by
    have := drop_nil ks p hp hd
    refine Ev.succ ?_
    simp only [worldmintref27_Valid.l1, if_neg (show ¬ (p : Int) < (ks.length : Int) by omega), lotsOk, if_true]
    exact hr
  | x :: d, p, last, hd, hp, hl, hz, hq => by
    obtain ⟨hx, hd', hlt⟩ := drop_cons ks p x d hd
    have ih := fun h0 => rvalid_l1 n l i f0 f1 ks hk r hr d (p + 1) x hd' (by omega) h0 (by omega) (fun q e => by
      have : q = p := by omega
      subst this
      exact rd_at ks q x hx)
    have hw : wrap64 ((p : Int) + 1) = ((p + 1 : Nat) : Int) := by rw [w64 _ (by omega) (by omega)]; omega
    have hF : x ≤ last ∨ n ≤ x → lotsOk n last (x :: d) = false := fun h => by
      simp only [lotsOk]
      rw [if_pos (by simpa using h)]
    have hT : ¬ x ≤ last → ¬ n ≤ x → lotsOk n last (x :: d) = lotsOk n x d := fun h1 h2 => by
      simp only [lotsOk]
      rw [if_neg (by simp; omega)]
    refine Ev.succ ?_
    simp only [worldmintref27_Valid.l1, if_pos (show (p : Int) < (ks.length : Int) by omega), if_pos (show (0 : Int) ≤ (p : Int) by omega), rd_at ks p x hx, hw]
    by_cases c1 : x < 0
    · simp only [if_pos c1]
      rw [hF (by omega)]
      simpa using Ev.some_
    · simp only [if_neg c1]
      by_cases c2 : x ≥ n
      · simp only [if_pos c2]
        rw [hF (by omega)]
        simpa using Ev.some_
      · simp only [if_neg c2]
        cases p with
        | zero =>
          have hl1 := hz rfl
          simp only [if_neg (show ¬ ((0 : Nat) : Int) > 0 by omega)]
          rw [hT (by omega) (by omega)]
          exact ih (by omega)
        | succ q =>
          have hw2 : wrap64 (((q + 1 : Nat) : Int) - 1) = (q : Int) := by rw [w64 _ (by omega) (by omega)]; omega
          simp only [if_pos (show ((q + 1 : Nat) : Int) > 0 by omega), hw2, if_pos (show (0 : Int) ≤ (q : Int) by omega), if_pos (show (q : Int) < (ks.length : Int) by omega), hq q rfl]
          by_cases c3 : x ≤ last
          · simp only [if_pos c3]
            rw [hF (by omega)]
            simpa using Ev.some_
          · simp only [if_neg c3]
            rw [hT (by omega) (by omega)]
            exact ih (by omega)
theorem rvalid_l0 (n : Int) (l : List S63) (hl : l.length ≤ 10) (hb : ∀ b ∈ l, b.f2.length ≤ 9223372036854775807) : ∀ (d : List S63) (p : Nat), l.drop p = d → p ≤ l.length →
    Ev (fun k => worldmintref27_Valid.l0 k n l (p : Int)) (bidsErr n (d.map cv))
  | [], p, hd, hp => by
    have := drop_nil l p hp hd
    refine Ev.succ ?_
    simp only [worldmintref27_Valid.l0, if_neg (show ¬ (p : Int) < (l.length : Int) by omega)]
    exact Ev.some_
  | x :: d, p, hd, hp => by
    obtain ⟨hx, hd', hlt⟩ := drop_cons l p x d hd
    have ih := rvalid_l0 n l hl hb d (p + 1) hd' (by omega)
    have hw : wrap64 ((p : Int) + 1) = ((p + 1 : Nat) : Int) := by rw [w64 _ (by omega) (by omega)]; omega
    have h1 := rvalid_l1 n l p x.f0 x.f1 x.f2 (hb x (List.mem_of_getElem? hx)) _ (by rw [hw]; exact ih) x.f2 0 (-1) rfl (Nat.zero_le _) (by omega) (fun _ => rfl) (fun q e => by omega)
    refine Ev.succ ?_
    simp only [worldmintref27_Valid.l0, if_pos (show (p : Int) < (l.length : Int) by omega), if_pos (show (0 : Int) ≤ (p : Int) by omega), rdR_at l p x hx, List.map_cons, bidsErr, cv]
    have hj : ∀ v : Bool, Ev (fun k => worldmintref27_Valid.j2 k n l (p : Int) v x.f0 x.f1 x.f2) (if v then 1 else if x.f1 < 1 || 1099511627776 < x.f1 then 5 else if x.f2.length == 0 then 1 else if !lotsOk n (-1) x.f2 then 1 else bidsErr n (d.map cv)) := fun v => by
      refine Ev.succ ?_
      cases v
      · have hj3 : ∀ u : Bool, Ev (fun k => worldmintref27_Valid.j3 k n l (p : Int) u x.f0 x.f1 x.f2) (if u then 5 else if x.f2.length == 0 then 1 else if !lotsOk n (-1) x.f2 then 1 else bidsErr n (d.map cv)) := fun u => by
          refine Ev.succ ?_
          cases u
          · simp only [worldmintref27_Valid.j3, Bool.false_eq_true, if_false]
            by_cases c : (x.f2.length : Int) = 0
            · simp only [if_pos c]
              rw [if_pos (by simpa using c)]
              exact Ev.some_
            · simp only [if_neg c]
              rw [if_neg (by simpa using c)]
              cases hk : lotsOk n (-1) x.f2
              · simpa [hk] using h1
              · simpa [hk] using h1
          · simp only [worldmintref27_Valid.j3, if_true]
            exact Ev.some_
        simp only [worldmintref27_Valid.j2, Bool.false_eq_true, if_false]
        by_cases c : x.f1 < 1
        · simp only [if_pos c]
          have := hj3 true
          simpa [c] using this
        · simp only [if_neg c]
          have := hj3 (decide (x.f1 > 1099511627776))
          simpa [c] using this
      · simp only [worldmintref27_Valid.j2, if_true]
        exact Ev.some_
    by_cases c : x.f0 < 1
    · simp only [if_pos c]
      have := hj true
      simpa [c] using this
    · simp only [if_neg c]
      have := hj (decide (x.f0 > 1073741824))
      simpa [c] using this
theorem rvalid_ok (n : Int) (l : List S63) (hb : ∀ b ∈ l, b.f2.length ≤ 9223372036854775807) : Ev (fun k => worldmintref27_Valid.f k n l) (validP n (l.map cv)) := by
  have hj : ∀ v : Bool, Ev (fun k => worldmintref27_Valid.j0 k n l v) (if v then 5 else if 10 < l.length then 4 else bidsErr n (l.map cv)) := fun v => by
    refine Ev.succ ?_
    cases v
    · simp only [worldmintref27_Valid.j0, Bool.false_eq_true, if_false]
      by_cases c : (l.length : Int) > 10
      · simp only [if_pos c]
        rw [if_pos (by omega)]
        exact Ev.some_
      · simp only [if_neg c]
        rw [if_neg (by omega)]
        exact rvalid_l0 n l (by omega) hb l 0 rfl (Nat.zero_le _)
    · simp only [worldmintref27_Valid.j0, if_true]
      exact Ev.some_
  unfold worldmintref27_Valid.f validP
  by_cases c : n < 1
  · simp only [if_pos c]
    have := hj true
    simpa [c] using this
  · simp only [if_neg c]
    have := hj (decide (n > 8))
    simpa [c] using this
/-! ### given -/
theorem given_ok (l : List S63) (hl : l.length < 3518437208883) : Ev (fun k => worldmintlaw28_given.f k l) (l.map cv) := by
  have : ∀ (d : List S63) (p : Nat), l.drop p = d → p ≤ l.length → Ev (fun k => worldmintlaw28_given.l0 k l ((l.take p).map cv) (p : Int)) (l.map cv) := by
    intro d
    induction d with
    | nil =>
      intro p hd hp
      have := drop_nil l p hp hd
      subst this
      refine Ev.succ ?_
      simp only [worldmintlaw28_given.l0, if_neg (show ¬ (l.length : Int) < (l.length : Int) by omega), List.take_length]
      exact Ev.some_
    | cons x d ih =>
      intro p hd hp
      obtain ⟨hx, hd', hlt⟩ := drop_cons l p x d hd
      have hw : wrap64 ((p : Int) + 1) = ((p + 1 : Nat) : Int) := by rw [w64 _ (by omega) (by omega)]; omega
      have h1 := ih (p + 1) hd' (by omega)
      refine Ev.succ ?_
      simp only [worldmintlaw28_given.l0, if_pos (show (p : Int) < (l.length : Int) by omega), if_pos (show (0 : Int) ≤ (p : Int) by omega), rdR_at l p x hx, hw, List.length_map, List.length_take]
      simp only [if_pos (show min p l.length < 3518437208883 by omega)]
      have e : (l.take p).map cv ++ [⟨x.f0, x.f1, x.f2⟩] = (l.take (p + 1)).map cv := by
        have hg : l[p] = x := by
          have := List.getElem?_eq_getElem hlt
          rw [hx] at this
          injection this with this
          exact this.symm
        rw [List.take_succ_eq_append_getElem hlt, List.map_append, hg]
        rfl
      rw [e]
      exact h1
  exact this l 0 rfl (Nat.zero_le _)
/-! ### Conflict, Feasible, Value, Less, Choice -/
theorem has_ok (xs : List Int) (x : Int) (hl : xs.length ≤ 9223372036854775807) : Ev (fun k => worldmintref01_Has.f k xs x) (xs.contains x) := by
  have : ∀ (d : List Int) (p : Nat), xs.drop p = d → p ≤ xs.length → Ev (fun k => worldmintref01_Has.l0 k xs x (p : Int)) (d.contains x) := by
    intro d
    induction d with
    | nil =>
      intro p hd hp
      have := drop_nil xs p hp hd
      refine Ev.succ ?_
      simp only [worldmintref01_Has.l0, if_neg (show ¬ (p : Int) < (xs.length : Int) by omega)]
      exact Ev.some_
    | cons y d ih =>
      intro p hd hp
      obtain ⟨hx, hd', hlt⟩ := drop_cons xs p y d hd
      have hw : wrap64 ((p : Int) + 1) = ((p + 1 : Nat) : Int) := by rw [w64 _ (by omega) (by omega)]; omega
      have h1 := ih (p + 1) hd' (by omega)
      refine Ev.succ ?_
      simp only [worldmintref01_Has.l0, if_pos (show (p : Int) < (xs.length : Int) by omega), if_pos (show (0 : Int) ≤ (p : Int) by omega), rd_at xs p y hx, hw]
      by_cases c : y = x
      · subst c
        simp only [if_true]
        simpa using Ev.some_
      · simp only [if_neg c]
        have e : (y :: d).contains x = d.contains x := by rw [List.contains_cons, beq_false_of_ne (fun e : x = y => c e.symm), Bool.false_or]
        rw [e]
        exact h1
  exact this xs 0 rfl (Nat.zero_le _)
theorem rconf_ok (a0 a1 : Int) (a2 : List Int) (b0 b1 : Int) (b2 : List Int) (ha : a2.length ≤ 9223372036854775807) (hb : b2.length ≤ 9223372036854775807) :
    Ev (fun k => worldmintref27_Conflict.f k a0 a1 a2 b0 b1 b2) (conf ⟨b0, b1, b2⟩ ⟨a0, a1, a2⟩) := by
  have : ∀ (d : List Int) (p : Nat), a2.drop p = d → p ≤ a2.length → Ev (fun k => worldmintref27_Conflict.l0 k (p : Int) a0 a1 a2 b0 b1 b2) (d.any fun k => b2.contains k) := by
    intro d
    induction d with
    | nil =>
      intro p hd hp
      have := drop_nil a2 p hp hd
      refine Ev.succ ?_
      simp only [worldmintref27_Conflict.l0, if_neg (show ¬ (p : Int) < (a2.length : Int) by omega)]
      exact Ev.some_
    | cons y d ih =>
      intro p hd hp
      obtain ⟨hx, hd', hlt⟩ := drop_cons a2 p y d hd
      have hw : wrap64 ((p : Int) + 1) = ((p + 1 : Nat) : Int) := by rw [w64 _ (by omega) (by omega)]; omega
      have h1 := ih (p + 1) hd' (by omega)
      refine Ev.succ ?_
      simp only [worldmintref27_Conflict.l0, if_pos (show (p : Int) < (a2.length : Int) by omega), if_pos (show (0 : Int) ≤ (p : Int) by omega), rd_at a2 p y hx, hw]
      refine Ev.bind (has_ok b2 y hb) ?_
      simp only [List.any_cons]
      cases b2.contains y
      · simpa using h1
      · simpa using Ev.some_
  unfold worldmintref27_Conflict.f conf
  by_cases c : a0 = b0
  · subst c
    simp only [if_true]
    simpa using Ev.some_
  · simp only [if_neg c]
    have e : (b0 == a0) = false := by simpa using fun e : b0 = a0 => c e.symm
    simp only [e, Bool.false_or]
    exact this a2 0 rfl (Nat.zero_le _)
theorem choice_ok (n : Nat) (hn : n ≤ 100) : ∀ (d : Nat) (i : Nat) (bits : Nat) (acc : List Int), n - i = d → i ≤ n → acc.length ≤ i → bits ≤ 9223372036854775807 →
    Ev (fun k => worldmintref27_Choice.l0 k (bits : Int) (n : Int) acc (i : Int)) (acc ++ choiceP d bits i)
  | 0, i, bits, acc, hd, hi, hacc, hb => by
    refine Ev.succ ?_
    simp only [worldmintref27_Choice.l0, if_neg (show ¬ (i : Int) < (n : Int) by omega), choiceP, List.append_nil]
    exact Ev.some_
  | d + 1, i, bits, acc, hd, hi, hacc, hb => by
    have hw : wrap64 ((i : Int) + 1) = ((i + 1 : Nat) : Int) := by rw [w64 _ (by omega) (by omega)]; omega
    have ht : Int.tmod (bits : Int) 2 = ((bits % 2 : Nat) : Int) := by rw [Int.tmod_eq_emod_of_nonneg (by omega)]; omega
    have hv : wrap64 (Int.tdiv (bits : Int) 2) = ((bits / 2 : Nat) : Int) := by
      rw [Int.tdiv_eq_ediv_of_nonneg (by omega), w64 _ (by omega) (by omega)]; omega
    refine Ev.succ ?_
    simp only [worldmintref27_Choice.l0, if_pos (show (i : Int) < (n : Int) by omega), ht, hv, hw, choiceP]
    by_cases c : bits % 2 = 1
    · simp only [if_pos (show ((bits % 2 : Nat) : Int) = 1 by omega), if_pos (show acc.length < 17592186044416 by omega), if_pos c]
      have := choice_ok n hn d (i + 1) (bits / 2) (acc ++ [(i : Int)]) (by omega) (by omega) (by simp; omega) (by omega)
      simpa using this
    · simp only [if_neg (show ¬ ((bits % 2 : Nat) : Int) = 1 by omega), if_neg c]
      exact choice_ok n hn d (i + 1) (bits / 2) acc (by omega) (by omega) (by omega) (by omega)
theorem rvalue_ok (l : List S63) (c : List Int) (hc : ∀ k ∈ c, 0 ≤ k ∧ k < l.length) (hl : c.length ≤ 1000) (hp : ∀ b ∈ l, 0 ≤ b.f1 ∧ b.f1 ≤ 1099511627776) : Ev (fun k => worldmintref27_Value.f k l c) (valP (l.map cv) c) := by
  have : ∀ (d : List Int) (p : Nat) (s : Int), c.drop p = d → p ≤ c.length → 0 ≤ s → s ≤ p * 1099511627776 → Ev (fun k => worldmintref27_Value.l0 k l c s (p : Int)) (s + valP (l.map cv) d) := by
    intro d
    induction d with
    | nil =>
      intro p s hd hpl hs0 hs1
      have := drop_nil c p hpl hd
      refine Ev.succ ?_
      simp only [worldmintref27_Value.l0, if_neg (show ¬ (p : Int) < (c.length : Int) by omega), valP, List.map_nil, List.sum_nil, Int.add_zero]
      exact Ev.some_
    | cons y d ih =>
      intro p s hd hpl hs0 hs1
      obtain ⟨hx, hd', hlt⟩ := drop_cons c p y d hd
      obtain ⟨hy0, hy1⟩ := hc y (List.mem_of_getElem? hx)
      have hw : wrap64 ((p : Int) + 1) = ((p + 1 : Nat) : Int) := by rw [w64 _ (by omega) (by omega)]; omega
      have hyl : y.toNat < l.length := by omega
      have hb := hp l[y.toNat] (List.getElem_mem hyl)
      have hrd : rd_T63 l y = l[y.toNat] := by simp [rd_T63, List.getD, hyl]
      have hg : (l.map cv).getD y.toNat z45 = cv l[y.toNat] := by simp [List.getD, hyl]
      have hw2 : wrap64 (s + l[y.toNat].f1) = s + l[y.toNat].f1 := w64 _ (by omega) (by omega)
      have h1 := ih (p + 1) (s + l[y.toNat].f1) hd' (by omega) (by omega) (by omega)
      refine Ev.succ ?_
      simp only [worldmintref27_Value.l0, if_pos (show (p : Int) < (c.length : Int) by omega), if_pos (show (0 : Int) ≤ (p : Int) by omega), rd_at c p y hx, hw, if_pos (show y ≥ 0 by omega), if_pos (show y < (l.length : Int) by omega), if_pos (show (0 : Int) ≤ y by omega), hrd, hw2]
      have e : s + valP (l.map cv) (y :: d) = s + l[y.toNat].f1 + valP (l.map cv) d := by
        simp only [valP, List.map_cons, List.sum_cons, hg, cv]
        omega
      rw [e]
      exact h1
  have h := this c 0 0 rfl (Nat.zero_le _) (by omega) (by omega)
  simpa [worldmintref27_Value.f] using h
theorem less_ok (a b : List Int) (ha : a.length ≤ 1000) (hb : b.length ≤ 1000) : Ev (fun k => worldmintref28_Less.f k a b) (lessP a b) := by
  have : ∀ (d e : List Int) (p : Nat), a.drop p = d → b.drop p = e → p ≤ a.length → p ≤ b.length → Ev (fun k => worldmintref28_Less.l0 k a b (p : Int)) (lessP d e) := by
    intro d
    induction d with
    | nil =>
      intro e p hd he hp1 hp2
      have := drop_nil a p hp1 hd
      refine Ev.succ ?_
      simp only [worldmintref28_Less.l0, if_neg (show ¬ (p : Int) < (a.length : Int) by omega)]
      refine Ev.succ ?_
      simp only [worldmintref28_Less.j1, Bool.false_eq_true, if_false]
      cases e with
      | nil =>
        have h2 := drop_nil b p hp2 he
        simp only [decide_eq_false (show ¬ (a.length : Int) < (b.length : Int) by omega), lessP]
        exact Ev.some_
      | cons z e =>
        obtain ⟨_, _, hlt⟩ := drop_cons b p z e he
        simp only [decide_eq_true (show (a.length : Int) < (b.length : Int) by omega), lessP]
        exact Ev.some_
    | cons y d ih =>
      intro e p hd he hp1 hp2
      obtain ⟨hx, hd', hlt⟩ := drop_cons a p y d hd
      refine Ev.succ ?_
      simp only [worldmintref28_Less.l0, if_pos (show (p : Int) < (a.length : Int) by omega)]
      refine Ev.succ ?_
      cases e with
      | nil =>
        have h2 := drop_nil b p hp2 he
        simp only [decide_eq_false (show ¬ (p : Int) < (b.length : Int) by omega), worldmintref28_Less.j1, Bool.false_eq_true, if_false, decide_eq_false (show ¬ (a.length : Int) < (b.length : Int) by omega), lessP]
        exact Ev.some_
      | cons z e =>
        obtain ⟨hx2, he', hlt2⟩ := drop_cons b p z e he
        have hw : wrap64 ((p : Int) + 1) = ((p + 1 : Nat) : Int) := by rw [w64 _ (by omega) (by omega)]; omega
        simp only [decide_eq_true (show (p : Int) < (b.length : Int) by omega), worldmintref28_Less.j1, if_true, if_pos (show (0 : Int) ≤ (p : Int) by omega), if_pos (show (p : Int) < (a.length : Int) by omega), if_pos (show (p : Int) < (b.length : Int) by omega), rd_at a p y hx, rd_at b p z hx2, hw, lessP]
        by_cases c : y = z
        · subst c
          simp only [if_true]
          exact ih e (p + 1) hd' he' (by omega) (by omega)
        · simp only [if_neg c]
          exact Ev.some_
  exact this a b 0 rfl rfl (Nat.zero_le _) (Nat.zero_le _)
end Go.Proofs.Ytecbfpcidoilmaa.H

/- The reference's feasible choices. -/
namespace Go.Proofs.Ytecbfpcidoilmaa.H
open Go.RowKit Go.Proofs.YtecbfpcidoilmaaW.PrintWords Go.Proofs.YtecbfpcidoilmaaW.PrintLast
set_option linter.unusedVariables false
set_option linter.unusedSimpArgs false
/-- Places that rise. -/
def Rising (n : Nat) (c : List Int) : Prop := (∀ k ∈ c, 0 ≤ k ∧ k < n) ∧ c.Pairwise (· < ·)
theorem choice_rising : ∀ (n bits i : Nat), (choiceP n bits i).Pairwise (· < ·)
  | 0, _, _ => by simp [choiceP]
  | n + 1, bits, i => by
    unfold choiceP
    split
    · refine List.pairwise_cons.2 ⟨fun k hk => ?_, choice_rising n (bits / 2) (i + 1)⟩
      have := choice_ge n (bits / 2) (i + 1) k hk
      omega
    · exact choice_rising n (bits / 2) (i + 1)
theorem choice_rise (n bits : Nat) : Rising n (choiceP n bits 0) :=
  ⟨fun k hk => by have := choice_ge n bits 0 k hk; omega, choice_rising n bits 0⟩
theorem choice_len : ∀ (n bits i : Nat), (choiceP n bits i).length ≤ n
  | 0, _, _ => by simp [choiceP]
  | n + 1, bits, i => by
    have := choice_len n (bits / 2) (i + 1)
    unfold choiceP
    split
    · simp; omega
    · omega
set_option maxHeartbeats 1000000 in
theorem rfeas_l2 (l : List S63) (hb : ∀ b ∈ l, b.f2.length ≤ 9223372036854775807) (c : List Int) (hc : ∀ k ∈ c, 0 ≤ k ∧ k < l.length) (hl : c.length ≤ 1000) (q : Nat) (x : Int) (hq : c[q]? = some x) (r : Bool)
    (hr : Ev (fun k => worldmintref27_Feasible.l1 k l c ((q + 1 : Nat) : Int)) r) : ∀ (d : List Int) (p : Nat), (c.take q).drop p = d → p ≤ q →
    Ev (fun k => worldmintref27_Feasible.l2 k l c (q : Int) (p : Int)) (!(d.any fun w => cf (l.map cv) w x) && r) := by
  have hqc : q < c.length := (List.getElem?_eq_some_iff.1 hq).1
  intro d
  induction d with
  | nil =>
    intro p hd hp
    have hpq : p = q := by
      have := congrArg List.length hd
      simp at this
      omega
    have hw : wrap64 ((q : Int) + 1) = ((q + 1 : Nat) : Int) := by rw [w64 _ (by omega) (by omega)]; omega
    refine Ev.succ ?_
    simp only [worldmintref27_Feasible.l2, if_neg (show ¬ (p : Int) < (q : Int) by omega), hw]
    simpa using hr
  | cons y d ih =>
    intro p hd hp
    obtain ⟨hx, hd', hlt⟩ := drop_cons (c.take q) p y d hd
    have hpq : p < q := by simp at hlt; omega
    have hy : c[p]? = some y := by rw [List.getElem?_take_of_lt hpq] at hx; exact hx
    obtain ⟨hy0, hy1⟩ := hc y (List.mem_of_getElem? hy)
    obtain ⟨hx0, hx1⟩ := hc x (List.mem_of_getElem? hq)
    have hw : wrap64 ((p : Int) + 1) = ((p + 1 : Nat) : Int) := by rw [w64 _ (by omega) (by omega)]; omega
    have hmx : rd_T63 l x ∈ l := by
      have : x.toNat < l.length := by omega
      simp [rd_T63, List.getD, this]
    have hmy : rd_T63 l y ∈ l := by
      have : y.toNat < l.length := by omega
      simp [rd_T63, List.getD, this]
    refine Ev.succ ?_
    simp only [worldmintref27_Feasible.l2, if_pos (show (p : Int) < (q : Int) by omega), if_pos (show (0 : Int) ≤ (q : Int) by omega), if_pos (show (q : Int) < (c.length : Int) by omega), rd_at c q x hq, if_pos hx0, if_pos hx1,
      if_pos (show (0 : Int) ≤ (p : Int) by omega), if_pos (show (p : Int) < (c.length : Int) by omega), rd_at c p y hy, if_pos hy0, if_pos hy1, hw]
    refine Ev.bind (rconf_ok _ _ _ _ _ _ (hb _ hmx) (hb _ hmy)) ?_
    have e : conf ⟨(rd_T63 l y).f0, (rd_T63 l y).f1, (rd_T63 l y).f2⟩ ⟨(rd_T63 l x).f0, (rd_T63 l x).f1, (rd_T63 l x).f2⟩ = cf (l.map cv) y x := by
      unfold cf
      rw [← rdR_cv, ← rdR_cv]
      rfl
    rw [e]
    simp only [List.any_cons]
    cases cf (l.map cv) y x
    · have := ih (p + 1) hd' (by omega)
      simpa using this
    · simpa using Ev.some_
theorem rfeas_l1 (l : List S63) (hb : ∀ b ∈ l, b.f2.length ≤ 9223372036854775807) (c : List Int) (hc : ∀ k ∈ c, 0 ≤ k ∧ k < l.length) (hl : c.length ≤ 1000) : ∀ (d : List Int) (q : Nat), c.drop q = d → q ≤ c.length →
    Ev (fun k => worldmintref27_Feasible.l1 k l c (q : Int)) (okS (fun _ => true) (l.map cv) (c.take q) d) := by
  intro d
  induction d with
  | nil =>
    intro q hd hq
    have := drop_nil c q hq hd
    refine Ev.succ ?_
    simp only [worldmintref27_Feasible.l1, if_neg (show ¬ (q : Int) < (c.length : Int) by omega), okS]
    exact Ev.some_
  | cons x d ih =>
    intro q hd hq
    obtain ⟨hx, hd', hlt⟩ := drop_cons c q x d hd
    have h1 := ih (q + 1) hd' (by omega)
    have hg : c[q] = x := by
      have := List.getElem?_eq_getElem hlt
      rw [hx] at this
      injection this with this
      exact this.symm
    rw [List.take_succ_eq_append_getElem hlt, hg] at h1
    have h2 := rfeas_l2 l hb c hc hl q x hx _ h1 (c.take q) 0 rfl (Nat.zero_le _)
    refine Ev.succ ?_
    simp only [worldmintref27_Feasible.l1, if_pos (show (q : Int) < (c.length : Int) by omega), okS, Bool.true_and]
    exact h2
theorem rfeas_ok (l : List S63) (hb : ∀ b ∈ l, b.f2.length ≤ 9223372036854775807) (c : List Int) (hc : Rising l.length c) (hl : c.length ≤ 1000) : Ev (fun k => worldmintref27_Feasible.f k l c) (okS (fun _ => true) (l.map cv) [] c) := by
  have h1 := rfeas_l1 l hb c hc.1 hl c 0 rfl (Nat.zero_le _)
  have : ∀ (d : List Int) (p : Nat), c.drop p = d → p ≤ c.length → Ev (fun k => worldmintref27_Feasible.l0 k l c (p : Int)) (okS (fun _ => true) (l.map cv) [] c) := by
    intro d
    induction d with
    | nil =>
      intro p hd hp
      have := drop_nil c p hp hd
      refine Ev.succ ?_
      simp only [worldmintref27_Feasible.l0, if_neg (show ¬ (p : Int) < (c.length : Int) by omega)]
      exact h1
    | cons x d ih =>
      intro p hd hp
      obtain ⟨hx, hd', hlt⟩ := drop_cons c p x d hd
      obtain ⟨hx0, hx1⟩ := hc.1 x (List.mem_of_getElem? hx)
      have hw : wrap64 ((p : Int) + 1) = ((p + 1 : Nat) : Int) := by rw [w64 _ (by omega) (by omega)]; omega
      have h2 := ih (p + 1) hd' (by omega)
      refine Ev.succ ?_
      simp only [worldmintref27_Feasible.l0, if_pos (show (p : Int) < (c.length : Int) by omega), if_pos (show (0 : Int) ≤ (p : Int) by omega), rd_at c p x hx, if_neg (show ¬ x < 0 by omega), if_neg (show ¬ x ≥ (l.length : Int) by omega), hw]
      cases p with
      | zero =>
        simp only [if_neg (show ¬ ((0 : Nat) : Int) > 0 by omega)]
        exact h2
      | succ q =>
        have hw2 : wrap64 (((q + 1 : Nat) : Int) - 1) = (q : Int) := by rw [w64 _ (by omega) (by omega)]; omega
        have hqx : c[q]? = some c[q] := List.getElem?_eq_getElem (by omega)
        have hlt2 : c[q] < x := by
          have h3 := List.pairwise_iff_getElem.1 hc.2 q (q + 1) (by omega) hlt (by omega)
          have h4 := List.getElem?_eq_getElem hlt
          rw [hx] at h4
          injection h4 with h4
          rw [h4]
          exact h3
        simp only [if_pos (show ((q + 1 : Nat) : Int) > 0 by omega), hw2, if_pos (show (0 : Int) ≤ (q : Int) by omega), if_pos (show (q : Int) < (c.length : Int) by omega), rd_at c q _ hqx, if_neg (show ¬ x ≤ c[q] by omega)]
        exact h2
  exact this c 0 rfl (Nat.zero_le _)
theorem okS_split (U : S45 → Bool) (l : List S45) : ∀ (s win : List Int), okS U l win s = (okS (fun _ => true) l win s && s.all fun k => U (l.getD k.toNat z45))
  | [], _ => rfl
  | k :: s, win => by
    simp only [okS, okS_split U l s, List.all_cons, Bool.true_and]
    cases U (l.getD k.toNat z45) <;> cases (win.any fun w => cf l w k) <;> cases okS (fun _ => true) l (win ++ [k]) s <;> simp
end Go.Proofs.Ytecbfpcidoilmaa.H

/- The reference's best choice is the search's. -/
namespace Go.Proofs.Ytecbfpcidoilmaa.H
open Go.RowKit Go.Proofs.YtecbfpcidoilmaaW.PrintWords Go.Proofs.YtecbfpcidoilmaaW.PrintLast
set_option linter.unusedVariables false
set_option linter.unusedSimpArgs false
set_option maxHeartbeats 1000000 in
theorem rbest_l1 (l : List S63) (hb : ∀ b ∈ l, b.f2.length ≤ 9223372036854775807) (hl : l.length ≤ 10) (hp : ∀ b ∈ l, 1 ≤ b.f1 ∧ b.f1 ≤ 1099511627776) (x1 : Int) (T : Nat) (hT : 2 ^ l.length = T) (hpow : T ≤ 1024) :
    ∀ (d : Nat) (m : Nat) (win : List Int) (value : Int), T - m = d → m ≤ T → (∃ b0, b0 < T ∧ choiceP l.length b0 0 = win) → okS (fun b => b.f0 != x1) (l.map cv) [] win = true → valP (l.map cv) win = value →
    (∀ b, b < m → okS (fun b => b.f0 != x1) (l.map cv) [] (choiceP l.length b 0) = true → valP (l.map cv) (choiceP l.length b 0) ≤ value ∧ (valP (l.map cv) (choiceP l.length b 0) = value → lessP (choiceP l.length b 0) win = false)) →
    Ev (fun k => worldmintref28_best.l1 k l x1 win value (T : Int) (m : Int)) (searchP (fun b => b.f0 != x1) (l.map cv)) := by
  intro d
  induction d with
  | zero =>
    intro m win value hd hm hw0 hok hv hall
    obtain ⟨b0, h0, hw⟩ := hw0
    have hu := best_unique (U := fun b => b.f0 != x1) (l := l.map cv) (fun b hb' => by obtain ⟨y, hy, rfl⟩ := List.mem_map.1 hb'; exact (hp y hy).1) win value b0 (by rw [List.length_map, hT]; exact h0) (by simpa using hw) hok hv (fun b hbl => by
      rw [List.length_map, hT] at hbl
      have := hall b (by omega)
      simpa using this)
    refine Ev.succ ?_
    simp only [worldmintref28_best.l1, if_neg (show ¬ (m : Int) < (T : Int) by omega)]
    rw [← hu]
    exact Ev.some_
  | succ d ih =>
    intro m win value hd hm hw0 hok hv hall
    have hwm : wrap64 ((m : Int) + 1) = ((m + 1 : Nat) : Int) := by rw [w64 _ (by omega) (by omega)]; omega
    have hch := choice_ok l.length (by omega) l.length 0 m [] (by omega) (by omega) (by simp) (by omega)
    rw [List.nil_append] at hch
    have hrise := choice_rise l.length m
    have hclen := choice_len l.length m 0
    have hsplit := okS_split (fun b => b.f0 != x1) (l.map cv) (choiceP l.length m 0) []
    have hwin : win.length ≤ 1000 := by obtain ⟨b0, _, rfl⟩ := hw0; have := choice_len l.length b0 0; omega
    obtain ⟨c, hc⟩ : ∃ c, c = choiceP l.length m 0 := ⟨_, rfl⟩
    rw [← hc] at hch hrise hclen hsplit
    have hval := rvalue_ok l c hrise.1 (by omega) (fun b hb' => by have := hp b hb'; omega)
    have hfe := rfeas_ok l hb c hrise (by omega)
    -- THE STEP, WHATEVER IS FOUND OF THIS CHOICE
    have hnew : okS (fun b => b.f0 != x1) (l.map cv) [] c = true → (value < valP (l.map cv) c ∨ (valP (l.map cv) c = value ∧ lessP c win = true)) → Ev (fun k => worldmintref28_best.l1 k l x1 c (valP (l.map cv) c) (T : Int) ((m + 1 : Nat) : Int)) (searchP (fun b => b.f0 != x1) (l.map cv)) := fun hokc hbet => by
      refine ih (m + 1) c _ (by omega) (by omega) ⟨m, by omega, hc.symm⟩ hokc rfl (fun b hbm hbo => ?_)
      rcases Nat.lt_or_ge b m with hlt | hge
      · obtain ⟨h1, h2⟩ := hall b hlt hbo
        refine ⟨by omega, fun e => ?_⟩
        rcases hbet with hg | ⟨he, hle⟩
        · omega
        · have h3 := h2 (by omega)
          cases hc2 : lessP (choiceP l.length b 0) c with
          | false => rfl
          | true => rw [less_trans _ _ _ hc2 hle] at h3; cases h3
      · obtain rfl : b = m := by omega
        rw [← hc]
        exact ⟨Int.le_refl _, fun _ => less_irrefl c⟩
    have hold : (okS (fun b => b.f0 != x1) (l.map cv) [] c = true → valP (l.map cv) c ≤ value ∧ (valP (l.map cv) c = value → lessP c win = false)) → Ev (fun k => worldmintref28_best.l1 k l x1 win value (T : Int) ((m + 1 : Nat) : Int)) (searchP (fun b => b.f0 != x1) (l.map cv)) := fun hno => by
      refine ih (m + 1) win value (by omega) (by omega) hw0 hok hv (fun b hbm hbo => ?_)
      rcases Nat.lt_or_ge b m with hlt | hge
      · exact hall b hlt hbo
      · obtain rfl : b = m := by omega
        rw [← hc] at hbo ⊢
        exact hno hbo
    have hl2 : ∀ (e : List Int) (p : Nat) (v : Bool), c.drop p = e → p ≤ c.length → (v && e.all fun k => ((l.map cv).getD k.toNat z45).f0 != x1) = okS (fun b => b.f0 != x1) (l.map cv) [] c →
        Ev (fun k => worldmintref28_best.l2 k l x1 win value (T : Int) (m : Int) c v (p : Int)) (searchP (fun b => b.f0 != x1) (l.map cv)) := by
      intro e
      induction e with
      | nil =>
        intro p v hde hpc hvv
        have hpl := drop_nil c p hpc hde
        simp only [List.all_nil, Bool.and_true] at hvv
        refine Ev.succ ?_
        simp only [worldmintref28_best.l2, if_neg (show ¬ (p : Int) < (c.length : Int) by omega), hwm]
        refine Ev.bind hval ?_
        cases hvb : v
        · simp only [Bool.false_eq_true, if_false]
          exact hold (fun h => by rw [← hvv, hvb] at h; cases h)
        · have hokc : okS (fun b => b.f0 != x1) (l.map cv) [] c = true := by rw [← hvv, hvb]
          simp only [if_true]
          by_cases c1 : valP (l.map cv) c > value
          · simp only [if_pos c1]
            exact hnew hokc (.inl c1)
          · simp only [if_neg c1]
            by_cases c2 : valP (l.map cv) c = value
            · simp only [if_pos c2]
              refine Ev.bind (less_ok c win (by omega) hwin) ?_
              cases hle : lessP c win
              · simp only [Bool.false_eq_true, if_false]
                exact hold (fun _ => ⟨by omega, fun _ => hle⟩)
              · simp only [if_true]
                exact hnew hokc (.inr ⟨c2, hle⟩)
            · simp only [if_neg c2]
              exact hold (fun _ => ⟨by omega, fun h => absurd h c2⟩)
      | cons y e ih2 =>
        intro p v hde hpc hvv
        obtain ⟨hx, hd', hlt⟩ := drop_cons c p y e hde
        obtain ⟨hy0, hy1⟩ := hrise.1 y (List.mem_of_getElem? hx)
        have hwp : wrap64 ((p : Int) + 1) = ((p + 1 : Nat) : Int) := by rw [w64 _ (by omega) (by omega)]; omega
        have he : ∀ k, worldmintref28_best.l2 (k + 1) l x1 win value (T : Int) (m : Int) c v (p : Int) = worldmintref28_best.l2 k l x1 win value (T : Int) (m : Int) c (v && ((l.map cv).getD y.toNat z45).f0 != x1) ((p + 1 : Nat) : Int) := by
          intro k
          rw [worldmintref28_best.l2, if_pos (Int.ofNat_lt.2 hlt), hwp, rd_at c p y hx, if_pos (Int.natCast_nonneg p), if_pos hy0, if_pos hy1, ← rdR_cv]
          cases v
          · rfl
          · rfl
        have hrec := ih2 (p + 1) (v && ((l.map cv).getD y.toNat z45).f0 != x1) hd' hlt (by rw [← hvv, List.all_cons, Bool.and_assoc])
        refine Ev.succ ?_
        simp only [he]
        exact hrec
    refine Ev.succ ?_
    simp only [worldmintref28_best.l1, if_pos (show (m : Int) < (T : Int) by omega)]
    refine Ev.bind (a := c) ?_ ?_
    · rw [hc] at hch ⊢
      exact hch
    · refine Ev.bind hfe ?_
      refine hl2 c 0 _ rfl (Nat.zero_le _) ?_
      rw [hsplit]
theorem rbest_ok (l : List S63) (hb : ∀ b ∈ l, b.f2.length ≤ 9223372036854775807) (hl : l.length ≤ 10) (hp : ∀ b ∈ l, 1 ≤ b.f1 ∧ b.f1 ≤ 1099511627776) (x1 : Int) :
    Ev (fun k => worldmintref28_best.f k l x1) (searchP (fun b => b.f0 != x1) (l.map cv)) := by
  have hpow1 : 2 ^ l.length ≤ 1024 := Nat.le_trans (Nat.pow_le_pow_right (by omega) hl) (by simp)
  have h1 := rbest_l1 l hb hl hp x1 (2 ^ l.length) rfl hpow1 _ 0 [] 0 rfl (Nat.zero_le _) ⟨0, Nat.two_pow_pos _, by
    have : ∀ n i, choiceP n 0 i = [] := by
      intro n
      induction n with
      | zero => intro i; rfl
      | succ n ih => intro i; simp [choiceP, ih]
    exact this _ _⟩ rfl rfl (fun b hb => by omega)
  have : ∀ (d p : Nat), l.length - p = d → p ≤ l.length → Ev (fun k => worldmintref28_best.l0 k l x1 0 ((2 ^ p : Nat) : Int) (p : Int)) (searchP (fun b => b.f0 != x1) (l.map cv)) := by
    intro d
    induction d with
    | zero =>
      intro p hd hpl
      obtain rfl : p = l.length := by omega
      refine Ev.succ ?_
      simp only [worldmintref28_best.l0, if_neg (show ¬ (l.length : Int) < (l.length : Int) by omega)]
      exact h1
    | succ d ih =>
      intro p hd hpl
      have hpow : 2 ^ p ≤ 1024 := Nat.le_trans (Nat.pow_le_pow_right (by omega) (show p ≤ 10 by omega)) (by simp)
      have hw : wrap64 ((p : Int) + 1) = ((p + 1 : Nat) : Int) := by rw [w64 _ (by omega) (by omega)]; omega
      have hw2 : wrap64 (((2 ^ p : Nat) : Int) * 2) = ((2 ^ (p + 1) : Nat) : Int) := by
        rw [Nat.pow_succ]
        generalize 2 ^ p = P at *
        rw [w64 _ (by omega) (by omega)]; omega
      refine Ev.succ ?_
      simp only [worldmintref28_best.l0, if_pos (show (p : Int) < (l.length : Int) by omega), hw, hw2]
      exact ih (p + 1) (by omega) (by omega)
  exact this _ 0 rfl (Nat.zero_le _)
/-- Where every bidder has a number, leaving out nobody's bids leaves out none. -/
theorem search_all (l : List S45) (x1 : Int) (h : ∀ b ∈ l, b.f0 ≠ x1) : searchP (fun b => b.f0 != x1) l = searchP (fun _ => true) l := by
  have hr : ∀ left : List S45, (∀ b ∈ left, b.f0 ≠ x1) → restOf (fun b => b.f0 != x1) left = restOf (fun _ => true) left := by
    intro left
    induction left with
    | nil => intro _; rfl
    | cons b left ih =>
      intro hh
      have := hh b (by simp)
      simp only [restOf, ih (fun x hx => hh x (by simp [hx]))]
      simp [this]
  have : ∀ (left : List S45) (i : Nat) (value : Int) (win : List Int) (st : Int × List Int × Int), (∀ b ∈ left, b.f0 ≠ x1) → tryP (fun b => b.f0 != x1) l left i value win st = tryP (fun _ => true) l left i value win st := by
    intro left
    induction left with
    | nil => intro i value win st _; rfl
    | cons b left ih =>
      intro i value win st hh
      obtain ⟨best, out, val⟩ := st
      have hb : (b.f0 != x1) = true := by simpa using hh b (by simp)
      have hl : ∀ x ∈ left, x.f0 ≠ x1 := fun x hx => hh x (by simp [hx])
      simp only [tryP, hr (b :: left) hh, hb, ih _ _ _ _ hl]
  unfold searchP
  rw [this l 0 0 [] (-1, [], 0) h]
end Go.Proofs.Ytecbfpcidoilmaa.H

/- ClearPrices: the program's prices are the reference's. -/
namespace Go.Proofs.Ytecbfpcidoilmaa.H
open Go.RowKit Go.Proofs.YtecbfpcidoilmaaW.PrintWords Go.Proofs.YtecbfpcidoilmaaW.PrintLast
set_option linter.unusedVariables false
set_option linter.unusedSimpArgs false
theorem spoilt_ok (L : List S63) (at_ how by_ : Int) (h1 : (Lit.int .i64 at_).wf = true) (h2 : (Lit.int .i64 how).wf = true) (hL : L.length ≤ 1000) (hb : ∀ b ∈ L, b.f2.length ≤ 8) :
    ∃ L2, worldmintref27_Spoilt.f L at_ how by_ = some L2 ∧ L2.length = L.length ∧ ∀ b ∈ L2, b.f2.length ≤ 9 := by
  unfold worldmintref27_Spoilt.f
  simp only [List.nil_append, List.length_nil, Nat.zero_add, if_pos (show L.length < 3518437208883 by omega), Option.bind_some]
  by_cases h0 : (L.length : Int) = 0
  · rw [if_pos h0]
    exact ⟨L, rfl, rfl, fun b hb' => by have := hb b hb'; omega⟩
  · rw [if_neg h0]
    obtain ⟨t, ht, ht0, ht1⟩ := around_ok at_ L.length h1 (by omega)
    obtain ⟨u, hu, hu0, hu1⟩ := around_ok how 5 h2 (by omega)
    simp only [ht, hu, Option.bind_some, if_pos ht0, if_pos ht1]
    have hm : rd_T63 L t ∈ L := by
      have : t.toNat < L.length := by omega
      simp [rd_T63, List.getD, this]
    have hlen := hb _ hm
    have hset : ∀ x : S63, x.f2.length ≤ 9 → ∃ L2, some (L.set t.toNat x) = some L2 ∧ L2.length = L.length ∧ ∀ b ∈ L2, b.f2.length ≤ 9 := fun x hx =>
      ⟨_, rfl, by simp, fun b hb' => by
        rcases List.mem_or_eq_of_mem_set hb' with h | h
        · have := hb b h; omega
        · subst h; exact hx⟩
    split
    · exact hset _ (by show (rd_T63 L t).f2.length ≤ 9; omega)
    · split
      · exact hset _ (by show (rd_T63 L t).f2.length ≤ 9; omega)
      · split
        · rw [if_pos (by first | omega | (simp; omega)), if_pos (by first | omega | (simp; omega))]
          exact hset _ (by simp; omega)
        · split
          · exact hset _ (by simp)
          · rw [if_pos (by simp; omega)]
            exact hset _ (by simp; omega)
theorem same_ok (a b : List Int) (ha : a.length ≤ 9223372036854775807) : Ev (fun k => worldmintref01_SameInts.f k a b) (decide (a = b)) := by
  unfold worldmintref01_SameInts.f
  by_cases hl : (a.length : Int) = (b.length : Int)
  · simp only [if_pos hl]
    have : ∀ (d e : List Int) (p : Nat), a.drop p = d → b.drop p = e → p ≤ a.length → Ev (fun k => worldmintref01_SameInts.l0 k a b (p : Int)) (decide (d = e)) := by
      intro d
      induction d with
      | nil =>
        intro e p hd he hp
        have h1 := drop_nil a p hp hd
        have h2 : e = [] := by
          rw [← he]
          exact List.drop_eq_nil_of_le (by omega)
        subst h2
        refine Ev.succ ?_
        simp only [worldmintref01_SameInts.l0, if_neg (show ¬ (p : Int) < (a.length : Int) by omega)]
        simpa using Ev.some_
      | cons x d ih =>
        intro e p hd he hp
        obtain ⟨hx, hd', hlt⟩ := drop_cons a p x d hd
        have hw : wrap64 ((p : Int) + 1) = ((p + 1 : Nat) : Int) := by rw [w64 _ (by omega) (by omega)]; omega
        cases e with
        | nil =>
          have := drop_nil b p (by omega) he
          omega
        | cons y e =>
          obtain ⟨hy, he', _⟩ := drop_cons b p y e he
          refine Ev.succ ?_
          simp only [worldmintref01_SameInts.l0, if_pos (show (p : Int) < (a.length : Int) by omega), if_pos (show (0 : Int) ≤ (p : Int) by omega), if_pos (show (p : Int) < (b.length : Int) by omega), rd_at a p x hx, rd_at b p y hy, hw]
          by_cases c : x = y
          · subst c
            simp only [if_true]
            have := ih e (p + 1) hd' he' (by omega)
            simpa using this
          · simp only [if_neg c]
            have e2 : decide (x :: d = y :: e) = false := by simp [c]
            rw [e2]
            exact Ev.some_
    exact this a b 0 rfl rfl (Nat.zero_le _)
  · simp only [if_neg hl]
    have e : decide (a = b) = false := decide_eq_false (fun e => hl (by rw [e]))
    rw [e]
    exact Ev.some_
theorem search_range (U : S45 → Bool) (l : List S45) (hp : ∀ b ∈ l, 1 ≤ b.f1) : (∀ k ∈ (searchP U l).1, 0 ≤ k ∧ k < l.length) ∧ (searchP U l).1.length ≤ l.length := by
  rw [search_ext hp]
  obtain ⟨_, _, b, _, h⟩ := ext_valid (U := U) (l := l) l 0 [] rfl
  rw [← h]
  exact ⟨fun k hk => by have := choice_ge l.length b 0 k hk; omega, choice_len _ _ _⟩
theorem bidsErr_f0 (n : Int) : ∀ l, bidsErr n l = 0 → ∀ b ∈ l, 1 ≤ b.f0
  | [], _, b, hb => by simp at hb
  | a :: l, h, b, hb => by
    unfold bidsErr at h
    split at h
    · simp at h
    · rename_i c1
      split at h
      · simp at h
      · split at h
        · simp at h
        · split at h
          · simp at h
          · rcases List.mem_cons.1 hb with rfl | hb
            · simp only [Bool.or_eq_true, decide_eq_true_eq, not_or] at c1
              omega
            · exact bidsErr_f0 n l h b hb
theorem validP_f0 (n : Int) (l : List S45) (h : validP n l = 0) : ∀ b ∈ l, 1 ≤ b.f0 := by
  unfold validP at h
  split at h
  · simp at h
  · split at h
    · simp at h
    · exact bidsErr_f0 n l h
theorem rok (n : Int) (l : List S63) (hz : validP n (l.map cv) = 0) : l.length ≤ 10 ∧ (∀ b ∈ l, 1 ≤ b.f1 ∧ b.f1 ≤ 1099511627776) ∧ searchP (fun b => b.f0 != 0) (l.map cv) = searchP (fun _ => true) (l.map cv) := by
  have h := validP_ok n _ hz
  simp only [okBids, Bool.and_eq_true, List.all_eq_true, decide_eq_true_eq, List.length_map] at h
  refine ⟨h.1, fun b hb => h.2 (cv b) (List.mem_map_of_mem hb), search_all _ 0 (fun b hb => by have := validP_f0 n _ hz b hb; omega)⟩
end Go.Proofs.Ytecbfpcidoilmaa.H

/- ClearBest: the plain statement. -/
namespace Go.Proofs.Ytecbfpcidoilmaa.H
open Go.RowKit Go.Proofs.YtecbfpcidoilmaaW.PrintWords Go.Proofs.YtecbfpcidoilmaaW.PrintLast
set_option linter.unusedVariables false
set_option linter.unusedSimpArgs false
set_option maxRecDepth 100000 in
theorem lives_ok2 : Ev (fun k => worldmintlaw28_lives.f k) true := Ev.of_mono (fun k => worldmintlaw28_lives.mono k) ⟨20, by kernel_rfl⟩
def withoutP (n : Int) (l : List S45) (c : Int) : Int × Int := if validP n l = 0 then ((searchP (fun b => b.f0 != c) l).2, 0) else (0, validP n l)
theorem without_ok (n : Int) (l : List S45) (c : Int) (hb : ∀ b ∈ l, b.f2.length ≤ 9223372036854775807) : Ev (fun k => clear_Without.f k n l c) (withoutP n l c) := by
  unfold clear_Without.f withoutP
  refine Ev.bind (Ev.of_mono (fun k => bids_Valid.mono n l k) (bids_Valid_f n l hb)) ?_
  by_cases hz : validP n l = 0
  · simp only [if_pos hz, clear_others.f, validP_ok n l hz, if_true, Option.bind_some]
    exact Ev.some_
  · simp only [if_neg hz]
    exact Ev.some_
theorem rwithout_ok (n : Int) (l : List S63) (c : Int) (hb : ∀ b ∈ l, b.f2.length ≤ 9223372036854775807) : Ev (fun k => worldmintref28_Without.f k n l c) (withoutP n (l.map cv) c) := by
  unfold worldmintref28_Without.f withoutP
  refine Ev.bind (rvalid_ok n l hb) ?_
  by_cases hz : validP n (l.map cv) = 0
  · obtain ⟨hl, hp, hs⟩ := rok n l hz
    simp only [if_pos hz]
    refine Ev.bind (rbest_ok l hb hl hp c) ?_
    exact Ev.some_
  · simp only [if_neg hz]
    exact Ev.some_
def bestP (n : Int) (l : List S45) : List Int × Int × Int := if validP n l = 0 then ((searchP (fun _ => true) l).1, (searchP (fun _ => true) l).2, 0) else ([], 0, validP n l)
theorem best_f (n : Int) (l : List S45) : clear_Best.f n l = some (bestP n l) := by
  unfold clear_Best.f bestP
  split <;> rfl
theorem rBest_ok (n : Int) (l : List S63) (hb : ∀ b ∈ l, b.f2.length ≤ 9223372036854775807) : Ev (fun k => worldmintref28_Best.f k n l) (bestP n (l.map cv)) := by
  unfold worldmintref28_Best.f bestP
  refine Ev.bind (rvalid_ok n l hb) ?_
  by_cases hz : validP n (l.map cv) = 0
  · obtain ⟨hl, hp, hs⟩ := rok n l hz
    have hbest := rbest_ok l hb hl hp 0
    rw [hs] at hbest
    simp only [if_pos hz]
    refine Ev.bind hbest ?_
    exact Ev.some_
  · simp only [if_neg hz]
    exact Ev.some_
theorem best_len (n : Int) (l : List S45) : (bestP n l).1.length ≤ 1000 := by
  unfold bestP
  split
  · rename_i hz
    have hok := validP_ok n l hz
    simp only [okBids, Bool.and_eq_true, List.all_eq_true, decide_eq_true_eq] at hok
    have := (search_range (fun _ => true) l (fun b hb => (hok.2 b hb).1)).2
    simp only
    omega
  · simp
theorem ClearBest_pure : worldmintlaw28_ClearBest.Pure := by
  intro a0 l1 a2 a3 a4 a5 w0 _ _ w1 w2 w3 w4 w5
  obtain ⟨t, ht, ht0, ht1⟩ := lots_ok a0 w0
  obtain ⟨L, hL, hLl, hLg⟩ := bids_ok t l1 w1 8 ht0 ht1 (by omega) (by omega)
  obtain ⟨L2, hS, hSl, hSg⟩ := spoilt_ok L a3 a4 a5 w3 w4 (by omega) (fun b hb => (hLg b hb).2.2.2.2.2.2)
  obtain ⟨L3, hL3, hL3l, hL3g⟩ := bids_ok t l1 w1 11 ht0 ht1 (by omega) (by omega)
  obtain ⟨u, hu, hu0, hu1⟩ := around_ok a2 7 w2 (by omega)
  have hstep : ∀ (X : List S63), X.length ≤ 1000 → (∀ b ∈ X, b.f2.length ≤ 9) → ∀ next : Nat → Option Bool, Ev next true →
      Ev (fun k => (worldmintlaw28_given.f k X).bind fun t326 => ((clear_Best.f t t326).bind fun bt329 => ((worldmintref28_Best.f k t X).bind fun bt335 => ((worldmintref01_Around.f a2 7).bind fun t340 => ((worldmintlaw28_given.f k X).bind fun t342 => ((clear_Without.f k t t342 (wrap64 (1 + t340))).bind fun bt345 => ((worldmintref28_Without.f k t X (wrap64 (1 + t340))).bind fun bt348 => (if bt329.2.2 = bt335.2.2 then (if bt329.2.1 = bt335.2.1 then (if bt345.2 = bt348.2 then (if bt345.1 = bt348.1 then ((worldmintref01_SameInts.f k bt329.1 bt335.1).bind fun t350 => (if t350 = true then next k else (some false))) else (some false)) else (some false)) else (some false)) else (some false))))))))) true := by
    intro X hX hXb next hnext
    have hXb' : ∀ b ∈ X, b.f2.length ≤ 9223372036854775807 := fun b hb => by have := hXb b hb; omega
    have hsame := same_ok (bestP t (X.map cv)).1 (bestP t (X.map cv)).1 (by have := best_len t (X.map cv); omega)
    refine Ev.bind (given_ok X (by omega)) ?_
    simp only [best_f, Option.bind_some]
    refine Ev.bind (rBest_ok t X hXb') ?_
    simp only [hu, Option.bind_some]
    refine Ev.bind (given_ok X (by omega)) ?_
    refine Ev.bind (without_ok t (X.map cv) _ (fun b hb => by obtain ⟨y, hy, rfl⟩ := List.mem_map.1 hb; exact hXb' y hy)) ?_
    refine Ev.bind (rwithout_ok t X _ hXb') ?_
    simp only [if_true]
    refine Ev.bind hsame ?_
    simpa using hnext
  refine Ev.ex ?_
  unfold worldmintlaw28_ClearBest.f
  simp only [ht, Option.bind_some]
  refine Ev.bind hL ?_
  simp only [hS, Option.bind_some]
  refine Ev.bind hL3 ?_
  have hlen3 : ([L, L2, L3] : List (List S63)).length = 3 := rfl
  have h3 : Ev (fun k => worldmintlaw28_ClearBest.l0 k a2 t [L, L2, L3] 3) true := by
    refine Ev.succ ?_
    simp only [worldmintlaw28_ClearBest.l0, hlen3, if_neg (show ¬ (3 : Int) < ((3 : Nat) : Int) by omega)]
    exact Ev.bind lives_ok2 Ev.some_
  have h2 : Ev (fun k => worldmintlaw28_ClearBest.l0 k a2 t [L, L2, L3] 2) true := by
    have hj : ∀ v : Bool, Ev (fun k => worldmintlaw28_ClearBest.j1 k a2 t [L, L2, L3] 2 v) true := fun v => by
      refine Ev.succ ?_
      cases v
      · simp only [worldmintlaw28_ClearBest.j1, hlen3, Bool.false_eq_true, if_false, if_pos (show (0 : Int) ≤ 2 by omega), if_pos (show (2 : Int) < ((3 : Nat) : Int) by omega), show wrap64 (2 + 1) = 3 from w64 (2 + 1) (by omega) (by omega)]
        exact hstep L3 (by omega) (fun b hb => by have := (hL3g b hb).2.2.2.2.2.2; omega) _ h3
      · simp only [worldmintlaw28_ClearBest.j1, if_true, show wrap64 (2 + 1) = 3 from w64 (2 + 1) (by omega) (by omega)]
        exact h3
    refine Ev.succ ?_
    simp only [worldmintlaw28_ClearBest.l0, hlen3, if_pos (show (2 : Int) < ((3 : Nat) : Int) by omega), if_true, if_pos (show (0 : Int) ≤ 2 by omega)]
    exact hj _
  have h1 : Ev (fun k => worldmintlaw28_ClearBest.l0 k a2 t [L, L2, L3] 1) true := by
    refine Ev.succ ?_
    simp only [worldmintlaw28_ClearBest.l0, hlen3, if_pos (show (1 : Int) < ((3 : Nat) : Int) by omega), if_neg (show ¬ (1 : Int) = 2 by omega)]
    refine Ev.succ ?_
    simp only [worldmintlaw28_ClearBest.j1, hlen3, Bool.false_eq_true, if_false, if_pos (show (0 : Int) ≤ 1 by omega), if_pos (show (1 : Int) < ((3 : Nat) : Int) by omega), show wrap64 (1 + 1) = 2 from w64 (1 + 1) (by omega) (by omega)]
    exact hstep L2 (by omega) hSg _ h2
  refine Ev.succ ?_
  simp only [worldmintlaw28_ClearBest.l0, hlen3, if_pos (show (0 : Int) < ((3 : Nat) : Int) by omega), if_neg (show ¬ (0 : Int) = 2 by omega)]
  refine Ev.succ ?_
  simp only [worldmintlaw28_ClearBest.j1, hlen3, Bool.false_eq_true, if_false, if_pos (show (0 : Int) ≤ 0 by omega), if_pos (show (0 : Int) < ((3 : Nat) : Int) by omega), show wrap64 (0 + 1) = 1 from w64 (0 + 1) (by omega) (by omega)]
  exact hstep L (by omega) (fun b hb => by have := (hLg b hb).2.2.2.2.2.2; omega) _ h1
end Go.Proofs.Ytecbfpcidoilmaa.H
namespace Go.Proofs.Ytecbfpcidoilmaa.Pure
theorem ClearBest : H.worldmintlaw28_ClearBest.Pure := H.ClearBest_pure
end Go.Proofs.Ytecbfpcidoilmaa.Pure
