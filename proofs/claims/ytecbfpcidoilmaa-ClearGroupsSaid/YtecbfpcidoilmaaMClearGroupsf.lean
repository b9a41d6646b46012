/- Texts of this claim, one behind the other. -/
import Derived.Test.YtecbfpcidoilmaaMClearGroupsc
import Derived.Test.YtecbfpcidoilmaaMClearGroupsb
import Derived.Test.YtecbfpcidoilmaaMClearGroupsd
import Derived.Test.YtecbfpcidoilmaaMClearGroupse

/- What a printed function computes with rounds enough: its laws; the generators of the reference. -/
namespace Go.Proofs.Ytecbfpcidoilmaa.H
open Go.RowKit Go.Proofs.YtecbfpcidoilmaaW.PrintWords Go.Proofs.YtecbfpcidoilmaaW.PrintLast
set_option linter.unusedVariables false
set_option linter.unusedSimpArgs false
/-- With rounds enough, f tells a. -/
def Ev {α : Type} (f : Nat → Option α) (a : α) : Prop := ∃ K, ∀ k, K ≤ k → f k = some a
section
variable {α β : Type} {f : Nat → Option α} {a : α}
theorem Ev.succ (h : Ev (fun k => f (k + 1)) a) : Ev f a := by
  obtain ⟨K, h⟩ := h
  refine ⟨K + 1, fun k hk => ?_⟩
  obtain ⟨j, rfl⟩ : ∃ j, k = j + 1 := ⟨k - 1, by omega⟩
  exact h j (by omega)
theorem Ev.bind {g : Nat → α → Option β} {b : β} (hf : Ev f a) (hg : Ev (fun k => g k a) b) : Ev (fun k => (f k).bind (g k)) b := by
  obtain ⟨K, h⟩ := hf
  obtain ⟨K2, h2⟩ := hg
  exact ⟨max K K2, fun k hk => by
    show (f k).bind (g k) = some b
    rw [h k (by omega)]
    exact h2 k (by omega)⟩
theorem Ev.some_ : Ev (fun _ => some a) a := ⟨0, fun _ _ => rfl⟩
theorem Ev.ex (h : Ev f a) : ∃ k, f k = some a := by
  obtain ⟨K, h⟩ := h
  exact ⟨K, h K (Nat.le_refl _)⟩
theorem Ev.of_mono (hm : ∀ k, LeO (f k) (f (k + 1))) (h : ∃ k, f k = some a) : Ev f a := by
  obtain ⟨K, h⟩ := h
  refine ⟨K, fun k hk => ?_⟩
  obtain ⟨d, rfl⟩ := Nat.exists_eq_add_of_le hk
  clear hk
  induction d with
  | zero => exact h
  | succ d ih => exact hm (K + d) _ ih
end
theorem wf_bounds (n : Int) (h : (Lit.int .i64 n).wf = true) : -9223372036854775808 ≤ n ∧ n ≤ 9223372036854775807 := by
  simpa [Lit.wf, IntKind.min, IntKind.max, IntKind.signed, IntKind.bits] using h
theorem w64 (x : Int) (h0 : -9223372036854775808 ≤ x) (h1 : x ≤ 9223372036854775807) : wrap64 x = x := by
  unfold wrap64
  omega
theorem around_ok (n most : Int) (hn : (Lit.int .i64 n).wf = true) (hm : 0 < most) : ∃ r, worldmintref01_Around.f n most = some r ∧ 0 ≤ r ∧ r < most := by
  have hb := wf_bounds n hn
  unfold worldmintref01_Around.f
  by_cases h : n < 0
  · rw [if_pos h, if_neg (by omega), w64 (n + 1) (by omega) (by omega), w64 (-(n + 1)) (by omega) (by omega)]
    exact ⟨_, rfl, Int.tmod_nonneg _ (by omega), Int.tmod_lt_of_pos _ hm⟩
  · rw [if_neg h, if_neg (by omega)]
    exact ⟨_, rfl, Int.tmod_nonneg _ (by omega), Int.tmod_lt_of_pos _ hm⟩
theorem lots_ok (n : Int) (hn : (Lit.int .i64 n).wf = true) : ∃ r, worldmintref27_Lots.f n = some r ∧ 1 ≤ r ∧ r ≤ 8 := by
  obtain ⟨r, h, h0, h1⟩ := around_ok n 8 hn (by omega)
  unfold worldmintref27_Lots.f
  rw [h, Option.bind_some, w64 _ (by omega) (by omega)]
  exact ⟨_, rfl, by omega, by omega⟩
theorem pick_ok (l : List Int) (i most : Int) (hl : ∀ x ∈ l, (Lit.int .i64 x).wf = true) (hm : 0 < most) : ∃ r, worldmintref01_Pick.f l i most = some r ∧ 0 ≤ r ∧ r < most := by
  unfold worldmintref01_Pick.f
  by_cases h : i < 0
  · rw [if_pos h]; exact ⟨0, rfl, by omega, hm⟩
  · rw [if_neg h]
    by_cases h2 : i ≥ (l.length : Int)
    · rw [if_pos h2]; exact ⟨0, rfl, by omega, hm⟩
    · rw [if_neg h2, if_pos (by omega), if_pos (by omega)]
      have hm2 : rd l i ∈ l := by
        have : i.toNat < l.length := by omega
        simp [rd, List.getD, this]
      obtain ⟨r, h3, h4, h5⟩ := around_ok (rd l i) most (hl _ hm2) hm
      exact ⟨r, by rw [h3]; rfl, h4, h5⟩
/-- A bid as the reference draws it. -/
def GoodBid (n : Int) (b : S63) : Prop := 1 ≤ b.f0 ∧ b.f0 ≤ 6 ∧ 1 ≤ b.f1 ∧ b.f1 ≤ 450 ∧ b.f2.length ≠ 0 ∧ lotsOk n (-1) b.f2 = true ∧ b.f2.length ≤ 8
theorem lotsOk_snoc (n j : Int) (hj : j < n) : ∀ (ks : List Int) (last : Int), lotsOk n last ks = true → (∀ k ∈ ks, k < j) → last < j → lotsOk n last (ks ++ [j]) = true
  | [], last, _, _, h => by
    simp only [List.nil_append, lotsOk]
    simp [hj, h]
  | k :: ks, last, h, hk, _ => by
    simp only [List.cons_append, lotsOk] at h ⊢
    split at h
    · simp at h
    · rename_i hc
      rw [if_neg hc]
      exact lotsOk_snoc n j hj ks k h (fun x hx => hk x (by simp [hx])) (hk k (by simp))
set_option maxHeartbeats 1000000 in
theorem bids_l1 (n : Int) (l : List Int) (most : Int) (x7 : List S63) (x8 f0 f1 : Int) (hn1 : 1 ≤ n) (hn8 : n ≤ 8) (hx7 : x7.length < 3518437208883) (L : List S63)
    (hnext : ∀ ks : List Int, ks.length ≠ 0 → lotsOk n (-1) ks = true → ks.length ≤ 8 → ∃ L, Ev (fun k => worldmintref27_Bids.l0 k n l most (x7 ++ [⟨f0, f1, ks⟩]) (wrap64 (x8 + 1))) L ∧ (L.length : Int) ≤ most ∧ ∀ b ∈ L, GoodBid n b) :
    ∀ (d : Nat) (j : Int) (bs : Int) (ks : List Int), (n - j).toNat = d → 0 ≤ j → j ≤ n → lotsOk n (-1) ks = true → (∀ k ∈ ks, k < j) → (ks.length : Int) ≤ j → (j = n → ks.length ≠ 0) →
    ∃ L, Ev (fun k => worldmintref27_Bids.l1 k n l most x7 x8 bs j f0 f1 ks) L ∧ (L.length : Int) ≤ most ∧ ∀ b ∈ L, GoodBid n b
  | 0, j, bs, ks, hd, h0, hjn, hk, hkj, hkl, hne => by
    obtain ⟨L, h1, h2⟩ := hnext ks (hne (by omega)) hk (by omega)
    refine ⟨L, Ev.succ ?_, h2⟩
    simp only [worldmintref27_Bids.l1]
    simp only [if_neg (show ¬ j < n by omega), if_pos hx7]
    exact h1
  | d + 1, j, bs, ks, hd, h0, hjn, hk, hkj, hkl, hne => by
    have hw : wrap64 (j + 1) = j + 1 := w64 _ (by omega) (by omega)
    have hw2 : wrap64 (n - 1) = n - 1 := w64 _ (by omega) (by omega)
    have happ := fun bs' => bids_l1 n l most x7 x8 f0 f1 hn1 hn8 hx7 L hnext d (j + 1) bs' (ks ++ [j]) (by omega) (by omega) (by omega) (lotsOk_snoc n j (by omega) ks (-1) hk hkj (by omega)) (fun k hk' => by
      rcases List.mem_append.1 hk' with h | h
      · have := hkj k h; omega
      · simp at h; omega) (by simp; omega) (fun _ => by simp)
    have hnot := fun bs' (hh : j + 1 = n → ks.length ≠ 0) => bids_l1 n l most x7 x8 f0 f1 hn1 hn8 hx7 L hnext d (j + 1) bs' ks (by omega) (by omega) (by omega) hk (fun k hk' => by have := hkj k hk'; omega) (by omega) hh
    by_cases c1 : Int.tmod bs 2 = 1
    · obtain ⟨L, h1, h2⟩ := happ (wrap64 (Int.tdiv bs 2))
      refine ⟨L, Ev.succ ?_, h2⟩
      simp only [worldmintref27_Bids.l1]
      simp only [if_pos (show j < n by omega), if_pos c1, if_pos (show ks.length < 17592186044416 by omega), hw]
      exact h1
    · by_cases c2 : j = n - 1
      · by_cases c3 : (ks.length : Int) = 0
        · obtain ⟨L, h1, h2⟩ := happ (wrap64 (Int.tdiv bs 2))
          refine ⟨L, Ev.succ ?_, h2⟩
          simp only [worldmintref27_Bids.l1]
          simp only [if_pos (show j < n by omega), if_neg c1, hw2, if_pos c2, if_pos c3, if_pos (show ks.length < 17592186044416 by omega), hw]
          exact h1
        · obtain ⟨L, h1, h2⟩ := hnot (wrap64 (Int.tdiv bs 2)) (fun _ => by omega)
          refine ⟨L, Ev.succ ?_, h2⟩
          simp only [worldmintref27_Bids.l1]
          simp only [if_pos (show j < n by omega), if_neg c1, hw2, if_pos c2, if_neg c3, hw]
          exact h1
      · obtain ⟨L, h1, h2⟩ := hnot (wrap64 (Int.tdiv bs 2)) (fun _ => by omega)
        refine ⟨L, Ev.succ ?_, h2⟩
        simp only [worldmintref27_Bids.l1]
        simp only [if_pos (show j < n by omega), if_neg c1, hw2, if_neg c2, hw]
        exact h1
set_option maxHeartbeats 1000000 in
theorem bids_l0 (n : Int) (l : List Int) (hl : ∀ x ∈ l, (Lit.int .i64 x).wf = true) (most : Int) (hn1 : 1 ≤ n) (hn8 : n ≤ 8) (hm0 : 0 ≤ most) (hm1 : most ≤ 1000) :
    ∀ (d : Nat) (x7 : List S63), (most - x7.length).toNat = d → (x7.length : Int) ≤ most → (∀ b ∈ x7, GoodBid n b) →
    ∃ L, Ev (fun k => worldmintref27_Bids.l0 k n l most x7 x7.length) L ∧ (L.length : Int) ≤ most ∧ ∀ b ∈ L, GoodBid n b := by
  intro d
  induction d with
  | zero =>
    intro x7 hd hx hb
    obtain ⟨r, hr, hr0, hr1⟩ := pick_ok l 0 (most + 1) hl (by omega)
    refine ⟨x7, Ev.succ ?_, hx, hb⟩
    simp only [worldmintref27_Bids.l0, w64 (most + 1) (by omega) (by omega), hr, Option.bind_some]
    simp only [if_neg (show ¬ (x7.length : Int) < r by omega)]
    exact Ev.some_
  | succ d ih =>
    intro x7 hd hx hb
    obtain ⟨r, hr, hr0, hr1⟩ := pick_ok l 0 (most + 1) hl (by omega)
    by_cases hlt : (x7.length : Int) < r
    · obtain ⟨t, ht, ht0, ht1⟩ := pick_ok l (wrap64 (1 + wrap64 (3 * (x7.length : Int)))) 1000000 hl (by omega)
      obtain ⟨u, hu, hu0, hu1⟩ := pick_ok l (wrap64 (2 + wrap64 (3 * (x7.length : Int)))) 255 hl (by omega)
      obtain ⟨v, hv, hv0, hv1⟩ := pick_ok l (wrap64 (3 + wrap64 (3 * (x7.length : Int)))) 255 hl (by omega)
      have e0 : 0 ≤ Int.tmod t 6 ∧ Int.tmod t 6 < 6 := ⟨Int.tmod_nonneg _ ht0, Int.tmod_lt_of_pos _ (by omega)⟩
      have hq : 0 ≤ Int.tdiv t 6 ∧ Int.tdiv t 6 ≤ t := ⟨Int.tdiv_nonneg ht0 (by omega), Int.tdiv_le_self _ ht0⟩
      have hq2 : 0 ≤ Int.tdiv t 216 ∧ Int.tdiv t 216 ≤ t := ⟨Int.tdiv_nonneg ht0 (by omega), Int.tdiv_le_self _ ht0⟩
      have hw1 : wrap64 (Int.tdiv t 6) = Int.tdiv t 6 := w64 _ (by omega) (by omega)
      have hw2 : wrap64 (Int.tdiv t 216) = Int.tdiv t 216 := w64 _ (by omega) (by omega)
      have e1 : 0 ≤ Int.tmod (Int.tdiv t 6) 9 ∧ Int.tmod (Int.tdiv t 6) 9 < 9 := ⟨Int.tmod_nonneg _ hq.1, Int.tmod_lt_of_pos _ (by omega)⟩
      have e2 : 0 ≤ Int.tmod (Int.tdiv t 216) 50 ∧ Int.tmod (Int.tdiv t 216) 50 < 50 := ⟨Int.tmod_nonneg _ hq2.1, Int.tmod_lt_of_pos _ (by omega)⟩
      have g0 : wrap64 (1 + Int.tmod t 6) = 1 + Int.tmod t 6 := w64 _ (by omega) (by omega)
      have g1 : wrap64 (1 + Int.tmod (Int.tdiv t 6) 9) = 1 + Int.tmod (Int.tdiv t 6) 9 := w64 _ (by omega) (by omega)
      have g2 : wrap64 (1 + Int.tmod (Int.tdiv t 216) 50) = 1 + Int.tmod (Int.tdiv t 216) 50 := w64 _ (by omega) (by omega)
      have hpr : ∀ a b : Int, 1 ≤ a → a ≤ 9 → 1 ≤ b → b ≤ 50 → 1 ≤ a * b ∧ a * b ≤ 450 := fun a b a1 a2 b1 b2 => by
        have h1 : 1 * 1 ≤ a * b := Int.mul_le_mul a1 b1 (by omega) (by omega)
        have h2 : a * b ≤ 9 * 50 := Int.mul_le_mul a2 b2 (by omega) (by omega)
        omega
      have hp := hpr (1 + Int.tmod (Int.tdiv t 6) 9) (1 + Int.tmod (Int.tdiv t 216) 50) (by omega) (by omega) (by omega) (by omega)
      have g3 : wrap64 ((1 + Int.tmod (Int.tdiv t 6) 9) * (1 + Int.tmod (Int.tdiv t 216) 50)) = (1 + Int.tmod (Int.tdiv t 6) 9) * (1 + Int.tmod (Int.tdiv t 216) 50) := w64 _ (by omega) (by omega)
      have hstep : ∀ p : Int, 1 ≤ p → p ≤ 450 → ∃ L, Ev (fun k => worldmintref27_Bids.j1 k n l most x7 (x7.length : Int) (1 + Int.tmod t 6) p) L ∧ (L.length : Int) ≤ most ∧ ∀ b ∈ L, GoodBid n b := fun p hp1 hp2 => by
        obtain ⟨L, h1, h2⟩ := bids_l1 n l most x7 (x7.length : Int) (1 + Int.tmod t 6) p hn1 hn8 (by omega) [] (fun ks hk0 hk1 hk2 => by
          obtain ⟨L, h1, h2⟩ := ih (x7 ++ [⟨1 + Int.tmod t 6, p, ks⟩]) (by simp; omega) (by simp; omega) (fun b hb' => by
            rcases List.mem_append.1 hb' with h | h
            · exact hb b h
            · rw [List.mem_singleton] at h; subst h; exact ⟨by show 1 ≤ 1 + _; omega, by show 1 + _ ≤ 6; omega, hp1, hp2, hk0, hk1, hk2⟩)
          refine ⟨L, ?_, h2⟩
          rw [w64 _ (by omega) (by omega)]
          simpa using h1) n.toNat 0 (Go.bits .and .i64 u (Go.bits .or .i64 v 17)) [] (by omega) (by omega) (by omega) rfl (by simp) (by simp) (by omega)
        refine ⟨L, Ev.succ ?_, h2⟩
        simp only [worldmintref27_Bids.j1, hu, hv, Option.bind_some]
        exact h1
      by_cases c : Int.tmod (wrap64 (Int.tdiv t 54)) 4 = 0
      · obtain ⟨L, h1, h2⟩ := hstep _ hp.1 hp.2
        refine ⟨L, Ev.succ ?_, h2⟩
        simp only [worldmintref27_Bids.l0, w64 (most + 1) (by omega) (by omega), hr, ht, Option.bind_some, if_pos hlt, if_pos c, hw1, hw2, g0, g1, g2, g3]
        exact h1
      · obtain ⟨L, h1, h2⟩ := hstep (1 + Int.tmod (Int.tdiv t 6) 9) (by omega) (by omega)
        refine ⟨L, Ev.succ ?_, h2⟩
        simp only [worldmintref27_Bids.l0, w64 (most + 1) (by omega) (by omega), hr, ht, Option.bind_some, if_pos hlt, if_neg c, hw1, g0, g1]
        exact h1
    · refine ⟨x7, Ev.succ ?_, hx, hb⟩
      simp only [worldmintref27_Bids.l0, w64 (most + 1) (by omega) (by omega), hr, Option.bind_some]
      simp only [if_neg hlt]
      exact Ev.some_
theorem bids_ok (n : Int) (l : List Int) (hl : ∀ x ∈ l, (Lit.int .i64 x).wf = true) (most : Int) (hn1 : 1 ≤ n) (hn8 : n ≤ 8) (hm0 : 0 ≤ most) (hm1 : most ≤ 1000) :
    ∃ L, Ev (fun k => worldmintref27_Bids.f k n l most) L ∧ (L.length : Int) ≤ most ∧ ∀ b ∈ L, GoodBid n b := by
  have := bids_l0 n l hl most hn1 hn8 hm0 hm1 _ [] rfl (by simpa using hm0) (by simp)
  simpa [worldmintref27_Bids.f] using this
end Go.Proofs.Ytecbfpcidoilmaa.H

/- The search's answer: the best choice, and of equals the least. Plain. -/
namespace Go.Proofs.Ytecbfpcidoilmaa.H
open Go.RowKit
set_option linter.unusedVariables false
set_option linter.unusedSimpArgs false
/-- Do places a and b conflict? -/
def cf (l : List S45) (a b : Int) : Bool := conf (l.getD a.toNat z45) (l.getD b.toNat z45)
/-- The places from i on, n of them, whose bit is set. -/
def choiceP : Nat → Nat → Nat → List Int
  | 0, _, _ => []
  | n + 1, bits, i => if bits % 2 = 1 then (i : Int) :: choiceP n (bits / 2) (i + 1) else choiceP n (bits / 2) (i + 1)
/-- Places that go with those taken, and among each other. -/
def okS (U : S45 → Bool) (l : List S45) : List Int → List Int → Bool
  | _, [] => true
  | win, k :: s => U (l.getD k.toNat z45) && !(win.any fun w => cf l w k) && okS U l (win ++ [k]) s
def valP (l : List S45) (s : List Int) : Int := (s.map fun k => (l.getD k.toNat z45).f1).sum
def lessP : List Int → List Int → Bool
  | [], [] => false
  | [], _ :: _ => true
  | _ :: _, [] => false
  | a :: s, b :: t => if a = b then lessP s t else decide (a < b)
/-- The best extension. -/
def ext (U : S45 → Bool) (l : List S45) : List S45 → Nat → List Int → List Int × Int
  | [], _, _ => ([], 0)
  | b :: left, i, win =>
    if U b && !(win.any fun w => conf (l.getD w.toNat z45) b) then
      if (ext U l left (i + 1) (win ++ [(i : Int)])).2 + b.f1 < (ext U l left (i + 1) win).2 then ext U l left (i + 1) win
      else ((i : Int) :: (ext U l left (i + 1) (win ++ [(i : Int)])).1, (ext U l left (i + 1) (win ++ [(i : Int)])).2 + b.f1)
    else ext U l left (i + 1) win
section
variable {U : S45 → Bool} {l : List S45}
theorem ext_bounds : ∀ (left : List S45) (i : Nat) (win : List Int), (∀ b ∈ left, 1 ≤ b.f1) → 0 ≤ (ext U l left i win).2 ∧ (ext U l left i win).2 ≤ restOf U left
  | [], _, _, _ => by simp [ext, restOf]
  | b :: left, i, win, h => by
    have hb := h b (by simp)
    have h1 := ext_bounds left (i + 1) win (fun x hx => h x (by simp [hx]))
    have h2 := ext_bounds left (i + 1) (win ++ [(i : Int)]) (fun x hx => h x (by simp [hx]))
    unfold ext restOf
    cases hU : U b
    · simp only [Bool.false_and, Bool.false_eq_true, if_false]; omega
    · simp only [Bool.true_and, if_true]
      split
      · split
        · constructor <;> omega
        · constructor <;> (simp only; omega)
      · constructor <;> omega
theorem try_ext : ∀ (left : List S45) (i : Nat) (value : Int) (win : List Int) (best : Int) (out : List Int) (val : Int), (∀ b ∈ left, 1 ≤ b.f1) →
    tryP U l left i value win (best, out, val) = if best < value + (ext U l left i win).2 then (value + (ext U l left i win).2, win ++ (ext U l left i win).1, value + (ext U l left i win).2) else (best, out, val)
  | [], i, value, win, best, out, val, _ => by
    simp only [tryP, ext, Int.add_zero, List.append_nil]
    by_cases h : value ≤ best
    · rw [if_pos h, if_neg (by omega)]
    · rw [if_neg h, if_pos (by omega)]
  | b :: left, i, value, win, best, out, val, h => by
    have hl : ∀ x ∈ left, 1 ≤ x.f1 := fun x hx => h x (by simp [hx])
    have hb := h b (by simp)
    have hbd := ext_bounds (U := U) (l := l) (b :: left) i win h
    simp only [tryP]
    by_cases hp : value + restOf U (b :: left) ≤ best
    · rw [if_pos hp, if_neg (by omega)]
    · rw [if_neg hp]
      have ht := try_ext left (i + 1) (value + b.f1) (win ++ [(i : Int)]) best out val hl
      have hs := fun B O V => try_ext left (i + 1) value win B O V hl
      unfold ext
      by_cases hc : (U b && !(win.any fun w => conf (l.getD w.toNat z45) b)) = true
      · rw [if_pos hc, if_pos hc, ht]
        generalize ext U l left (i + 1) (win ++ [(i : Int)]) = T at *
        generalize ext U l left (i + 1) win = S at *
        by_cases h1 : best < value + b.f1 + T.2
        · rw [if_pos h1, hs]
          by_cases h2 : T.2 + b.f1 < S.2
          · rw [if_pos h2, if_pos (by omega), if_pos (by omega)]
          · rw [if_neg h2, if_neg (by omega)]
            simp only
            rw [if_pos (by omega)]
            rw [show value + b.f1 + T.2 = value + (T.2 + b.f1) from by omega]
            simp
        · rw [if_neg h1, hs]
          by_cases h2 : T.2 + b.f1 < S.2
          · rw [if_pos h2]
          · rw [if_neg h2, if_neg (by omega)]
            simp only
            rw [if_neg (by omega)]
      · rw [if_neg hc, if_neg hc, hs]
theorem search_ext (h : ∀ b ∈ l, 1 ≤ b.f1) : searchP U l = ext U l l 0 [] := by
  have hb := ext_bounds (U := U) (l := l) l 0 [] h
  unfold searchP
  rw [try_ext l 0 0 [] (-1) [] 0 h, if_pos (by omega)]
  simp
theorem choice_ge : ∀ (n bits i : Nat), ∀ k ∈ choiceP n bits i, (i : Int) ≤ k ∧ k < (i : Int) + n
  | 0, _, _ => by simp [choiceP]
  | n + 1, bits, i => by
    intro k hk
    have ih := choice_ge n (bits / 2) (i + 1)
    unfold choiceP at hk
    split at hk
    · rcases List.mem_cons.1 hk with rfl | hk
      · constructor <;> omega
      · have := ih k hk; constructor <;> omega
    · have := ih k hk; constructor <;> omega
theorem drop_getD (i : Nat) (b : S45) (left : List S45) (h : l.drop i = b :: left) : l.getD (i : Int).toNat z45 = b ∧ l.drop (i + 1) = left := by
  have h1 : l[i]? = some b := by
    have := congrArg (fun t => t[0]?) h
    simpa using this
  refine ⟨by simp [List.getD, h1], ?_⟩
  have := congrArg List.tail h
  simpa using this
theorem ext_valid : ∀ (left : List S45) (i : Nat) (win : List Int), l.drop i = left →
    okS U l win (ext U l left i win).1 = true ∧ valP l (ext U l left i win).1 = (ext U l left i win).2 ∧ ∃ bits, bits < 2 ^ left.length ∧ choiceP left.length bits i = (ext U l left i win).1
  | [], i, win, _ => ⟨by simp [ext, okS], by simp [ext, valP], 0, by simp, by simp [ext, choiceP]⟩
  | b :: left, i, win, h => by
    obtain ⟨hg, hd⟩ := drop_getD i b left h
    obtain ⟨s1, s2, sb, s3, s4⟩ := ext_valid left (i + 1) win hd
    obtain ⟨t1, t2, tb, t3, t4⟩ := ext_valid left (i + 1) (win ++ [(i : Int)]) hd
    have hskip : okS U l win (ext U l left (i + 1) win).1 = true ∧ valP l (ext U l left (i + 1) win).1 = (ext U l left (i + 1) win).2 ∧ ∃ bits, bits < 2 ^ (b :: left).length ∧ choiceP (b :: left).length bits i = (ext U l left (i + 1) win).1 := by
      refine ⟨s1, s2, 2 * sb, by simp only [List.length_cons, Nat.pow_succ]; omega, ?_⟩
      simp only [List.length_cons, choiceP]
      rw [if_neg (by omega), show 2 * sb / 2 = sb from by omega, s4]
    unfold ext
    by_cases hc : (U b && !(win.any fun w => conf (l.getD w.toNat z45) b)) = true
    · rw [if_pos hc]
      split
      · exact hskip
      · refine ⟨?_, ?_, 2 * tb + 1, by simp only [List.length_cons, Nat.pow_succ]; omega, ?_⟩
        · simp only [okS, cf, hg, t1, Bool.and_true]
          exact hc
        · simp only [valP, List.map_cons, List.sum_cons, hg] at t2 ⊢
          omega
        · simp only [List.length_cons, choiceP]
          rw [if_pos (by omega), show (2 * tb + 1) / 2 = tb from by omega, t4]
    · rw [if_neg hc]
      exact hskip
theorem ext_best : ∀ (left : List S45) (i : Nat) (win : List Int), l.drop i = left → (∀ b ∈ left, 1 ≤ b.f1) → ∀ bits, okS U l win (choiceP left.length bits i) = true →
    valP l (choiceP left.length bits i) ≤ (ext U l left i win).2 ∧ (valP l (choiceP left.length bits i) = (ext U l left i win).2 → choiceP left.length bits i = (ext U l left i win).1 ∨ lessP (ext U l left i win).1 (choiceP left.length bits i) = true)
  | [], i, win, _, _, bits, _ => ⟨by simp [choiceP, ext, valP], fun _ => .inl (by simp [choiceP, ext])⟩
  | b :: left, i, win, h, hp, bits, hok => by
    obtain ⟨hg, hd⟩ := drop_getD i b left h
    have hb := hp b (by simp)
    have hl : ∀ x ∈ left, 1 ≤ x.f1 := fun x hx => hp x (by simp [hx])
    have hs := ext_best left (i + 1) win hd hl (bits / 2)
    have ht := ext_best left (i + 1) (win ++ [(i : Int)]) hd hl (bits / 2)
    have hge := choice_ge left.length (bits / 2) (i + 1)
    have htb := ext_bounds (U := U) (l := l) left (i + 1) (win ++ [(i : Int)]) hl
    simp only [List.length_cons, choiceP] at hok ⊢
    by_cases hbit : bits % 2 = 1
    · rw [if_pos hbit] at hok ⊢
      simp only [okS, cf, hg, Bool.and_eq_true] at hok
      obtain ⟨⟨hU, hnc⟩, hrest⟩ := hok
      obtain ⟨h1, h2⟩ := ht hrest
      unfold ext
      rw [if_pos (by simp only [Bool.and_eq_true]; exact ⟨hU, hnc⟩)]
      have hv : valP l ((i : Int) :: choiceP left.length (bits / 2) (i + 1)) = b.f1 + valP l (choiceP left.length (bits / 2) (i + 1)) := by
        simp only [valP, List.map_cons, List.sum_cons, hg]
      rw [hv]
      split
      · exact ⟨by omega, fun e => by omega⟩
      · refine ⟨by show _ ≤ (_, _).2; simp only; omega, fun e => ?_⟩
        simp only at e ⊢
        rcases h2 (by omega) with h3 | h3
        · exact .inl (by rw [h3])
        · exact .inr (by simp only [lessP, if_true]; exact h3)
    · rw [if_neg hbit] at hok ⊢
      obtain ⟨h1, h2⟩ := hs hok
      unfold ext
      split
      · split
        · exact ⟨h1, h2⟩
        · refine ⟨by show _ ≤ (_, _).2; simp only; omega, fun e => .inr ?_⟩
          simp only at e ⊢
          cases hc : choiceP left.length (bits / 2) (i + 1) with
          | nil =>
            rw [hc] at e
            simp only [valP, List.map_nil, List.sum_nil] at e
            omega
          | cons k s =>
            have := hge k (by rw [hc]; simp)
            simp only [lessP]
            rw [if_neg (by omega)]
            simp
            omega
      · exact ⟨h1, h2⟩
theorem less_irrefl : ∀ s, lessP s s = false
  | [] => rfl
  | a :: s => by simp [lessP, less_irrefl s]
theorem less_trans : ∀ a b c, lessP a b = true → lessP b c = true → lessP a c = true
  | [], [], _, h, _ => by simp [lessP] at h
  | [], _ :: _, [], _, h => by simp [lessP] at h
  | [], _ :: _, _ :: _, _, _ => rfl
  | _ :: _, [], _, h, _ => by simp [lessP] at h
  | _ :: _, _ :: _, [], _, h => by simp [lessP] at h
  | x :: a, y :: b, z :: c, h1, h2 => by
    simp only [lessP] at h1 h2 ⊢
    by_cases e1 : x = y
    · subst e1
      rw [if_pos rfl] at h1
      by_cases e2 : x = z
      · subst e2
        rw [if_pos rfl] at h2 ⊢
        exact less_trans a b c h1 h2
      · rw [if_neg e2] at h2 ⊢
        exact h2
    · rw [if_neg e1] at h1
      simp only [decide_eq_true_eq] at h1
      by_cases e2 : y = z
      · subst e2
        rw [if_neg e1]
        simpa using h1
      · rw [if_neg e2] at h2
        simp only [decide_eq_true_eq] at h2
        rw [if_neg (by omega)]
        simp only [decide_eq_true_eq]
        omega
end
end Go.Proofs.Ytecbfpcidoilmaa.H

/- Choices as sets of places: the best one, told without lists. Plain. -/
namespace Go.Proofs.Ytecbfpcidoilmaa.H
open Go.RowKit
set_option linter.unusedVariables false
set_option linter.unusedSimpArgs false
/-- The places from i on, n of them, at which p holds. -/
def sel (p : Nat → Bool) : Nat → Nat → List Int
  | 0, _ => []
  | n + 1, i => if p i then (i : Int) :: sel p n (i + 1) else sel p n (i + 1)
def sumF (f : Nat → Int) : Nat → Nat → Int
  | 0, _ => 0
  | n + 1, i => f i + sumF f n (i + 1)
theorem mem_sel (p : Nat → Bool) (x : Int) : ∀ n i, x ∈ sel p n i ↔ ∃ k, i ≤ k ∧ k < i + n ∧ p k = true ∧ x = (k : Int)
  | 0, i => by simp [sel]; intro k h1 h2; omega
  | n + 1, i => by
    have ih := mem_sel p x n (i + 1)
    unfold sel
    by_cases h : p i = true
    · rw [if_pos h, List.mem_cons, ih]
      constructor
      · rintro (rfl | ⟨k, h1, h2, h3, h4⟩)
        · exact ⟨i, by omega, by omega, h, rfl⟩
        · exact ⟨k, by omega, by omega, h3, h4⟩
      · rintro ⟨k, h1, h2, h3, h4⟩
        by_cases e : k = i
        · subst e; exact .inl h4
        · exact .inr ⟨k, by omega, by omega, h3, h4⟩
    · rw [if_neg h, ih]
      constructor
      · rintro ⟨k, h1, h2, h3, h4⟩
        exact ⟨k, by omega, by omega, h3, h4⟩
      · rintro ⟨k, h1, h2, h3, h4⟩
        by_cases e : k = i
        · subst e; exact absurd h3 h
        · exact ⟨k, by omega, by omega, h3, h4⟩
theorem mem_sel0 (p : Nat → Bool) (n : Nat) (x : Int) : x ∈ sel p n 0 ↔ ∃ k, k < n ∧ p k = true ∧ x = (k : Int) := by
  rw [mem_sel]
  constructor
  · rintro ⟨k, h1, h2, h3, h4⟩; exact ⟨k, by omega, h3, h4⟩
  · rintro ⟨k, h2, h3, h4⟩; exact ⟨k, by omega, by omega, h3, h4⟩
theorem rise_sel (p : Nat → Bool) : ∀ n i, (sel p n i).Pairwise (· < ·)
  | 0, _ => List.Pairwise.nil
  | n + 1, i => by
    unfold sel
    split
    · refine List.pairwise_cons.2 ⟨fun x hx => ?_, rise_sel p n (i + 1)⟩
      obtain ⟨k, h1, h2, h3, rfl⟩ := (mem_sel p x n (i + 1)).1 hx
      omega
    · exact rise_sel p n (i + 1)
theorem rise_ext : ∀ (s t : List Int), s.Pairwise (· < ·) → t.Pairwise (· < ·) → (∀ x, x ∈ s ↔ x ∈ t) → s = t
  | [], [], _, _, _ => rfl
  | [], y :: t, _, _, h => by have := (h y).2 (by simp); simp at this
  | x :: s, [], _, _, h => by have := (h x).1 (by simp); simp at this
  | x :: s, y :: t, hs, ht, h => by
    obtain ⟨s1, s2⟩ := List.pairwise_cons.1 hs
    obtain ⟨t1, t2⟩ := List.pairwise_cons.1 ht
    have e : x = y := by
      rcases List.mem_cons.1 ((h x).1 (by simp)) with e | e
      · exact e
      · rcases List.mem_cons.1 ((h y).2 (by simp)) with e2 | e2
        · exact e2.symm
        · have := t1 x e; have := s1 y e2; omega
    subst e
    rw [rise_ext s t s2 t2 (fun z => by
      constructor
      · intro hz
        rcases List.mem_cons.1 ((h z).1 (by simp [hz])) with e | e
        · subst e; exact absurd (s1 z hz) (Int.lt_irrefl _)
        · exact e
      · intro hz
        rcases List.mem_cons.1 ((h z).2 (by simp [hz])) with e | e
        · subst e; exact absurd (t1 z hz) (Int.lt_irrefl _)
        · exact e)]
theorem sel_of (n : Nat) (s : List Int) (h0 : ∀ k ∈ s, 0 ≤ k ∧ k < n) (h1 : s.Pairwise (· < ·)) : s = sel (fun k => decide ((k : Int) ∈ s)) n 0 := by
  refine rise_ext _ _ h1 (rise_sel _ _ _) (fun x => ?_)
  rw [mem_sel0]
  constructor
  · intro hx
    obtain ⟨a, b⟩ := h0 x hx
    obtain ⟨k, rfl⟩ := Int.eq_ofNat_of_zero_le a
    exact ⟨k, by omega, by simpa using hx, rfl⟩
  · rintro ⟨k, h2, h3, rfl⟩; simpa using h3
theorem sel_congr (p q : Nat → Bool) : ∀ n i, (∀ k, i ≤ k → k < i + n → p k = q k) → sel p n i = sel q n i
  | 0, _, _ => rfl
  | n + 1, i, h => by
    unfold sel
    rw [h i (by omega) (by omega), sel_congr p q n (i + 1) (fun k h1 h2 => h k (by omega) (by omega))]
theorem choice_sel (p : Nat → Bool) : ∀ n i, ∃ bits, bits < 2 ^ n ∧ choiceP n bits i = sel p n i
  | 0, i => ⟨0, by simp, rfl⟩
  | n + 1, i => by
    obtain ⟨b, h1, h2⟩ := choice_sel p n (i + 1)
    by_cases h : p i = true
    · refine ⟨2 * b + 1, by rw [Nat.pow_succ]; omega, ?_⟩
      unfold choiceP sel
      rw [if_pos (by omega), if_pos h, show (2 * b + 1) / 2 = b from by omega, h2]
    · refine ⟨2 * b, by rw [Nat.pow_succ]; omega, ?_⟩
      unfold choiceP sel
      rw [if_neg (by omega), if_neg h, show 2 * b / 2 = b from by omega, h2]
theorem sumF_congr (f g : Nat → Int) : ∀ n i, (∀ k, i ≤ k → k < i + n → f k = g k) → sumF f n i = sumF g n i
  | 0, _, _ => rfl
  | n + 1, i, h => by
    unfold sumF
    rw [h i (by omega) (by omega), sumF_congr f g n (i + 1) (fun k h1 h2 => h k (by omega) (by omega))]
theorem sumF_add (f g : Nat → Int) : ∀ n i, sumF (fun k => f k + g k) n i = sumF f n i + sumF g n i
  | 0, _ => rfl
  | n + 1, i => by unfold sumF; rw [sumF_add f g n (i + 1)]; omega
theorem sumF_le (f g : Nat → Int) : ∀ n i, (∀ k, i ≤ k → k < i + n → f k ≤ g k) → sumF f n i ≤ sumF g n i
  | 0, _, _ => Int.le_refl _
  | n + 1, i, h => by
    have h1 := h i (by omega) (by omega)
    have h2 := sumF_le f g n (i + 1) (fun k h1 h2 => h k (by omega) (by omega))
    unfold sumF
    omega
theorem sumF_zero : ∀ (f : Nat → Int) n i, (∀ k, i ≤ k → k < i + n → f k = 0) → sumF f n i = 0
  | f, 0, _, _ => rfl
  | f, n + 1, i, h => by
    unfold sumF
    rw [h i (by omega) (by omega), sumF_zero f n (i + 1) (fun k h1 h2 => h k (by omega) (by omega))]
    rfl
theorem sumF_one (f : Nat → Int) (a : Nat) : ∀ n i, i ≤ a → a < i + n → (∀ k, i ≤ k → k < i + n → k ≠ a → f k = 0) → sumF f n i = f a
  | 0, i, h1, h2, _ => by omega
  | n + 1, i, h1, h2, h => by
    unfold sumF
    by_cases e : i = a
    · subst e
      rw [sumF_zero f n (i + 1) (fun k h3 h4 => h k (by omega) (by omega) (by omega))]
      omega
    · rw [h i (by omega) (by omega) e, sumF_one f a n (i + 1) (by omega) (by omega) (fun k h3 h4 h5 => h k (by omega) (by omega) h5)]
      omega
/-- The price of the bid at a place; the value of a set of places. -/
def prc (l : List S45) (k : Nat) : Int := (l.getD k z45).f1
def valB (l : List S45) (p : Nat → Bool) : Int := sumF (fun k => if p k then prc l k else 0) l.length 0
def cj (l : List S45) (a b : Nat) : Bool := conf (l.getD a z45) (l.getD b z45)
theorem conf_comm (a b : S45) : conf a b = conf b a := by
  unfold conf
  have h1 : (a.f0 == b.f0) = (b.f0 == a.f0) := by rw [Bool.eq_iff_iff]; simp; exact ⟨fun h => h.symm, fun h => h.symm⟩
  have h2 : (b.f2.any fun k => a.f2.contains k) = (a.f2.any fun k => b.f2.contains k) := by
    rw [Bool.eq_iff_iff, List.any_eq_true, List.any_eq_true]
    constructor <;> (rintro ⟨x, h1, h2⟩; exact ⟨x, by simpa using h2, by simpa using h1⟩)
  rw [h1, h2]
theorem cj_comm (l : List S45) (a b : Nat) : cj l a b = cj l b a := conf_comm _ _
theorem prc_pos (l : List S45) (hp : ∀ b ∈ l, 1 ≤ b.f1) (k : Nat) (hk : k < l.length) : 1 ≤ prc l k := by
  unfold prc
  exact hp _ (by simp [List.getD, hk])
theorem val_sel (l : List S45) (p : Nat → Bool) : ∀ n i, valP l (sel p n i) = sumF (fun k => if p k then prc l k else 0) n i
  | 0, _ => rfl
  | n + 1, i => by
    have ih := val_sel l p n (i + 1)
    unfold sel sumF
    by_cases h : p i = true
    · rw [if_pos h, if_pos h, ← ih]; rfl
    · rw [if_neg h, if_neg h, ← ih]; omega
theorem valB_sel (l : List S45) (p : Nat → Bool) : valP l (sel p l.length 0) = valB l p := val_sel l p _ _
/-- A set of places that may win together. -/
def FeasU (U : S45 → Bool) (l : List S45) (p : Nat → Bool) : Prop :=
  (∀ a, a < l.length → p a = true → U (l.getD a z45) = true) ∧ ∀ a b, a < l.length → b < l.length → a ≠ b → p a = true → p b = true → cj l a b = false
/-- q has the first place at which they differ. -/
def dlt (n : Nat) (q p : Nat → Bool) : Prop := ∃ d, d < n ∧ q d = true ∧ p d = false ∧ ∀ x, x < d → q x = p x
structure IsBest (U : S45 → Bool) (l : List S45) (p : Nat → Bool) : Prop where
  feas : FeasU U l p
  max : ∀ q, FeasU U l q → valB l q ≤ valB l p
  first : ∀ q, FeasU U l q → valB l q = valB l p → ¬ dlt l.length q p
theorem ok_of_pairs (U : S45 → Bool) (l : List S45) : ∀ (s win : List Int), okS U l win s = true ↔ ((∀ k ∈ s, U (l.getD k.toNat z45) = true) ∧ (∀ w ∈ win, ∀ k ∈ s, cf l w k = false) ∧ s.Pairwise (fun a b => cf l a b = false))
  | [], win => by simp [okS]
  | k :: s, win => by
    have ih := ok_of_pairs U l s (win ++ [k])
    simp only [okS, Bool.and_eq_true, ih, Bool.not_eq_true']
    constructor
    · rintro ⟨⟨h1, h2⟩, h3, h4, h5⟩
      have h2' : ∀ w ∈ win, cf l w k = false := fun w hw => by simpa using List.any_eq_false.1 h2 w hw
      refine ⟨fun x hx => ?_, fun w hw x hx => ?_, List.pairwise_cons.2 ⟨fun x hx => h4 k (by simp) x hx, h5⟩⟩
      · rcases List.mem_cons.1 hx with rfl | hx
        · exact h1
        · exact h3 x hx
      · rcases List.mem_cons.1 hx with rfl | hx
        · exact h2' w hw
        · exact h4 w (by simp [hw]) x hx
    · rintro ⟨h1, h2, h3⟩
      obtain ⟨h4, h5⟩ := List.pairwise_cons.1 h3
      refine ⟨⟨h1 k (by simp), List.any_eq_false.2 (fun w hw => by simpa using h2 w hw k (by simp))⟩, fun x hx => h1 x (by simp [hx]), fun w hw x hx => ?_, h5⟩
      rcases List.mem_append.1 hw with hw | hw
      · exact h2 w hw x (by simp [hx])
      · rw [List.mem_singleton] at hw; subst hw; exact h4 x hx
theorem ok_sel (U : S45 → Bool) (l : List S45) (p : Nat → Bool) : okS U l [] (sel p l.length 0) = true ↔ FeasU U l p := by
  rw [ok_of_pairs]
  constructor
  · rintro ⟨h1, _, h3⟩
    refine ⟨fun a ha hp => ?_, ?_⟩
    · have := h1 (a : Int) ((mem_sel0 p _ _).2 ⟨a, ha, hp, rfl⟩)
      simpa using this
    · have key : ∀ a b, a < l.length → b < l.length → a < b → p a = true → p b = true → cj l a b = false := by
        intro a b ha hb hab hpa hpb
        have hm : (a : Int) ∈ sel p l.length 0 := (mem_sel0 p _ _).2 ⟨a, ha, hpa, rfl⟩
        have hn : (b : Int) ∈ sel p l.length 0 := (mem_sel0 p _ _).2 ⟨b, hb, hpb, rfl⟩
        have hr := rise_sel p l.length 0
        generalize sel p l.length 0 = s at *
        induction s with
        | nil => simp at hm
        | cons x s ih =>
          obtain ⟨r1, r2⟩ := List.pairwise_cons.1 hr
          obtain ⟨c1, c2⟩ := List.pairwise_cons.1 h3
          rcases List.mem_cons.1 hm with e1 | e1
          · rcases List.mem_cons.1 hn with e2 | e2
            · omega
            · subst e1; exact c1 _ e2
          · rcases List.mem_cons.1 hn with e2 | e2
            · have := r1 _ e1; omega
            · exact ih (fun k hk => h1 k (by simp [hk])) (by simp) c2 e1 e2 r2
      intro a b ha hb hab hpa hpb
      rcases Nat.lt_or_gt_of_ne hab with h | h
      · exact key a b ha hb h hpa hpb
      · rw [cj_comm]; exact key b a hb ha h hpb hpa
  · rintro ⟨h1, h2⟩
    refine ⟨fun k hk => ?_, by simp, ?_⟩
    · obtain ⟨a, ha, hp, rfl⟩ := (mem_sel0 p _ _).1 hk
      exact h1 a ha hp
    · refine (rise_sel p l.length 0).imp_of_mem (fun {a b} ha hb hab => ?_)
      obtain ⟨x, hx, hpx, rfl⟩ := (mem_sel0 p _ _).1 ha
      obtain ⟨y, hy, hpy, rfl⟩ := (mem_sel0 p _ _).1 hb
      exact h2 x y hx hy (by omega) hpx hpy
theorem dlt_less (q p : Nat → Bool) : ∀ n i, (∃ d, i ≤ d ∧ d < i + n ∧ q d = true ∧ p d = false ∧ ∀ x, i ≤ x → x < d → q x = p x) → lessP (sel q n i) (sel p n i) = true ∨ ∃ t, t ≠ [] ∧ sel q n i = sel p n i ++ t
  | 0, i, ⟨d, h1, h2, _⟩ => by omega
  | n + 1, i, ⟨d, h1, h2, h3, h4, h5⟩ => by
    by_cases e : d = i
    · subst e
      unfold sel
      rw [if_pos h3, if_neg (by simp [h4])]
      cases hs : sel p n (d + 1) with
      | nil => exact .inr ⟨_, by simp, rfl⟩
      | cons y t =>
        have : (d : Int) < y := by
          obtain ⟨k, a, b, c, e⟩ := (mem_sel p y n (d + 1)).1 (by rw [hs]; simp)
          omega
        refine .inl ?_
        simp only [lessP]
        rw [if_neg (by omega)]
        simpa using this
    · have ih := dlt_less q p n (i + 1) ⟨d, by omega, by omega, h3, h4, fun x a b => h5 x (by omega) b⟩
      have hi := h5 i (by omega) (by omega)
      unfold sel
      by_cases hp : p i = true
      · rw [if_pos (by rw [hi]; exact hp), if_pos hp]
        rcases ih with ih | ⟨t, a, b⟩
        · exact .inl (by simp only [lessP, if_true]; exact ih)
        · exact .inr ⟨t, a, by rw [b]; rfl⟩
      · rw [if_neg (by rw [hi]; exact hp), if_neg hp]
        exact ih
theorem valP_append (l : List S45) (a b : List Int) : valP l (a ++ b) = valP l a + valP l b := by
  unfold valP
  rw [List.map_append, List.sum_append]
theorem valP_pos (l : List S45) (hp : ∀ b ∈ l, 1 ≤ b.f1) (t : List Int) (ht : t ≠ []) (h : ∀ k ∈ t, 0 ≤ k ∧ k < l.length) : 1 ≤ valP l t := by
  have h1 : ∀ s : List Int, (∀ k ∈ s, 0 ≤ k ∧ k < l.length) → 0 ≤ valP l s := by
    intro s
    induction s with
    | nil => intro _; exact Int.le_refl _
    | cons k s ih =>
      intro h
      have h2 := ih (fun x hx => h x (by simp [hx]))
      have h3 := h k (by simp)
      have h4 : 1 ≤ (l.getD k.toNat z45).f1 := prc_pos l hp k.toNat (by omega)
      simp only [valP, List.map_cons, List.sum_cons] at h2 ⊢
      omega
  cases t with
  | nil => exact absurd rfl ht
  | cons k s =>
    have h2 := h1 s (fun x hx => h x (by simp [hx]))
    have h3 := h k (by simp)
    have h4 : 1 ≤ (l.getD k.toNat z45).f1 := prc_pos l hp k.toNat (by omega)
    simp only [valP, List.map_cons, List.sum_cons] at h2 ⊢
    omega
/-- Of two of one value the one that has the first difference is the less. -/
theorem dlt_same (l : List S45) (hp : ∀ b ∈ l, 1 ≤ b.f1) (q p : Nat → Bool) (h : dlt l.length q p) (hv : valB l q ≤ valB l p) : lessP (sel q l.length 0) (sel p l.length 0) = true := by
  obtain ⟨d, h1, h2, h3, h4⟩ := h
  rcases dlt_less q p l.length 0 ⟨d, by omega, by omega, h2, h3, fun x _ hx => h4 x hx⟩ with h5 | ⟨t, h5, h6⟩
  · exact h5
  · exfalso
    have h7 := valP_pos l hp t h5 (fun k hk => by
      obtain ⟨a, ha, _, rfl⟩ := (mem_sel0 q l.length k).1 (by rw [h6]; simp [hk])
      omega)
    rw [← valB_sel, ← valB_sel, h6, valP_append] at hv
    omega
theorem search_best (U : S45 → Bool) (l : List S45) (hp : ∀ b ∈ l, 1 ≤ b.f1) : ∃ p, IsBest U l p ∧ searchP U l = (sel p l.length 0, valB l p) := by
  obtain ⟨e1, e2, be, e3, e4⟩ := ext_valid (U := U) l 0 [] (l := l) rfl
  have hb := ext_best (U := U) (l := l) l 0 [] rfl hp
  rw [← search_ext hp] at e1 e2 e4 hb
  have hr := choice_ge l.length be 0
  have hs : (searchP U l).1 = sel (fun k => decide ((k : Int) ∈ (searchP U l).1)) l.length 0 := sel_of l.length _ (fun k hk => by
    rw [← e4] at hk
    have := hr k hk
    omega) (by
    rw [← e4]
    have : ∀ (n bits i : Nat), (choiceP n bits i).Pairwise (· < ·) := by
      intro n
      induction n with
      | zero => intro _ _; exact List.Pairwise.nil
      | succ n ih =>
        intro bits i
        unfold choiceP
        split
        · refine List.pairwise_cons.2 ⟨fun x hx => ?_, ih _ _⟩
          have := choice_ge n (bits / 2) (i + 1) x hx
          omega
        · exact ih _ _
    exact this _ _ _)
  generalize hpp : (fun k : Nat => decide ((k : Int) ∈ (searchP U l).1)) = p at hs
  have hv : (searchP U l).2 = valB l p := by rw [← e2, hs, valB_sel]
  refine ⟨p, ⟨?_, ?_, ?_⟩, by rw [← hs, ← hv]⟩
  · rw [← ok_sel, ← hs]; exact e1
  · intro q hq
    obtain ⟨bits, b1, b2⟩ := choice_sel q l.length 0
    have := (hb bits (by rw [b2]; exact (ok_sel U l q).2 hq)).1
    rw [b2, valB_sel] at this
    omega
  · intro q hq hvq hd
    obtain ⟨bits, b1, b2⟩ := choice_sel q l.length 0
    have h1 := (hb bits (by rw [b2]; exact (ok_sel U l q).2 hq)).2 (by rw [b2, valB_sel]; omega)
    have h2 := dlt_same l hp q p hd (by omega)
    rw [b2, hs] at h1
    rcases h1 with h1 | h1
    · rw [h1, less_irrefl] at h2; cases h2
    · have := less_trans _ _ _ h1 h2
      rw [less_irrefl] at this
      cases this
theorem best_same (U : S45 → Bool) (l : List S45) (p q : Nat → Bool) (h1 : IsBest U l p) (h2 : IsBest U l q) : valB l p = valB l q ∧ ∀ k, k < l.length → p k = q k := by
  have hv : valB l p = valB l q := Int.le_antisymm (h2.max p h1.feas) (h1.max q h2.feas)
  refine ⟨hv, fun k => ?_⟩
  induction k using Nat.strongRecOn with
  | ind k ih =>
    intro hk
    have hlow : ∀ x, x < k → p x = q x := fun x hx => ih x hx (by omega)
    cases hpk : p k <;> cases hqk : q k
    · rfl
    · exact absurd ⟨k, hk, hqk, hpk, fun x hx => (hlow x hx).symm⟩ (h1.first q h2.feas hv.symm)
    · exact absurd ⟨k, hk, hpk, hqk, hlow⟩ (h2.first p h1.feas hv)
    · rfl
theorem best_search (U : S45 → Bool) (l : List S45) (hp : ∀ b ∈ l, 1 ≤ b.f1) (p : Nat → Bool) (h : IsBest U l p) : searchP U l = (sel p l.length 0, valB l p) := by
  obtain ⟨q, h1, h2⟩ := search_best U l hp
  obtain ⟨h3, h4⟩ := best_same U l p q h h1
  rw [h2, h3, sel_congr p q l.length 0 (fun k _ hk => h4 k (by omega))]
end Go.Proofs.Ytecbfpcidoilmaa.H

/- What bids.Parts tells: the components of the conflicts. Plain. -/
namespace Go.Proofs.Ytecbfpcidoilmaa.H
open Go.RowKit
set_option linter.unusedVariables false
set_option linter.unusedSimpArgs false
/-- Place j can be reached from place i by conflicts. -/
def Conn (l : List S45) (i j : Nat) : Prop := ∀ S : Nat → Prop, S i → (∀ a b, a < l.length → b < l.length → S a → cj l a b = true → S b) → S j
section
variable {l : List S45}
theorem Conn.refl (i : Nat) : Conn l i i := fun _ h _ => h
theorem Conn.trans {i j k : Nat} (h1 : Conn l i j) (h2 : Conn l j k) : Conn l i k := fun S hi hc => h2 S (h1 S hi hc) hc
theorem Conn.one {i j : Nat} (hi : i < l.length) (hj : j < l.length) (h : cj l i j = true) : Conn l i j := fun S hs hc => hc i j hi hj hs h
theorem Conn.symm {i j : Nat} (h : Conn l i j) : Conn l j i :=
  h (fun x => Conn l x i) (Conn.refl i) (fun a b ha hb hs hc => (Conn.one hb ha (by rw [cj_comm]; exact hc)).trans hs)
/-- From state a to state b of a visit from i: what is new, and all that is new is reached from i. -/
structure VNew (l : List S45) (i : Nat) (a b : List Bool × List Int) (ns : List Nat) : Prop where
  grp : b.2 = a.2 ++ ns.map (fun k : Nat => (k : Int))
  nodup : ns.Nodup
  mem : ∀ k, k ∈ ns ↔ k < l.length ∧ a.1.getD k true = false ∧ b.1.getD k true = true
  mono : ∀ k, a.1.getD k true = true → b.1.getD k true = true
  conn : ∀ k ∈ ns, Conn l i k
theorem VNew.refl (i : Nat) (a : List Bool × List Int) : VNew l i a a [] :=
  ⟨by simp, List.nodup_nil, fun k => ⟨fun h => by simp at h, fun h => by rw [h.2.1] at h; cases h.2.2⟩, fun _ h => h, fun k hk => by simp at hk⟩
theorem VNew.trans {i j : Nat} {a b c : List Bool × List Int} {ns ms : List Nat} (h1 : VNew l i a b ns) (h2 : VNew l j b c ms) (hij : Conn l i j) : VNew l i a c (ns ++ ms) := by
  refine ⟨by rw [h2.grp, h1.grp, List.map_append, List.append_assoc], ?_, fun k => ?_, fun k hk => h2.mono k (h1.mono k hk), fun k hk => ?_⟩
  · rw [List.nodup_append]
    refine ⟨h1.nodup, h2.nodup, fun x hx y hy e => ?_⟩
    subst e
    have := ((h1.mem x).1 hx).2.2
    rw [((h2.mem x).1 hy).2.1] at this
    cases this
  · rw [List.mem_append, h1.mem, h2.mem]
    constructor
    · rintro (⟨a1, a2, a3⟩ | ⟨a1, a2, a3⟩)
      · exact ⟨a1, a2, h2.mono k a3⟩
      · refine ⟨a1, ?_, a3⟩
        cases h : a.1.getD k true
        · rfl
        · rw [h1.mono k h] at a2; cases a2
    · rintro ⟨a1, a2, a3⟩
      cases h : b.1.getD k true
      · exact .inr ⟨a1, rfl, a3⟩
      · exact .inl ⟨a1, a2, rfl⟩
  · rcases List.mem_append.1 hk with hk | hk
    · exact h1.conn k hk
    · exact hij.trans (h2.conn k hk)
/-- All that is new is closed. -/
def VClosed (l : List S45) (a b : List Bool × List Int) : Prop := ∀ k, k < l.length → a.1.getD k true = false → b.1.getD k true = true → ∀ j, j < l.length → cj l k j = true → b.1.getD j true = true
theorem getD_set (s : List Bool) (i k : Nat) : (s.set i true).getD k true = if k = i then true else s.getD k true := by
  simp only [List.getD, List.getElem?_set]
  by_cases h : i = k
  · subst h
    rw [if_pos rfl, if_pos rfl]
    split <;> rfl
  · rw [if_neg h, if_neg (fun e => h e.symm)]
theorem visit_new : ∀ (f i : Nat) (st : List Bool × List Int) (n : Nat), i < l.length → st.1.getD i true = false → Vis l f n st → (∃ ns, VNew l i st (visitP l f i st) ns) ∧ VClosed l st (visitP l f i st) ∧ (visitP l f i st).1.getD i true = true := by
  intro f
  induction f with
  | zero =>
    intro i st n hi hs h
    exfalso
    have h1 := h.2.1
    have h2 := unseen_set st.1 i hs
    omega
  | succ f ih =>
    intro i st n hi hs h
    have h0 : Vis l f n (st.1.set i true, st.2 ++ [(i : Int)]) := by
      have := unseen_set st.1 i hs
      refine ⟨by simpa using h.1, ?_, ?_⟩
      · have := h.2.1; simp only []; omega
      · have := h.2.2; simp only [List.length_append, List.length_cons, List.length_nil]; omega
    have hn0 : VNew l i st (st.1.set i true, st.2 ++ [(i : Int)]) [i] := by
      refine ⟨by simp, by simp, fun k => ?_, fun k hk => ?_, fun k hk => ?_⟩
      · rw [List.mem_singleton, getD_set]
        constructor
        · rintro rfl; exact ⟨hi, hs, by simp⟩
        · rintro ⟨a1, a2, a3⟩
          by_cases e : k = i
          · exact e
          · rw [if_neg e, a2] at a3; cases a3
      · rw [getD_set]; split
        · rfl
        · exact hk
      · rw [List.mem_singleton] at hk; subst hk; exact Conn.refl _
    have h1 : ∀ (js : List Nat) (s : List Bool × List Int) (ns : List Nat), (∀ j ∈ js, j < l.length) → Vis l f n s → VNew l i st s ns → s.1.getD i true = true →
        (∀ k, k < l.length → st.1.getD k true = false → k ≠ i → s.1.getD k true = true → ∀ j, j < l.length → cj l k j = true → s.1.getD j true = true) →
        (∃ ms, VNew l i st (js.foldl (vstep l f i) s) ms) ∧ (∀ k, s.1.getD k true = true → (js.foldl (vstep l f i) s).1.getD k true = true) ∧
        (∀ k, k < l.length → st.1.getD k true = false → k ≠ i → (js.foldl (vstep l f i) s).1.getD k true = true → ∀ j, j < l.length → cj l k j = true → (js.foldl (vstep l f i) s).1.getD j true = true) ∧
        (∀ j ∈ js, cj l i j = true → (js.foldl (vstep l f i) s).1.getD j true = true) := by
      intro js
      induction js with
      | nil => intro s ns _ _ hn _ hc; exact ⟨⟨ns, hn⟩, fun _ h => h, hc, by simp⟩
      | cons j js ihj =>
        intro s ns hj hv hn hsi hc
        have hjl := hj j (by simp)
        simp only [List.foldl_cons]
        have key : ∃ ms, VNew l i st (vstep l f i s j) ms ∧ Vis l f n (vstep l f i s j) ∧ (∀ k, s.1.getD k true = true → (vstep l f i s j).1.getD k true = true) ∧
            (∀ k, k < l.length → st.1.getD k true = false → k ≠ i → (vstep l f i s j).1.getD k true = true → ∀ m, m < l.length → cj l k m = true → (vstep l f i s j).1.getD m true = true) ∧
            (cj l i j = true → (vstep l f i s j).1.getD j true = true) := by
          obtain ⟨sn, gr⟩ := s
          cases hsj : sn.getD j true
          · cases hcj : cj l i j
            · rw [vstep_apart hcj]
              exact ⟨ns, hn, hv, fun _ h => h, hc, by simp⟩
            · rw [vstep_in hsj hcj]
              obtain ⟨⟨ms, hm⟩, hcl, hself⟩ := ih j (sn, gr) n hjl hsj hv
              refine ⟨ns ++ ms, hn.trans hm (Conn.one hi hjl hcj), visit_vis l f j (sn, gr) n hjl hsj hv, hm.mono, ?_, fun _ => hself⟩
              intro k hk hk0 hki hk1 m hml hkm
              cases hks : sn.getD k true
              · exact hcl k hk hks hk1 m hml hkm
              · exact hm.mono m (hc k hk hk0 hki hks m hml hkm)
          · rw [vstep_seen hsj]
            exact ⟨ns, hn, hv, fun _ h => h, hc, fun _ => hsj⟩
        obtain ⟨ms, k1, k2, k3, k4, k5⟩ := key
        obtain ⟨r1, r2, r3, r4⟩ := ihj (vstep l f i s j) ms (fun x hx => hj x (by simp [hx])) k2 k1 (k3 i hsi) k4
        refine ⟨r1, fun k hk => r2 k (k3 k hk), r3, fun x hx hcx => ?_⟩
        rcases List.mem_cons.1 hx with rfl | hx
        · exact r2 _ (k5 hcx)
        · exact r4 x hx hcx
    obtain ⟨r1, r2, r3, r4⟩ := h1 (List.range l.length) _ _ (fun j hj => List.mem_range.1 hj) h0 hn0 (by simp only [getD_set]; simp) (fun k hk hk0 hki hk1 j hj hc => by
      simp only [getD_set] at hk1
      rw [if_neg hki, hk0] at hk1
      cases hk1)
    rw [visit_succ]
    have hself := r2 i (by simp only [getD_set]; simp)
    refine ⟨r1, fun k hk hk0 hk1 j hj hc => ?_, hself⟩
    by_cases e : k = i
    · subst e; exact r4 j (List.mem_range.2 hj) hc
    · exact r3 k hk hk0 e hk1 j hj hc
end
open Classical in
/-- The places reached from i, in their order. -/
noncomputable def compP (l : List S45) (i : Nat) : List Int := sel (fun k => decide (Conn l i k)) l.length 0
open Classical in
/-- The first of its component. -/
noncomputable def isMin (l : List S45) (i : Nat) : Bool := decide (∀ j, j < i → ¬ Conn l i j)
theorem sorted_eq (xs ys : List Int) (hn : xs.Nodup) (hy : ys.Pairwise (· < ·)) (h : ∀ x, x ∈ xs ↔ x ∈ ys) : (xs.mergeSort fun x y => decide (x ≤ y)) = ys := by
  have hp := List.mergeSort_perm xs (fun x y => decide (x ≤ y))
  have hs : (xs.mergeSort fun x y => decide (x ≤ y)).Pairwise (fun a b => decide (a ≤ b) = true) :=
    List.pairwise_mergeSort (fun a b c h1 h2 => by simp only [decide_eq_true_eq] at *; omega) (fun a b => by simp only [Bool.or_eq_true, decide_eq_true_eq]; omega) xs
  have hnd : (xs.mergeSort fun x y => decide (x ≤ y)).Nodup := hp.nodup_iff.2 hn
  refine rise_ext _ _ ?_ hy (fun x => by rw [hp.mem_iff]; exact h x)
  have := List.Pairwise.and hs (List.nodup_iff_pairwise_ne.1 hnd)
  refine this.imp (fun {a b} hab => ?_)
  have h1 : a ≤ b := by simpa using hab.1
  have h2 := hab.2
  omega
open Classical in
theorem parts_eq (l : List S45) : partsP l = ((List.range l.length).filter (isMin l)).map (compP l) := by
  have h : ∀ m, m ≤ l.length → ∃ sn, (List.range m).foldl (partsStep l) (List.replicate l.length false, []) = (sn, ((List.range m).filter (isMin l)).map (compP l)) ∧ sn.length = l.length ∧ ∀ k, k < l.length → (sn.getD k true = true ↔ ∃ i, i < m ∧ Conn l i k) := by
    intro m
    induction m with
    | zero =>
      intro _
      refine ⟨List.replicate l.length false, rfl, by simp, fun k hk => ?_⟩
      constructor
      · intro h; simp [List.getD, List.getElem?_replicate, hk] at h
      · rintro ⟨i, hi, _⟩; omega
    | succ m ih =>
      intro hm
      obtain ⟨sn, h1, h2, h3⟩ := ih (by omega)
      rw [List.range_succ, List.foldl_append, h1, List.filter_append, List.map_append]
      simp only [List.foldl_cons, List.foldl_nil]
      cases hs : sn.getD m true
      · have hmin : isMin l m = true := by
          unfold isMin
          rw [decide_eq_true_eq]
          intro j hj hc
          have := (h3 m (by omega)).2 ⟨j, hj, hc.symm⟩
          rw [hs] at this
          cases this
        have hv : Vis l l.length (unseen sn) (sn, []) := ⟨h2, by have := unseen_le sn; simp only []; omega, by simp⟩
        obtain ⟨⟨ns, hn⟩, hcl, hself⟩ := visit_new l.length m (sn, []) (unseen sn) (by omega) hs hv
        have hv2 := visit_vis l l.length m (sn, []) (unseen sn) (by omega) hs hv
        have hstep : partsStep l (sn, ((List.range m).filter (isMin l)).map (compP l)) m = ((visitP l l.length m (sn, [])).1, ((List.range m).filter (isMin l)).map (compP l) ++ [(visitP l l.length m (sn, [])).2.mergeSort fun x y => decide (x ≤ y)]) := by
          unfold partsStep; rw [show (sn, ((List.range m).filter (isMin l)).map (compP l)).1 = sn from rfl, hs]; rfl
        generalize visitP l l.length m (sn, []) = r at *
        have hmem : ∀ k, k < l.length → (k ∈ ns ↔ Conn l m k) := by
          intro k hk
          constructor
          · exact hn.conn k
          · intro hc
            have hu : sn.getD k true = false := by
              cases hsk : sn.getD k true
              · rfl
              · obtain ⟨i, hi, hik⟩ := (h3 k hk).1 hsk
                have := (h3 m (by omega)).2 ⟨i, hi, hik.trans hc.symm⟩
                rw [hs] at this
                cases this
            refine (hn.mem k).2 ⟨hk, hu, hc (fun x => r.1.getD x true = true) hself (fun a b ha hb hra hab => ?_)⟩
            cases hsa : sn.getD a true
            · exact hcl a ha hsa hra b hb hab
            · obtain ⟨i, hi, hia⟩ := (h3 a ha).1 hsa
              exact hn.mono b ((h3 b hb).2 ⟨i, hi, hia.trans (Conn.one ha hb hab)⟩)
        have hsort : (r.2.mergeSort fun x y => decide (x ≤ y)) = compP l m := by
          refine sorted_eq _ _ ?_ (rise_sel _ _ _) (fun x => ?_)
          · rw [hn.grp]
            simp only [List.nil_append]
            rw [List.nodup_iff_pairwise_ne, List.pairwise_map]
            exact (List.nodup_iff_pairwise_ne.1 hn.nodup).imp (fun h e => h (by omega))
          · unfold compP
            rw [hn.grp, mem_sel0]
            simp only [List.nil_append, List.mem_map, decide_eq_true_eq]
            constructor
            · rintro ⟨k, hk, rfl⟩
              have hkl := ((hn.mem k).1 hk).1
              exact ⟨k, hkl, (hmem k hkl).1 hk, rfl⟩
            · rintro ⟨k, hk, hc, rfl⟩
              exact ⟨k, (hmem k hk).2 hc, rfl⟩
        refine ⟨r.1, by rw [hstep, hsort]; simp [hmin], hv2.1, fun k hk => ?_⟩
        constructor
        · intro hrk
          cases hsk : sn.getD k true
          · exact ⟨m, by omega, hn.conn k ((hn.mem k).2 ⟨hk, hsk, hrk⟩)⟩
          · obtain ⟨i, hi, hik⟩ := (h3 k hk).1 hsk
            exact ⟨i, by omega, hik⟩
        · rintro ⟨i, hi, hik⟩
          by_cases e : i = m
          · subst e; exact ((hn.mem k).1 ((hmem k hk).2 hik)).2.2
          · exact hn.mono k ((h3 k hk).2 ⟨i, by omega, hik⟩)
      · obtain ⟨i, hi, him⟩ := (h3 m (by omega)).1 hs
        have hmin : isMin l m = false := by
          unfold isMin
          rw [decide_eq_false_iff_not]
          exact fun h => h i hi him.symm
        refine ⟨sn, by unfold partsStep; rw [show (sn, ((List.range m).filter (isMin l)).map (compP l)).1 = sn from rfl, hs]; simp [hmin], h2, fun k hk => ?_⟩
        rw [h3 k hk]
        constructor
        · rintro ⟨j, hj, hjk⟩; exact ⟨j, by omega, hjk⟩
        · rintro ⟨j, hj, hjk⟩
          by_cases e : j = m
          · subst e; exact ⟨i, hi, him.trans hjk⟩
          · exact ⟨j, by omega, hjk⟩
  obtain ⟨sn, h1, _⟩ := h l.length (Nat.le_refl _)
  unfold partsP
  rw [h1]
end Go.Proofs.Ytecbfpcidoilmaa.H

/- The best choice, group by group; what Reduce leaves. Plain. -/
namespace Go.Proofs.Ytecbfpcidoilmaa.H
open Go.RowKit
set_option linter.unusedVariables false
set_option linter.unusedSimpArgs false
section
variable {l : List S45}
theorem valB_or (p q : Nat → Bool) (h : ∀ k, k < l.length → p k = true → q k = true → False) : valB l (fun k => p k || q k) = valB l p + valB l q := by
  unfold valB
  rw [← sumF_add]
  refine sumF_congr _ _ _ _ (fun k _ hk => ?_)
  have hk' : k < l.length := by omega
  have h' := h k hk'
  show (if (p k || q k) = true then prc l k else 0) = (if p k = true then prc l k else 0) + (if q k = true then prc l k else 0)
  cases hp : p k <;> cases hq : q k
  · simp
  · simp
  · simp
  · exact (h' hp hq).elim
theorem valB_congr (p q : Nat → Bool) (h : ∀ k, k < l.length → p k = q k) : valB l p = valB l q := by
  unfold valB
  exact sumF_congr _ _ _ _ (fun k _ hk => by rw [h k (by omega)])
theorem valB_one (a : Nat) (ha : a < l.length) : valB l (fun k => k == a) = prc l a := by
  unfold valB
  rw [sumF_one (fun k => if (k == a) = true then prc l k else 0) a l.length 0 (by omega) (by omega) (fun k _ _ hk => by rw [if_neg (by simpa using hk)])]
  simp
/-- A set with one place taken out. -/
theorem valB_without (p : Nat → Bool) (a : Nat) (ha : a < l.length) (hp : p a = true) : valB l p = valB l (fun k => p k && k != a) + prc l a := by
  have h1 := valB_or (l := l) (fun k => p k && k != a) (fun k => k == a) (fun k _ h1 h2 => by
    have h3 : (p k && k != a) = true := h1
    have h4 : (k == a) = true := h2
    simp only [Bool.and_eq_true, bne_iff_ne, beq_iff_eq] at h3 h4
    exact h3.2 h4)
  rw [valB_one a ha] at h1
  rw [← h1]
  refine valB_congr _ _ (fun k _ => ?_)
  show p k = (p k && k != a || k == a)
  by_cases e : k = a
  · subst e; simp [hp]
  · cases p k <;> simp [e]
theorem cj_bidder {a b : Nat} (h : cj l a b = false) : (l.getD a z45).f0 ≠ (l.getD b z45).f0 := by
  unfold cj conf at h
  simp only [Bool.or_eq_false_iff, beq_eq_false_iff_ne] at h
  exact h.1
end
/-- The bids at some places. -/
def partL (l : List S45) (g : List Int) : List S45 := g.map fun k => l.getD k.toNat z45
/-- A set of places of a part, as places of the whole. -/
def lift (g : List Int) (r : Nat → Bool) (k : Nat) : Bool := (List.range g.length).any fun j => g.getD j 0 == (k : Int) && r j
theorem lift_iff (g : List Int) (r : Nat → Bool) (k : Nat) : lift g r k = true ↔ ∃ j, j < g.length ∧ g.getD j 0 = (k : Int) ∧ r j = true := by
  unfold lift
  rw [List.any_eq_true]
  constructor
  · rintro ⟨j, hj, h⟩
    rw [Bool.and_eq_true, beq_iff_eq] at h
    exact ⟨j, List.mem_range.1 hj, h⟩
  · rintro ⟨j, hj, h⟩
    exact ⟨j, List.mem_range.2 hj, by rw [Bool.and_eq_true, beq_iff_eq]; exact h⟩
theorem g_at {g : List Int} (j : Nat) (hj : j < g.length) : g.getD j 0 ∈ g := by simp [List.getD, hj]
theorem g_mono {g : List Int} (hr : g.Pairwise (· < ·)) (i j : Nat) (hij : i < j) (hj : j < g.length) : g.getD i 0 < g.getD j 0 := by
  have := List.pairwise_iff_getElem.1 hr i j (by omega) hj hij
  simpa [List.getD, hj, show i < g.length by omega] using this
theorem part_at {l : List S45} {g : List Int} (j : Nat) (hj : j < g.length) : (partL l g).getD j z45 = l.getD (g.getD j 0).toNat z45 := by
  unfold partL
  simp [List.getD, hj]
theorem g_inj {g : List Int} (hr : g.Pairwise (· < ·)) (i j : Nat) (hi : i < g.length) (hj : j < g.length) (h : g.getD i 0 = g.getD j 0) : i = j := by
  rcases Nat.lt_trichotomy i j with c | c | c
  · have := g_mono hr i j c hj; omega
  · exact c
  · have := g_mono hr j i c hi; omega
theorem lift_mem {g : List Int} (r : Nat → Bool) (k : Nat) (h : lift g r k = true) : (k : Int) ∈ g := by
  obtain ⟨j, hj, h1, _⟩ := (lift_iff g r k).1 h
  rw [← h1]
  exact g_at j hj
section
variable {l : List S45} {g : List Int} (hr : g.Pairwise (· < ·)) (hg : ∀ k ∈ g, 0 ≤ k ∧ k < l.length)
include hr hg
theorem lift_at (r : Nat → Bool) (j : Nat) (hj : j < g.length) : lift g r (g.getD j 0).toNat = r j := by
  have h0 := hg _ (g_at j hj)
  cases h : r j
  · rw [Bool.eq_false_iff]
    intro h2
    obtain ⟨i, hi, h3, h4⟩ := (lift_iff g r _).1 h2
    have := g_inj hr i j hi hj (by omega)
    rw [this, h] at h4
    cases h4
  · exact (lift_iff g r _).2 ⟨j, hj, by omega, h⟩
theorem sel_lift (r : Nat → Bool) : sel (lift g r) l.length 0 = (sel r g.length 0).map fun j => g.getD j.toNat 0 := by
  refine rise_ext _ _ (rise_sel _ _ _) ?_ (fun x => ?_)
  · rw [List.pairwise_map]
    refine (rise_sel r g.length 0).imp_of_mem (fun {a b} ha hb hab => ?_)
    obtain ⟨i, hi, _, rfl⟩ := (mem_sel0 r _ a).1 ha
    obtain ⟨j, hj, _, rfl⟩ := (mem_sel0 r _ b).1 hb
    exact g_mono hr i j (by omega) hj
  · rw [mem_sel0, List.mem_map]
    constructor
    · rintro ⟨k, hk, h, rfl⟩
      obtain ⟨j, hj, h1, h2⟩ := (lift_iff g r k).1 h
      exact ⟨(j : Int), (mem_sel0 r _ _).2 ⟨j, hj, h2, rfl⟩, h1⟩
    · rintro ⟨a, ha, rfl⟩
      obtain ⟨j, hj, h2, rfl⟩ := (mem_sel0 r _ a).1 ha
      have h0 := hg _ (g_at j hj)
      rw [Int.toNat_natCast]
      refine ⟨(g.getD j 0).toNat, by omega, by rw [lift_at hr hg r j hj]; exact h2, by omega⟩
theorem part_val (r : Nat → Bool) : valB l (lift g r) = valB (partL l g) r := by
  have hl : (partL l g).length = g.length := by simp [partL]
  rw [← valB_sel, ← valB_sel, sel_lift hr hg, hl]
  unfold valP
  rw [List.map_map]
  congr 1
  refine List.map_congr_left (fun a ha => ?_)
  obtain ⟨j, hj, _, rfl⟩ := (mem_sel0 r _ a).1 ha
  show (l.getD (g.getD (j : Int).toNat 0).toNat z45).f1 = ((partL l g).getD (j : Int).toNat z45).f1
  rw [Int.toNat_natCast, part_at j hj]
/-- The best choice of a group: the best choice's places in the group. -/
theorem group_best (p : Nat → Bool) (hb : IsBest (fun _ => true) l p) (hc : (∀ a b, a < l.length → b < l.length → (a : Int) ∈ g → ¬ (b : Int) ∈ g → cj l a b = false) ∨ ∀ k, k < l.length → p k = true → (k : Int) ∈ g) :
    IsBest (fun _ => true) (partL l g) (fun j => p (g.getD j 0).toNat) := by
  have hl : (partL l g).length = g.length := by simp [partL]
  have hcj : ∀ i j, i < g.length → j < g.length → cj (partL l g) i j = cj l (g.getD i 0).toNat (g.getD j 0).toNat := fun i j hi hj => by
    unfold cj
    rw [part_at i hi, part_at j hj]
  have hlt : ∀ j, j < g.length → (g.getD j 0).toNat < l.length ∧ 0 ≤ g.getD j 0 := fun j hj => by
    have := hg _ (g_at j hj)
    omega
  have hne : ∀ i j, i < g.length → j < g.length → i ≠ j → (g.getD i 0).toNat ≠ (g.getD j 0).toNat := fun i j hi hj hij e => hij (g_inj hr i j hi hj (by have := hlt i hi; have := hlt j hj; omega))
  -- a choice of the part, put in place of the best one's
  have key : ∀ r, FeasU (fun _ => true) (partL l g) r → FeasU (fun _ => true) l (fun k => lift g r k || p k && !decide ((k : Int) ∈ g)) := by
    intro r hf
    refine ⟨fun _ _ _ => rfl, fun a b ha hb' hab h1 h2 => ?_⟩
    simp only [Bool.or_eq_true, Bool.and_eq_true, Bool.not_eq_true', decide_eq_false_iff_not] at h1 h2
    have inL : ∀ a b, lift g r a = true → lift g r b = true → a ≠ b → cj l a b = false := by
      intro a b h1 h2 hab
      obtain ⟨i, hi, e1, r1⟩ := (lift_iff g r a).1 h1
      obtain ⟨j, hj, e2, r2⟩ := (lift_iff g r b).1 h2
      have hij : i ≠ j := fun e => hab (by rw [e, e2] at e1; omega)
      have := hf.2 i j (by omega) (by omega) hij r1 r2
      rw [hcj i j hi hj, e1, e2] at this
      exact this
    have cross : ∀ a b, a < l.length → b < l.length → lift g r a = true → p b = true → ¬ (b : Int) ∈ g → cj l a b = false := by
      intro a b ha hb' h1 h2 h3
      rcases hc with hc | hc
      · exact hc a b ha hb' (lift_mem r a h1) h3
      · exact absurd (hc b hb' h2) h3
    rcases h1 with h1 | h1
    · rcases h2 with h2 | h2
      · exact inL a b h1 h2 hab
      · exact cross a b ha hb' h1 h2.1 h2.2
    · rcases h2 with h2 | h2
      · rw [cj_comm]; exact cross b a hb' ha h2 h1.1 h1.2
      · exact hb.feas.2 a b ha hb' hab h1.1 h2.1
  have hval : ∀ r, valB l (fun k => lift g r k || p k && !decide ((k : Int) ∈ g)) = valB (partL l g) r + valB l (fun k => p k && !decide ((k : Int) ∈ g)) := by
    intro r
    rw [valB_or (l := l) (lift g r) (fun k => p k && !decide ((k : Int) ∈ g)) (fun k _ h1 h2 => by
      have h3 : (p k && !decide ((k : Int) ∈ g)) = true := h2
      simp only [Bool.and_eq_true, Bool.not_eq_true', decide_eq_false_iff_not] at h3
      exact h3.2 (lift_mem r k h1)), part_val hr hg]
  have hself : ∀ k, k < l.length → (lift g (fun j => p (g.getD j 0).toNat) k || p k && !decide ((k : Int) ∈ g)) = p k := by
    intro k hk
    by_cases hm : (k : Int) ∈ g
    · obtain ⟨j, hj, e⟩ := List.getElem_of_mem hm
      have e2 : g.getD j 0 = (k : Int) := by simpa [List.getD, hj] using e
      have := lift_at hr hg (fun j => p (g.getD j 0).toNat) j hj
      rw [e2, Int.toNat_natCast] at this
      rw [this]
      simp [hm]
    · have : lift g (fun j => p (g.getD j 0).toNat) k = false := by
        rw [Bool.eq_false_iff]
        exact fun h => hm (lift_mem _ k h)
      rw [this]
      simp [hm]
  have hpv : valB l p = valB (partL l g) (fun j => p (g.getD j 0).toNat) + valB l (fun k => p k && !decide ((k : Int) ∈ g)) := by
    rw [← hval]
    exact valB_congr _ _ (fun k hk => (hself k hk).symm)
  refine ⟨⟨fun _ _ _ => rfl, fun a b ha hb' hab h1 h2 => ?_⟩, fun r hf => ?_, fun r hf he hd => ?_⟩
  · rw [hl] at ha hb'
    rw [hcj a b ha hb']
    exact hb.feas.2 _ _ (hlt a ha).1 (hlt b hb').1 (hne a b ha hb' hab) h1 h2
  · have := hb.max _ (key r hf)
    rw [hval, hpv] at this
    omega
  · obtain ⟨d, h1, h2, h3, h4⟩ := hd
    rw [hl] at h1
    refine hb.first _ (key r hf) (by rw [hval, hpv, he]) ⟨(g.getD d 0).toNat, (hlt d h1).1, ?_, h3, fun x hx => ?_⟩
    · simp only [lift_at hr hg r d h1, h2, Bool.true_or]
    · show (lift g r x || p x && !decide ((x : Int) ∈ g)) = p x
      by_cases hm : (x : Int) ∈ g
      · obtain ⟨j, hj, e⟩ := List.getElem_of_mem hm
        have e2 : g.getD j 0 = (x : Int) := by simpa [List.getD, hj] using e
        have hjd : j < d := by
          rcases Nat.lt_trichotomy j d with c | c | c
          · exact c
          · subst c; have := hlt j hj; omega
          · have := g_mono hr d j c hj; have := hlt d h1; omega
        have h5 := lift_at hr hg r j hj
        rw [e2, Int.toNat_natCast] at h5
        have h6 : r j = p (g.getD j 0).toNat := h4 j hjd
        rw [e2, Int.toNat_natCast] at h6
        rw [h5, h6]
        simp [hm]
      · have : lift g r x = false := by
          rw [Bool.eq_false_iff]
          exact fun h => hm (lift_mem _ x h)
        rw [this]
        simp [hm]
/-- .. and as a list. -/
theorem group_list (p : Nat → Bool) : (sel (fun j => p (g.getD j 0).toNat) g.length 0).map (fun j => g.getD j.toNat 0) = (sel p l.length 0).filter (fun k => g.contains k) := by
  rw [← sel_lift hr hg]
  refine rise_ext _ _ (rise_sel _ _ _) ((rise_sel p l.length 0).filter _) (fun x => ?_)
  rw [mem_sel0, List.mem_filter, mem_sel0]
  constructor
  · rintro ⟨k, hk, h, rfl⟩
    obtain ⟨j, hj, h1, h2⟩ := (lift_iff g _ k).1 h
    rw [h1, Int.toNat_natCast] at h2
    exact ⟨⟨k, hk, h2, rfl⟩, by simpa using lift_mem _ k h⟩
  · rintro ⟨⟨k, hk, h, rfl⟩, hm⟩
    have hm' : (k : Int) ∈ g := by simpa using hm
    obtain ⟨j, hj, e⟩ := List.getElem_of_mem hm'
    have e2 : g.getD j 0 = (k : Int) := by simpa [List.getD, hj] using e
    exact ⟨k, hk, (lift_iff g _ k).2 ⟨j, hj, e2, by rw [e2, Int.toNat_natCast]; exact h⟩, rfl⟩
theorem group_val (p : Nat → Bool) : valB (partL l g) (fun j => p (g.getD j 0).toNat) = valB l (fun k => p k && decide ((k : Int) ∈ g)) := by
  rw [← part_val hr hg]
  refine valB_congr _ _ (fun k hk => ?_)
  rw [Bool.eq_iff_iff, lift_iff, Bool.and_eq_true, decide_eq_true_eq]
  constructor
  · rintro ⟨j, hj, h1, h2⟩
    rw [h1, Int.toNat_natCast] at h2
    exact ⟨h2, by rw [← h1]; exact g_at j hj⟩
  · rintro ⟨h, hm⟩
    obtain ⟨j, hj, e⟩ := List.getElem_of_mem hm
    have e2 : g.getD j 0 = (k : Int) := by simpa [List.getD, hj] using e
    exact ⟨j, hj, e2, by rw [e2, Int.toNat_natCast]; exact h⟩
end
/-! ### the groups of Parts -/
theorem part_mem (l : List S45) (g : List Int) (hg : g ∈ partsP l) : ∃ i, i < l.length ∧ isMin l i = true ∧ g = compP l i := by
  rw [parts_eq] at hg
  obtain ⟨i, hi, e⟩ := List.mem_map.1 hg
  obtain ⟨h1, h2⟩ := List.mem_filter.1 hi
  exact ⟨i, List.mem_range.1 h1, h2, e.symm⟩
theorem mem_comp (l : List S45) (i : Nat) (x : Int) : x ∈ compP l i ↔ ∃ k, k < l.length ∧ Conn l i k ∧ x = (k : Int) := by
  unfold compP
  rw [mem_sel0]
  simp only [decide_eq_true_eq]
theorem part_rise (l : List S45) (g : List Int) (hg : g ∈ partsP l) : g.Pairwise (· < ·) := by
  obtain ⟨i, hi, _, rfl⟩ := part_mem l g hg
  exact rise_sel _ _ _
theorem part_range (l : List S45) (g : List Int) (hg : g ∈ partsP l) : ∀ x ∈ g, 0 ≤ x ∧ x < l.length := by
  obtain ⟨i, hi, _, rfl⟩ := part_mem l g hg
  intro x hx
  obtain ⟨k, hk, _, rfl⟩ := (mem_comp l i x).1 hx
  omega
theorem part_apart (l : List S45) (g : List Int) (hg : g ∈ partsP l) (a b : Nat) (ha : a < l.length) (hb : b < l.length) (h1 : (a : Int) ∈ g) (h2 : ¬ (b : Int) ∈ g) : cj l a b = false := by
  obtain ⟨i, hi, _, rfl⟩ := part_mem l g hg
  obtain ⟨k, hk, hc, e⟩ := (mem_comp l i _).1 h1
  have : a = k := by omega
  subst this
  cases h : cj l a b
  · rfl
  · exact absurd ((mem_comp l i _).2 ⟨b, hb, hc.trans (Conn.one ha hb h), rfl⟩) h2
open Classical in
theorem isMin_iff (l : List S45) (i : Nat) : isMin l i = true ↔ ∀ j, j < i → ¬ Conn l i j := by
  unfold isMin
  exact decide_eq_true_iff
theorem parts_disjoint (l : List S45) : (partsP l).Pairwise (fun g h => ∀ x, x ∈ g → ¬ x ∈ h) := by
  rw [parts_eq, List.pairwise_map]
  have h1 : ((List.range l.length).filter (isMin l)).Pairwise (· < ·) := List.pairwise_lt_range.filter _
  refine h1.imp_of_mem (fun {a b} ha hb hab x hx hy => ?_)
  obtain ⟨k, hk, hc, rfl⟩ := (mem_comp l a x).1 hx
  obtain ⟨k', hk', hc', e⟩ := (mem_comp l b _).1 hy
  have : k = k' := by omega
  subst this
  have hm := (isMin_iff l b).1 (List.mem_filter.1 hb).2
  exact hm a hab (hc'.trans hc.symm)
theorem min_of (l : List S45) : ∀ k, ∃ i, i ≤ k ∧ isMin l i = true ∧ Conn l i k := by
  intro k
  induction k using Nat.strongRecOn with
  | ind k ih =>
    cases h : isMin l k
    · have h' : ¬ ∀ j, j < k → ¬ Conn l k j := fun h2 => by rw [(isMin_iff l k).2 h2] at h; cases h
      simp only [Classical.not_forall, Classical.not_not] at h'
      obtain ⟨j, hj, hc⟩ := h'
      obtain ⟨i, h1, h2, h3⟩ := ih j hj
      exact ⟨i, by omega, h2, h3.trans hc.symm⟩
    · exact ⟨k, Nat.le_refl _, h, Conn.refl k⟩
theorem parts_cover (l : List S45) (k : Nat) (hk : k < l.length) : ∃ g ∈ partsP l, (k : Int) ∈ g := by
  obtain ⟨i, h1, h2, h3⟩ := min_of l k
  refine ⟨compP l i, ?_, (mem_comp l i _).2 ⟨k, hk, h3, rfl⟩⟩
  rw [parts_eq]
  exact List.mem_map.2 ⟨i, List.mem_filter.2 ⟨List.mem_range.2 (by omega), h2⟩, rfl⟩
theorem parts_len (l : List S45) : (partsP l).length ≤ l.length := by
  rw [parts_eq, List.length_map]
  have := List.length_filter_le (isMin l) (List.range l.length)
  simpa using this
/-- The groups' values together. -/
theorem groups_sum (l : List S45) (p : Nat → Bool) : ∀ G : List (List Int), G.Pairwise (fun g h => ∀ x, x ∈ g → ¬ x ∈ h) →
    (G.map fun g => valB l (fun k => p k && decide ((k : Int) ∈ g))).sum = valB l (fun k => p k && G.any fun g => decide ((k : Int) ∈ g))
  | [], _ => by
    simp only [List.map_nil, List.sum_nil, List.any_nil, Bool.and_false]
    unfold valB
    exact (sumF_zero _ _ _ (fun k _ _ => by simp)).symm
  | g :: G, h => by
    obtain ⟨h1, h2⟩ := List.pairwise_cons.1 h
    have ih := groups_sum l p G h2
    rw [List.map_cons, List.sum_cons, ih, ← valB_or (l := l) (fun k => p k && decide ((k : Int) ∈ g)) (fun k => p k && G.any fun g => decide ((k : Int) ∈ g)) (fun k _ a b => by
      have a' : (p k && decide ((k : Int) ∈ g)) = true := a
      have b' : (p k && G.any fun g => decide ((k : Int) ∈ g)) = true := b
      simp only [Bool.and_eq_true, decide_eq_true_eq, List.any_eq_true] at a' b'
      obtain ⟨_, x, hx, hm⟩ := b'
      exact h1 x hx _ a'.2 hm)]
    refine valB_congr _ _ (fun k _ => ?_)
    rw [List.any_cons]
    cases p k <;> simp
theorem parts_sum (l : List S45) (p : Nat → Bool) : ((partsP l).map fun g => valB l (fun k => p k && decide ((k : Int) ∈ g))).sum = valB l p := by
  rw [groups_sum l p _ (parts_disjoint l)]
  refine valB_congr _ _ (fun k hk => ?_)
  have : ((partsP l).any fun g => decide ((k : Int) ∈ g)) = true := by
    obtain ⟨g, h1, h2⟩ := parts_cover l k hk
    exact List.any_eq_true.2 ⟨g, h1, by simpa using h2⟩
  rw [this, Bool.and_true]
/-! ### Reduce -/
def reduceP (l : List S45) : List Int := sel (fun i => !(List.range l.length).any fun j => uselessP l (i : Int) (j : Int)) l.length 0
theorem useless_iff (l : List S45) (i j : Nat) : uselessP l (i : Int) (j : Int) = true ↔ i ≠ j ∧ (l.getD i z45).f0 = (l.getD j z45).f0 ∧ prc l i ≤ prc l j ∧ (prc l j = prc l i → j < i) ∧ ∀ x ∈ (l.getD j z45).f2, x ∈ (l.getD i z45).f2 := by
  unfold uselessP
  simp only [Int.toNat_natCast]
  have e1 : ((i : Int) == (j : Int)) = (i == j) := by rw [Bool.eq_iff_iff, beq_iff_eq, beq_iff_eq]; omega
  rw [e1]
  show _ ↔ i ≠ j ∧ _ ∧ (l.getD i z45).f1 ≤ (l.getD j z45).f1 ∧ ((l.getD j z45).f1 = (l.getD i z45).f1 → j < i) ∧ _
  simp only [Bool.and_eq_true, Bool.not_eq_true', Bool.or_eq_false_iff, beq_eq_false_iff_ne, bne_eq_false_iff_eq, decide_eq_false_iff_not, List.any_eq_false, Bool.and_eq_false_iff]
  constructor
  · rintro ⟨⟨⟨⟨h1, h2⟩, h3⟩, h4⟩, h5⟩
    refine ⟨h1, h2, by omega, fun e => ?_, fun x hx => ?_⟩
    · rcases h4 with h4 | h4
      · exact absurd e h4
      · omega
    · have := h5 x hx
      simpa using this
  · rintro ⟨h1, h2, h3, h4, h5⟩
    refine ⟨⟨⟨⟨h1, h2⟩, by omega⟩, ?_⟩, fun x hx => ?_⟩
    · by_cases e : (l.getD j z45).f1 = (l.getD i z45).f1
      · have := h4 e
        exact .inr (by omega)
      · exact .inl e
    · have := h5 x hx
      simpa using this
/-- A useless bid exchanged. -/
theorem exchange_feas (l : List S45) (p : Nat → Bool) (hf : FeasU (fun _ => true) l p) (i j : Nat) (hi : i < l.length) (hj : j < l.length) (hp : p i = true) (hu : uselessP l (i : Int) (j : Int) = true) :
    FeasU (fun _ => true) l (fun k => p k && k != i || k == j) ∧ p j = false ∧ valB l (fun k => p k && k != i || k == j) = valB l p - prc l i + prc l j := by
  obtain ⟨h1, h2, h3, h4, h5⟩ := (useless_iff l i j).1 hu
  have hpj : p j = false := by
    cases h : p j
    · rfl
    · exact absurd h2 (cj_bidder (hf.2 i j hi hj h1 hp h))
  have hc : ∀ x, x < l.length → x ≠ i → p x = true → cj l x j = false := by
    intro x hx hxi hpx
    have h6 := hf.2 x i hx hi hxi hpx hp
    unfold cj conf at h6 ⊢
    simp only [Bool.or_eq_false_iff, beq_eq_false_iff_ne, List.any_eq_false] at h6 ⊢
    refine ⟨by rw [← h2]; exact h6.1, fun y hy => h6.2 y (h5 y hy)⟩
  refine ⟨⟨fun _ _ _ => rfl, fun a b ha hb hab ha' hb' => ?_⟩, hpj, ?_⟩
  · simp only [Bool.or_eq_true, Bool.and_eq_true, bne_iff_ne, beq_iff_eq] at ha' hb'
    rcases ha' with ⟨a1, a2⟩ | rfl
    · rcases hb' with ⟨b1, b2⟩ | rfl
      · exact hf.2 a b ha hb hab a1 b1
      · exact hc a ha a2 a1
    · rcases hb' with ⟨b1, b2⟩ | rfl
      · rw [cj_comm]; exact hc b hb b2 b1
      · exact absurd rfl hab
  · rw [valB_or (l := l) (fun k => p k && k != i) (fun k => k == j) (fun k _ a b => by
      have a' : (p k && k != i) = true := a
      have b' : (k == j) = true := b
      simp only [Bool.and_eq_true, beq_iff_eq] at a' b'
      rw [b', hpj] at a'
      cases a'.1), valB_one j hj, valB_without p i hi hp]
    omega
theorem best_reduced (l : List S45) (p : Nat → Bool) (hb : IsBest (fun _ => true) l p) (k : Nat) (hk : k < l.length) (hp : p k = true) : (k : Int) ∈ reduceP l := by
  unfold reduceP
  rw [mem_sel0]
  refine ⟨k, hk, ?_, rfl⟩
  rw [Bool.not_eq_true', List.any_eq_false]
  intro j hj hu
  have hj := List.mem_range.1 hj
  obtain ⟨h1, h2, h3, h4, h5⟩ := (useless_iff l k j).1 hu
  obtain ⟨f1, f2, f3⟩ := exchange_feas l p hb.feas k j hk hj hp hu
  have hm := hb.max _ f1
  rw [f3] at hm
  have he : prc l j = prc l k := by omega
  have hjk := h4 he
  refine hb.first _ f1 (by rw [f3]; omega) ⟨j, hj, by simp, f2, fun x hx => ?_⟩
  have e1 : (x != k) = true := by rw [bne_iff_ne]; omega
  have e2 : (x == j) = false := by rw [beq_eq_false_iff_ne]; omega
  show (p x && x != k || x == j) = p x
  rw [e1, e2, Bool.and_true, Bool.or_false]
theorem reduce_range (l : List S45) : ∀ x ∈ reduceP l, 0 ≤ x ∧ x < l.length := by
  intro x hx
  obtain ⟨k, hk, _, rfl⟩ := (mem_sel0 _ _ _).1 hx
  omega
end Go.Proofs.Ytecbfpcidoilmaa.H

/- What Reduce computes. Plain. -/
namespace Go.Proofs.Ytecbfpcidoilmaa.H
open Go.RowKit Go.Proofs.YtecbfpcidoilmaaW.PrintWords Go.Proofs.YtecbfpcidoilmaaW.PrintLast
set_option linter.unusedVariables false
set_option linter.unusedSimpArgs false
theorem reduce_l1 (l : List S45) (hl : l.length ≤ 1000) (acc : List Int) (hacc : acc.length ≤ 1000) (i : Nat) (hi : i < l.length) (r : List Int) :
    ∀ (d j : Nat) (b : Bool), j + d = l.length → (if (b || (List.range' j d).any fun m => uselessP l (i : Int) (m : Int)) = true then Ev (fun k => bids_Reduce.l0 k l acc (l.length : Int) ((i + 1 : Nat) : Int)) r else Ev (fun k => bids_Reduce.l0 k l (acc ++ [(i : Int)]) (l.length : Int) ((i + 1 : Nat) : Int)) r) →
      Ev (fun k => bids_Reduce.l1 k l acc (i : Int) b (l.length : Int) (i : Int) (l.length : Int) (j : Int)) r := by
  have hwi : wrap64 ((i : Int) + 1) = ((i + 1 : Nat) : Int) := by rw [w64 _ (by omega) (by omega)]; omega
  intro d
  induction d with
  | zero =>
    intro j b hj h
    have hj1 : ¬ (j : Int) < (l.length : Int) := by omega
    have ha : acc.length < 17592186044416 := by omega
    simp only [List.range'_zero, List.any_nil, Bool.or_false] at h
    refine Ev.succ ?_
    simp only [bids_Reduce.l1, if_neg hj1, hwi, if_pos ha]
    cases b
    · simp only [Bool.false_eq_true, if_false] at h ⊢; exact h
    · simp only [if_true] at h ⊢; exact h
  | succ d ih =>
    intro j b hj h
    have hj1 : (j : Int) < (l.length : Int) := by omega
    have hwj : wrap64 ((j : Int) + 1) = ((j + 1 : Nat) : Int) := by rw [w64 _ (by omega) (by omega)]; omega
    have hin : 0 ≤ (i : Int) ∧ (i : Int) < l.length ∧ 0 ≤ (j : Int) ∧ (j : Int) < l.length := by omega
    rw [List.range'_succ, List.any_cons] at h
    refine Ev.succ ?_
    simp only [bids_Reduce.l1, if_pos hj1, hwj, bids_useless.f, if_pos hin, Option.bind_some]
    cases b
    · simp only [Bool.false_eq_true, if_false]
      rw [Bool.false_or] at h
      exact ih (j + 1) _ (by omega) h
    · simp only [if_true]
      rw [Bool.true_or] at h
      exact ih (j + 1) true (by omega) (by rw [Bool.true_or]; exact h)
theorem reduce_ok (l : List S45) (hl : l.length ≤ 1000) : Ev (fun k => bids_Reduce.f k l) (reduceP l) := by
  have h : ∀ (d i : Nat) (acc : List Int), i + d = l.length → acc.length ≤ i → Ev (fun k => bids_Reduce.l0 k l acc (l.length : Int) (i : Int)) (acc ++ sel (fun i => !(List.range l.length).any fun j => uselessP l (i : Int) (j : Int)) d i) := by
    intro d
    induction d with
    | zero =>
      intro i acc hi ha
      have hi1 : ¬ (i : Int) < (l.length : Int) := by omega
      refine Ev.succ ?_
      simp only [bids_Reduce.l0, if_neg hi1, sel, List.append_nil]
      exact Ev.some_
    | succ d ih =>
      intro i acc hi ha
      have hi1 : (i : Int) < (l.length : Int) := by omega
      refine Ev.succ ?_
      simp only [bids_Reduce.l0, if_pos hi1]
      refine reduce_l1 l hl acc (by omega) i (by omega) _ l.length 0 false (by omega) ?_
      rw [Bool.false_or, ← List.range_eq_range']
      unfold sel
      cases hu : (List.range l.length).any fun m => uselessP l (i : Int) (m : Int)
      · rw [if_neg (by simp), if_pos (by simp)]
        have := ih (i + 1) (acc ++ [(i : Int)]) (by omega) (by simp; omega)
        rwa [List.append_assoc] at this
      · rw [if_pos rfl, if_neg (by simp)]
        exact ih (i + 1) acc (by omega) (by omega)
  have := h l.length 0 [] (by omega) (by simp)
  unfold bids_Reduce.f
  exact this
end Go.Proofs.Ytecbfpcidoilmaa.H

/- What the reference of bids computes: by the same plain words. -/
namespace Go.Proofs.Ytecbfpcidoilmaa.H
open Go.RowKit Go.Proofs.YtecbfpcidoilmaaW.PrintWords Go.Proofs.YtecbfpcidoilmaaW.PrintLast
set_option linter.unusedVariables false
set_option linter.unusedSimpArgs false
/-- A bid of the reference as a bid of the program. -/
def cv (b : S63) : S45 := ⟨b.f0, b.f1, b.f2⟩
theorem drop_cons {α : Type} (l : List α) (p : Nat) (x : α) (d : List α) (h : l.drop p = x :: d) : l[p]? = some x ∧ l.drop (p + 1) = d ∧ p < l.length := by
  have h1 : l[p]? = some x := by
    have := congrArg (fun t => t[0]?) h
    simpa using this
  refine ⟨h1, ?_, ?_⟩
  · have := congrArg List.tail h
    simpa using this
  · have := congrArg List.length h
    simp at this
    omega
theorem drop_nil {α : Type} (l : List α) (p : Nat) (hp : p ≤ l.length) (h : l.drop p = []) : p = l.length := by
  have := congrArg List.length h
  simp at this
  omega
theorem rdR_at (l : List S63) (i : Nat) (x : S63) (h : l[i]? = some x) : rd_T63 l (i : Int) = x := by
  simp [rd_T63, List.getD, h]
/-! ### given -/
theorem given_ok (l : List S63) (hl : l.length < 3518437208883) : Ev (fun k => worldmintlaw28_given.f k l) (l.map cv) := by
  have : ∀ (d : List S63) (p : Nat), l.drop p = d → p ≤ l.length → Ev (fun k => worldmintlaw28_given.l0 k l ((l.take p).map cv) (p : Int)) (l.map cv) := by
    intro d
    induction d with
    | nil =>
      intro p hd hp
      have := drop_nil l p hp hd
      subst this
      refine Ev.succ ?_
      simp only [worldmintlaw28_given.l0, if_neg (show ¬ (l.length : Int) < (l.length : Int) by omega), List.take_length]
      exact Ev.some_
    | cons x d ih =>
      intro p hd hp
      obtain ⟨hx, hd', hlt⟩ := drop_cons l p x d hd
      have hw : wrap64 ((p : Int) + 1) = ((p + 1 : Nat) : Int) := by rw [w64 _ (by omega) (by omega)]; omega
      have h1 := ih (p + 1) hd' (by omega)
      refine Ev.succ ?_
      simp only [worldmintlaw28_given.l0, if_pos (show (p : Int) < (l.length : Int) by omega), if_pos (show (0 : Int) ≤ (p : Int) by omega), rdR_at l p x hx, hw, List.length_map, List.length_take]
      simp only [if_pos (show min p l.length < 3518437208883 by omega)]
      have e : (l.take p).map cv ++ [⟨x.f0, x.f1, x.f2⟩] = (l.take (p + 1)).map cv := by
        have hg : l[p] = x := by
          have := List.getElem?_eq_getElem hlt
          rw [hx] at this
          injection this with this
          exact this.symm
        rw [List.take_succ_eq_append_getElem hlt, List.map_append, hg]
        rfl
      rw [e]
      exact h1
  exact this l 0 rfl (Nat.zero_le _)
/-! ### Conflict, Feasible, Value, Less, Choice -/
theorem has_ok (xs : List Int) (x : Int) (hl : xs.length ≤ 9223372036854775807) : Ev (fun k => worldmintref01_Has.f k xs x) (xs.contains x) := by
  have : ∀ (d : List Int) (p : Nat), xs.drop p = d → p ≤ xs.length → Ev (fun k => worldmintref01_Has.l0 k xs x (p : Int)) (d.contains x) := by
    intro d
    induction d with
    | nil =>
      intro p hd hp
      have := drop_nil xs p hp hd
      refine Ev.succ ?_
      simp only [worldmintref01_Has.l0, if_neg (show ¬ (p : Int) < (xs.length : Int) by omega)]
      exact Ev.some_
    | cons y d ih =>
      intro p hd hp
      obtain ⟨hx, hd', hlt⟩ := drop_cons xs p y d hd
      have hw : wrap64 ((p : Int) + 1) = ((p + 1 : Nat) : Int) := by rw [w64 _ (by omega) (by omega)]; omega
      have h1 := ih (p + 1) hd' (by omega)
      refine Ev.succ ?_
      simp only [worldmintref01_Has.l0, if_pos (show (p : Int) < (xs.length : Int) by omega), if_pos (show (0 : Int) ≤ (p : Int) by omega), rd_at xs p y hx, hw]
      by_cases c : y = x
      · subst c
        simp only [if_true]
        simpa using Ev.some_
      · simp only [if_neg c]
        have e : (y :: d).contains x = d.contains x := by rw [List.contains_cons, beq_false_of_ne (fun e : x = y => c e.symm), Bool.false_or]
        rw [e]
        exact h1
  exact this xs 0 rfl (Nat.zero_le _)
end Go.Proofs.Ytecbfpcidoilmaa.H

/- The reference's feasible choices. -/
namespace Go.Proofs.Ytecbfpcidoilmaa.H
open Go.RowKit Go.Proofs.YtecbfpcidoilmaaW.PrintWords Go.Proofs.YtecbfpcidoilmaaW.PrintLast
set_option linter.unusedVariables false
set_option linter.unusedSimpArgs false
theorem choice_len : ∀ (n bits i : Nat), (choiceP n bits i).length ≤ n
  | 0, _, _ => by simp [choiceP]
  | n + 1, bits, i => by
    have := choice_len n (bits / 2) (i + 1)
    unfold choiceP
    split
    · simp; omega
    · omega
theorem feas_ok (l : List S45) : ∀ (s pre : List Int), (∀ k ∈ s, 0 ≤ k ∧ k < l.length) → s.Pairwise (· < ·) → (∀ p, pre.getLast? = some p → ∀ k ∈ s, p < k) → feasP l pre s = okS (fun _ => true) l pre s
  | [], _, _, _, _ => rfl
  | w :: s, pre, h0, hs, hp => by
    obtain ⟨h1, h2⟩ := List.pairwise_cons.1 hs
    obtain ⟨hw0, hw1⟩ := h0 w (by simp)
    have ih := feas_ok l s (pre ++ [w]) (fun k hk => h0 k (by simp [hk])) h2 (fun p e k hk => by
      rw [List.getLast?_append] at e
      simp at e
      subst e
      exact h1 k hk)
    have key : feasP l pre (w :: s) = (if (pre.any fun v => cf l v w) = true then false else feasP l (pre ++ [w]) s) := by
      simp only [feasP]
      cases hl : pre.getLast? with
      | none => rw [if_neg (by simp; omega)]; rfl
      | some p =>
        have := hp p hl w (by simp)
        rw [if_neg (by simp; omega)]
        rfl
    rw [key, ih]
    simp only [okS, Bool.true_and]
    cases pre.any fun v => cf l v w <;> simp
end Go.Proofs.Ytecbfpcidoilmaa.H

/- What the reference of clear computes: by the same plain words. -/
namespace Go.Proofs.Ytecbfpcidoilmaa.H
open Go.RowKit Go.Proofs.YtecbfpcidoilmaaW.PrintWords Go.Proofs.YtecbfpcidoilmaaW.PrintLast
set_option linter.unusedVariables false
set_option linter.unusedSimpArgs false
end Go.Proofs.Ytecbfpcidoilmaa.H

/- The reference's best choice is the search's. -/
namespace Go.Proofs.Ytecbfpcidoilmaa.H
open Go.RowKit Go.Proofs.YtecbfpcidoilmaaW.PrintWords Go.Proofs.YtecbfpcidoilmaaW.PrintLast
set_option linter.unusedVariables false
set_option linter.unusedSimpArgs false
end Go.Proofs.Ytecbfpcidoilmaa.H

/- A part replaced; two lists compared. Plain. -/
namespace Go.Proofs.Ytecbfpcidoilmaa.H
open Go.RowKit Go.Proofs.YtecbfpcidoilmaaW.PrintWords Go.Proofs.YtecbfpcidoilmaaW.PrintLast
set_option linter.unusedVariables false
set_option linter.unusedSimpArgs false
theorem same_ok (a b : List Int) (ha : a.length ≤ 9223372036854775807) : Ev (fun k => worldmintref01_SameInts.f k a b) (decide (a = b)) := by
  unfold worldmintref01_SameInts.f
  by_cases hl : (a.length : Int) = (b.length : Int)
  · simp only [if_pos hl]
    have : ∀ (d e : List Int) (p : Nat), a.drop p = d → b.drop p = e → p ≤ a.length → Ev (fun k => worldmintref01_SameInts.l0 k a b (p : Int)) (decide (d = e)) := by
      intro d
      induction d with
      | nil =>
        intro e p hd he hp
        have h1 := drop_nil a p hp hd
        have h2 : e = [] := by
          rw [← he]
          exact List.drop_eq_nil_of_le (by omega)
        subst h2
        refine Ev.succ ?_
        simp only [worldmintref01_SameInts.l0, if_neg (show ¬ (p : Int) < (a.length : Int) by omega)]
        simpa using Ev.some_
      | cons x d ih =>
        intro e p hd he hp
        obtain ⟨hx, hd', hlt⟩ := drop_cons a p x d hd
        have hw : wrap64 ((p : Int) + 1) = ((p + 1 : Nat) : Int) := by rw [w64 _ (by omega) (by omega)]; omega
        cases e with
        | nil =>
          have := drop_nil b p (by omega) he
          omega
        | cons y e =>
          obtain ⟨hy, he', _⟩ := drop_cons b p y e he
          refine Ev.succ ?_
          simp only [worldmintref01_SameInts.l0, if_pos (show (p : Int) < (a.length : Int) by omega), if_pos (show (0 : Int) ≤ (p : Int) by omega), if_pos (show (p : Int) < (b.length : Int) by omega), rd_at a p x hx, rd_at b p y hy, hw]
          by_cases c : x = y
          · subst c
            simp only [if_true]
            have := ih e (p + 1) hd' he' (by omega)
            simpa using this
          · simp only [if_neg c]
            have e2 : decide (x :: d = y :: e) = false := by simp [c]
            rw [e2]
            exact Ev.some_
    exact this a b 0 rfl rfl (Nat.zero_le _)
  · simp only [if_neg hl]
    have e : decide (a = b) = false := decide_eq_false (fun e => hl (by rw [e]))
    rw [e]
    exact Ev.some_
end Go.Proofs.Ytecbfpcidoilmaa.H

/- ClearPrices: the program's prices are the reference's. -/
namespace Go.Proofs.Ytecbfpcidoilmaa.H
open Go.RowKit Go.Proofs.YtecbfpcidoilmaaW.PrintWords Go.Proofs.YtecbfpcidoilmaaW.PrintLast
set_option linter.unusedVariables false
set_option linter.unusedSimpArgs false
theorem search_range (U : S45 → Bool) (l : List S45) (hp : ∀ b ∈ l, 1 ≤ b.f1) : (∀ k ∈ (searchP U l).1, 0 ≤ k ∧ k < l.length) ∧ (searchP U l).1.length ≤ l.length := by
  rw [search_ext hp]
  obtain ⟨_, _, b, _, h⟩ := ext_valid (U := U) (l := l) l 0 [] rfl
  rw [← h]
  exact ⟨fun k hk => by have := choice_ge l.length b 0 k hk; omega, choice_len _ _ _⟩
end Go.Proofs.Ytecbfpcidoilmaa.H

/- Bids that are fine. Plain. -/
namespace Go.Proofs.Ytecbfpcidoilmaa.H
open Go.RowKit
set_option linter.unusedVariables false
set_option linter.unusedSimpArgs false
/-- A good bid, its price raised. -/
def Fine (n : Int) (b : S45) : Prop := 1 ≤ b.f0 ∧ b.f0 ≤ 1073741824 ∧ 1 ≤ b.f1 ∧ b.f1 ≤ 1000 ∧ b.f2.length ≠ 0 ∧ lotsOk n (-1) b.f2 = true
theorem fine_err (n : Int) : ∀ l : List S45, (∀ b ∈ l, Fine n b) → bidsErr n l = 0
  | [], _ => rfl
  | b :: l, h => by
    obtain ⟨h1, h2, h3, h4, h5, h6⟩ := h b (by simp)
    unfold bidsErr
    rw [if_neg (by simp; omega), if_neg (by simp; omega), if_neg (by simpa using h5), h6]
    simpa using fine_err n l (fun x hx => h x (by simp [hx]))
theorem fine_valid (n : Int) (l : List S45) (h1 : 1 ≤ n) (h8 : n ≤ 8) (hl : l.length ≤ 10) (h : ∀ b ∈ l, Fine n b) : validP n l = 0 := by
  unfold validP
  rw [if_neg (by simp; omega), if_neg (by omega)]
  exact fine_err n l h
end Go.Proofs.Ytecbfpcidoilmaa.H

/- The best value: what it does when a bid is left out, a price raised. Plain. -/
namespace Go.Proofs.Ytecbfpcidoilmaa.H
open Go.RowKit Go.Proofs.YtecbfpcidoilmaaW.PrintWords Go.Proofs.YtecbfpcidoilmaaW.PrintLast
set_option linter.unusedVariables false
set_option linter.unusedSimpArgs false
set_option maxRecDepth 100000 in
theorem lives_ok3 : Ev (fun k => worldmintlaw28_lives.f k) true := Ev.of_mono (fun k => worldmintlaw28_lives.mono k) ⟨20, by kernel_rfl⟩
def bestQ (n : Int) (l : List S45) : List Int × Int × Int := if validP n l = 0 then ((searchP (fun _ => true) l).1, (searchP (fun _ => true) l).2, 0) else ([], 0, validP n l)
theorem bestq_f (n : Int) (l : List S45) : clear_Best.f n l = some (bestQ n l) := by
  unfold clear_Best.f bestQ
  split <;> rfl
end Go.Proofs.Ytecbfpcidoilmaa.H

/- Value. Plain. -/
namespace Go.Proofs.Ytecbfpcidoilmaa.H
open Go.RowKit Go.Proofs.YtecbfpcidoilmaaW.PrintWords Go.Proofs.YtecbfpcidoilmaaW.PrintLast
set_option linter.unusedVariables false
set_option linter.unusedSimpArgs false
theorem value_ok (l : List S45) (c : List Int) (hc : ∀ k ∈ c, 0 ≤ k ∧ k < l.length) (hl : c.length ≤ 1000) (hp : ∀ b ∈ l, 0 ≤ b.f1 ∧ b.f1 ≤ 1099511627776) : Ev (fun k => bids_Value.f k l c) (valP l c) := by
  have : ∀ (d : List Int) (p : Nat) (s : Int), c.drop p = d → p ≤ c.length → 0 ≤ s → s ≤ p * 1099511627776 → Ev (fun k => bids_Value.l0 k l s c (c.length : Int) (p : Int)) (s + valP l d) := by
    intro d
    induction d with
    | nil =>
      intro p s hd hpl hs0 hs1
      have := drop_nil c p hpl hd
      refine Ev.succ ?_
      simp only [bids_Value.l0, if_neg (show ¬ (p : Int) < (c.length : Int) by omega), valP, List.map_nil, List.sum_nil, Int.add_zero]
      exact Ev.some_
    | cons y d ih =>
      intro p s hd hpl hs0 hs1
      obtain ⟨hx, hd', hlt⟩ := drop_cons c p y d hd
      obtain ⟨hy0, hy1⟩ := hc y (List.mem_of_getElem? hx)
      have hw : wrap64 ((p : Int) + 1) = ((p + 1 : Nat) : Int) := by rw [w64 _ (by omega) (by omega)]; omega
      have hyl : y.toNat < l.length := by omega
      have hm : l.getD y.toNat z45 ∈ l := by simp [List.getD, hyl]
      have hb := hp _ hm
      have hrd : rd_T45 l y = l.getD y.toNat z45 := rfl
      have hw2 : wrap64 (s + (l.getD y.toNat z45).f1) = s + (l.getD y.toNat z45).f1 := w64 _ (by omega) (by omega)
      have h1 := ih (p + 1) (s + (l.getD y.toNat z45).f1) hd' (by omega) (by omega) (by omega)
      refine Ev.succ ?_
      simp only [bids_Value.l0, if_pos (show (p : Int) < (c.length : Int) by omega), if_pos (show (0 : Int) ≤ (p : Int) by omega), rd_at c p y hx, hw, if_pos (show y ≥ 0 by omega), if_pos (show y < (l.length : Int) by omega), if_pos (show (0 : Int) ≤ y by omega), hrd, hw2]
      have e : s + valP l (y :: d) = s + (l.getD y.toNat z45).f1 + valP l d := by
        simp only [valP, List.map_cons, List.sum_cons]
        omega
      rw [e]
      exact h1
  have h := this c 0 0 rfl (Nat.zero_le _) (by omega) (by omega)
  simpa [bids_Value.f] using h
end Go.Proofs.Ytecbfpcidoilmaa.H

/- ClearGroups: the plain statement. -/
namespace Go.Proofs.Ytecbfpcidoilmaa.H
open Go.RowKit Go.Proofs.YtecbfpcidoilmaaW.PrintWords Go.Proofs.YtecbfpcidoilmaaW.PrintLast
set_option linter.unusedVariables false
set_option linter.unusedSimpArgs false
section
variable {t : Int} {l : List S45} {win : List Int} {v : Int} {P : List (List Int)} {sum : Int} {i : Nat} {g : List Int} {r : Bool}
/-- The loop that takes the group's places of the best choice's. -/
theorem cg_l3 (hi : i < P.length) (hg : P.getD i [] = g) (hgr : ∀ k ∈ g, 0 ≤ k ∧ k < l.length) (own : List Int) (w : Int) (want : List Int) (hown : ∀ k ∈ own, 0 ≤ k ∧ k < g.length) (hol : own.length ≤ 1000) (hwl : want.length ≤ 1000)
    (heq : (own.map fun j => g.getD j.toNat 0) = want) (hnext : Ev (fun k => worldmintlaw28_ClearGroups.j5 k t l win v P sum (i : Int) w false) r) :
    ∀ (d : List Int) (p : Nat), own.drop p = d → p ≤ own.length → Ev (fun k => worldmintlaw28_ClearGroups.l3 k t l win v P sum (i : Int) own w 0 want ((own.take p).map fun j => g.getD j.toNat 0) (p : Int)) r := by
  have hrL : rd_L1 P (i : Int) = g := hg
  have hi0 : (0 : Int) ≤ (i : Int) := by omega
  have hi1 : (i : Int) < (P.length : Int) := by omega
  intro d
  induction d with
  | nil =>
    intro p hd hp
    have := drop_nil own p hp hd
    subst this
    have hp1 : ¬ (own.length : Int) < (own.length : Int) := by omega
    rw [List.take_length, heq]
    refine Ev.succ ?_
    simp only [worldmintlaw28_ClearGroups.l3, if_neg hp1, if_true]
    refine Ev.bind (same_ok want want (by omega)) ?_
    simp only [decide_true, Bool.not_true]
    exact hnext
  | cons y d ih =>
    intro p hd hp
    obtain ⟨hy, hd', hlt⟩ := drop_cons own p y d hd
    obtain ⟨hy0, hy1⟩ := hown y (List.mem_of_getElem? hy)
    have hp1 : (p : Int) < (own.length : Int) := by omega
    have hp0 : (0 : Int) ≤ (p : Int) := by omega
    have hwp : wrap64 ((p : Int) + 1) = ((p + 1 : Nat) : Int) := by rw [w64 _ (by omega) (by omega)]; omega
    have hn : ¬ y < 0 := by omega
    have hn2 : ¬ y ≥ (g.length : Int) := by omega
    have hrd : rd g y = g.getD y.toNat 0 := rfl
    have hlen : ((own.take p).map fun j => g.getD j.toNat 0).length < 17592186044416 := by simp; omega
    have htk : (own.take p).map (fun j => g.getD j.toNat 0) ++ [g.getD y.toNat 0] = (own.take (p + 1)).map fun j => g.getD j.toNat 0 := by
      have hgy : own[p] = y := by
        have := List.getElem?_eq_getElem hlt
        rw [hy] at this
        injection this with this
        exact this.symm
      rw [List.take_succ_eq_append_getElem hlt, List.map_append, hgy]
      rfl
    refine Ev.succ ?_
    simp only [worldmintlaw28_ClearGroups.l3, if_pos hp1, if_pos hp0, rd_at own p y hy, if_neg hn, if_pos hi0, if_pos hi1, hrL, if_neg hn2, if_pos hy0, if_pos hy1, hrd, if_pos hlen, hwp, htk]
    exact ih (p + 1) hd' (by omega)
/-- The loop over the best choice. -/
theorem cg_l2 (hi : i < P.length) (hg : P.getD i [] = g) (hgl : g.length ≤ 1000) (own : List Int) (w : Int) (hwl : win.length ≤ 1000)
    (hnext : Ev (fun k => worldmintlaw28_ClearGroups.l3 k t l win v P sum (i : Int) own w 0 (win.filter fun k => g.contains k) [] 0) r) :
    ∀ (d : List Int) (p : Nat), win.drop p = d → p ≤ win.length → Ev (fun k => worldmintlaw28_ClearGroups.l2 k t l win v P sum (i : Int) own w 0 ((win.take p).filter fun k => g.contains k) (p : Int)) r := by
  have hrL : rd_L1 P (i : Int) = g := hg
  have hi0 : (0 : Int) ≤ (i : Int) := by omega
  have hi1 : (i : Int) < (P.length : Int) := by omega
  intro d
  induction d with
  | nil =>
    intro p hd hp
    have := drop_nil win p hp hd
    subst this
    have hp1 : ¬ (win.length : Int) < (win.length : Int) := by omega
    rw [List.take_length]
    refine Ev.succ ?_
    simp only [worldmintlaw28_ClearGroups.l2, if_neg hp1]
    exact hnext
  | cons y d ih =>
    intro p hd hp
    obtain ⟨hy, hd', hlt⟩ := drop_cons win p y d hd
    have hp1 : (p : Int) < (win.length : Int) := by omega
    have hp0 : (0 : Int) ≤ (p : Int) := by omega
    have hwp : wrap64 ((p : Int) + 1) = ((p + 1 : Nat) : Int) := by rw [w64 _ (by omega) (by omega)]; omega
    have hlen : ((win.take p).filter fun k => g.contains k).length < 17592186044416 := by
      have := List.length_filter_le (fun k => g.contains k) (win.take p)
      simp only [List.length_take] at this
      omega
    have hgy : win[p] = y := by
      have := List.getElem?_eq_getElem hlt
      rw [hy] at this
      injection this with this
      exact this.symm
    have hih := ih (p + 1) hd' (by omega)
    rw [List.take_succ_eq_append_getElem hlt, List.filter_append, hgy] at hih
    refine Ev.succ ?_
    simp only [worldmintlaw28_ClearGroups.l2, if_pos hp1, if_pos hi0, if_pos hi1, if_pos hp0, rd_at win p y hy, hrL, hwp]
    refine Ev.bind (has_ok g y (by omega)) ?_
    cases hc : g.contains y
    · simp only [Bool.false_eq_true, if_false]
      have : List.filter (fun k => g.contains k) [y] = [] := by simp only [List.filter_cons, hc]; rfl
      rw [this, List.append_nil] at hih
      exact hih
    · simp only [if_true, if_pos hlen]
      have : List.filter (fun k => g.contains k) [y] = [y] := by simp only [List.filter_cons, hc]; rfl
      rw [this] at hih
      exact hih
/-- The loop that takes the group's bids. -/
theorem cg_l1 (hi : i < P.length) (hg : P.getD i [] = g) (hgr : ∀ k ∈ g, 0 ≤ k ∧ k < l.length) (hgl : g.length ≤ 1000)
    (hnext : Ev (fun k => (clear_Best.f t (partL l g)).bind fun bt => worldmintlaw28_ClearGroups.l2 k t l win v P sum (i : Int) bt.1 bt.2.1 bt.2.2 [] 0) r) :
    ∀ (d : List Int) (p : Nat), g.drop p = d → p ≤ g.length → Ev (fun k => worldmintlaw28_ClearGroups.l1 k t l win v P sum (i : Int) (partL l (g.take p)) (p : Int)) r := by
  have hrL : rd_L1 P (i : Int) = g := hg
  have hi0 : (0 : Int) ≤ (i : Int) := by omega
  have hi1 : (i : Int) < (P.length : Int) := by omega
  intro d
  induction d with
  | nil =>
    intro p hd hp
    have := drop_nil g p hp hd
    subst this
    have hp1 : ¬ (g.length : Int) < (g.length : Int) := by omega
    rw [List.take_length]
    refine Ev.succ ?_
    simp only [worldmintlaw28_ClearGroups.l1, if_pos hi0, if_pos hi1, hrL, if_neg hp1]
    exact hnext
  | cons y d ih =>
    intro p hd hp
    obtain ⟨hy, hd', hlt⟩ := drop_cons g p y d hd
    obtain ⟨hy0, hy1⟩ := hgr y (List.mem_of_getElem? hy)
    have hp1 : (p : Int) < (g.length : Int) := by omega
    have hp0 : (0 : Int) ≤ (p : Int) := by omega
    have hwp : wrap64 ((p : Int) + 1) = ((p + 1 : Nat) : Int) := by rw [w64 _ (by omega) (by omega)]; omega
    have hn : ¬ y < 0 := by omega
    have hn2 : ¬ y ≥ (l.length : Int) := by omega
    have hlen : (partL l (g.take p)).length < 3518437208883 := by simp [partL]; omega
    have hgy : g[p] = y := by
      have := List.getElem?_eq_getElem hlt
      rw [hy] at this
      injection this with this
      exact this.symm
    have hih := ih (p + 1) hd' (by omega)
    have htk : partL l (g.take p) ++ [rd_T45 l y] = partL l (g.take (p + 1)) := by
      rw [List.take_succ_eq_append_getElem hlt, hgy]
      unfold partL
      rw [List.map_append]
      rfl
    refine Ev.succ ?_
    simp only [worldmintlaw28_ClearGroups.l1, if_pos hi0, if_pos hi1, hrL, if_pos hp1, if_pos hp0, rd_at g p y hy, if_neg hn, if_neg hn2, if_pos hy0, if_pos hy1, if_pos hlen, hwp]
    rw [← htk] at hih
    exact hih
end
/-- A round over a group. -/
theorem cg_round (t : Int) (l : List S45) (ht0 : 1 ≤ t) (ht1 : t ≤ 8) (hl : l.length ≤ 9) (hf : ∀ b ∈ l, Fine t b) (p : Nat → Bool) (hb : IsBest (fun _ => true) l p) (v : Int) (P : List (List Int)) (sum : Int) (i : Nat) (hi : i < P.length) (g : List Int) (hg : P.getD i [] = g)
    (hr : g.Pairwise (· < ·)) (hgr : ∀ k ∈ g, 0 ≤ k ∧ k < l.length) (hc : (∀ a b, a < l.length → b < l.length → (a : Int) ∈ g → ¬ (b : Int) ∈ g → cj l a b = false) ∨ ∀ k, k < l.length → p k = true → (k : Int) ∈ g) (r : Bool)
    (hnext : Ev (fun k => worldmintlaw28_ClearGroups.j5 k t l (sel p l.length 0) v P sum (i : Int) (valB l (fun k => p k && decide ((k : Int) ∈ g))) false) r) :
    Ev (fun k => worldmintlaw28_ClearGroups.l1 k t l (sel p l.length 0) v P sum (i : Int) [] 0) r := by
  have hgl : g.length ≤ l.length := by
    have h1 : g = sel (fun k => decide ((k : Int) ∈ g)) l.length 0 := sel_of l.length g hgr hr
    have h2 : ∀ (p : Nat → Bool) n i, (sel p n i).length ≤ n := by
      intro p n
      induction n with
      | zero => intro i; simp [sel]
      | succ n ih => intro i; have := ih (i + 1); unfold sel; split <;> (first | (simp; omega) | omega)
    rw [h1]
    exact h2 _ _ _
  have hselL : ∀ (p : Nat → Bool) n i, (sel p n i).length ≤ n := by
    intro p n
    induction n with
    | zero => intro i; simp [sel]
    | succ n ih => intro i; have := ih (i + 1); unfold sel; split <;> (first | (simp; omega) | omega)
  have hpl : (partL l g).length = g.length := by simp [partL]
  have hpf : ∀ b ∈ partL l g, Fine t b := by
    intro b hb'
    obtain ⟨k, hk, rfl⟩ := List.mem_map.1 hb'
    have := hgr k hk
    exact hf _ (by have h : k.toNat < l.length := by omega
                   simp [List.getD, h])
  have hV : validP t (partL l g) = 0 := fine_valid t _ ht0 ht1 (by omega) hpf
  have hs := best_search (fun _ => true) (partL l g) (fun b hb' => (hpf b hb').2.2.1) _ (group_best hr hgr p hb hc)
  rw [hpl, group_val hr hgr] at hs
  have hq : clear_Best.f t (partL l g) = some (sel (fun j => p (g.getD j 0).toNat) g.length 0, valB l (fun k => p k && decide ((k : Int) ∈ g)), 0) := by
    rw [bestq_f]
    unfold bestQ
    rw [if_pos hV, hs]
  have hwl : (sel p l.length 0).length ≤ 1000 := by have := hselL p l.length 0; omega
  refine cg_l1 (g := g) hi hg hgr (by omega) ?_ g 0 rfl (Nat.zero_le _)
  rw [hq]
  simp only [Option.bind_some]
  refine cg_l2 hi hg (by omega) _ _ hwl ?_ _ 0 rfl (Nat.zero_le _)
  refine cg_l3 hi hg hgr _ _ _ (fun k hk => ?_) (by have := hselL (fun j => p (g.getD j 0).toNat) g.length 0; omega) (by have := List.length_filter_le (fun k => g.contains k) (sel p l.length 0); omega) (group_list hr hgr p) hnext _ 0 rfl (Nat.zero_le _)
  obtain ⟨j, hj, _, rfl⟩ := (mem_sel0 _ _ _).1 hk
  omega
theorem valB_small (l : List S45) (h : ∀ b ∈ l, 1 ≤ b.f1 ∧ b.f1 ≤ 1000) (q : Nat → Bool) : 0 ≤ valB l q ∧ valB l q ≤ l.length * 1000 := by
  have hk : ∀ k, k < l.length → 0 ≤ (if q k then prc l k else 0) ∧ (if q k then prc l k else 0) ≤ 1000 := fun k hk => by
    have := h (l.getD k z45) (by simp [List.getD, hk])
    have e : prc l k = (l.getD k z45).f1 := rfl
    split <;> omega
  have hc : ∀ (n i : Nat), sumF (fun _ => 1000) n i = n * 1000 := by
    intro n
    induction n with
    | zero => intro i; simp [sumF]
    | succ n ih => intro i; simp only [sumF, ih]; omega
  have h0 := sumF_le (fun _ => 0) (fun k => if q k then prc l k else 0) l.length 0 (fun k _ h2 => (hk k (by omega)).1)
  have h1 := sumF_le (fun k => if q k then prc l k else 0) (fun _ => 1000) l.length 0 (fun k _ h2 => (hk k (by omega)).2)
  rw [hc] at h1
  rw [sumF_zero (fun _ => 0) _ _ (fun _ _ _ => rfl)] at h0
  exact ⟨h0, h1⟩
theorem w64_2 (x y : Int) (h1 : 0 ≤ x) (h2 : x ≤ 1000000) (h3 : 0 ≤ y) (h4 : y ≤ 1000000) : wrap64 (x + y) = x + y := w64 _ (by omega) (by omega)
theorem cg_sums (l : List S45) (hl9 : l.length ≤ 9) (hsmall : ∀ q, 0 ≤ valB l q ∧ valB l q ≤ l.length * 1000) (p : Nat → Bool) :
    ∀ i, i ≤ (partsP l).length → 0 ≤ (((partsP l).take i).map fun g => valB l (fun k => p k && decide ((k : Int) ∈ g))).sum ∧ (((partsP l).take i).map fun g => valB l (fun k => p k && decide ((k : Int) ∈ g))).sum ≤ i * 9000 := by
  intro i
  induction i with
  | zero => intro _; simp
  | succ i ih =>
    intro hi
    have h1 := ih (by omega)
    have hil : i < (partsP l).length := by omega
    rw [List.take_succ_eq_append_getElem hil, List.map_append, List.sum_append]
    have h2 := hsmall (fun k => p k && decide ((k : Int) ∈ (partsP l)[i]))
    simp only [List.map_cons, List.map_nil, List.sum_cons, List.sum_nil]
    generalize valB l (fun k => p k && decide ((k : Int) ∈ (partsP l)[i])) = y at *
    generalize (((partsP l).take i).map fun g => valB l (fun k => p k && decide ((k : Int) ∈ g))).sum = x at *
    clear ih hsmall
    omega
theorem cg_loop (t : Int) (l : List S45) (ht0 : 1 ≤ t) (ht1 : t ≤ 8) (hl9 : l.length ≤ 9) (hfine : ∀ b ∈ l, Fine t b) (p : Nat → Bool) (hb : IsBest (fun _ => true) l p) (hsmall : ∀ q, 0 ≤ valB l q ∧ valB l q ≤ l.length * 1000) (P : List (List Int)) (hPlen : P.length = (partsP l).length + 1)
    (hPG : ∀ i, i < (partsP l).length → P.getD i [] = (partsP l).getD i []) (hPR : P.getD (partsP l).length [] = reduceP l) (hcover : ∀ k, k < l.length → p k = true → (k : Int) ∈ reduceP l) (hvr : valB l (fun k => p k && decide ((k : Int) ∈ reduceP l)) = valB l p) :
    ∀ (d i : Nat), (partsP l).length - i = d → i ≤ (partsP l).length → Ev (fun k => worldmintlaw28_ClearGroups.l0 k t l (sel p l.length 0) (valB l p) P (((partsP l).take i).map fun g => valB l (fun k => p k && decide ((k : Int) ∈ g))).sum (i : Int)) true := by
  have hPl := parts_len l
  have hS := Aside0.mk (cg_sums l hl9 hsmall p)
  have Hsmall := Aside0.mk hsmall
  have HPG := Aside0.mk hPG
  have HPR := Aside0.mk hPR
  have Hcover := Aside0.mk hcover
  have Hvr := Aside0.mk hvr
  have Hf := Aside0.mk hfine
  clear hsmall hPG hPR hcover hvr hfine
  intro d
  induction d with
  | zero =>
    intro i hd hi
    obtain rfl : i = (partsP l).length := by omega
    rw [List.take_length, parts_sum]
    have hi1 : ((partsP l).length : Int) < (P.length : Int) := by omega
    have hi3 : (partsP l).length < P.length := by omega
    have hi2 : ¬ ((((partsP l).length + 1 : Nat)) : Int) < (P.length : Int) := by omega
    have hwi : wrap64 (((partsP l).length : Int) + 1) = (((partsP l).length + 1 : Nat) : Int) := by rw [w64 _ (by omega) (by omega)]; omega
    refine Ev.succ ?_
    simp only [worldmintlaw28_ClearGroups.l0, if_pos hi1]
    refine cg_round t l ht0 ht1 hl9 Hf.out p hb _ P _ _ hi3 (reduceP l) HPR.out (rise_sel _ _ _) (reduce_range l) (.inr Hcover.out) true ?_
    rw [Hvr.out]
    refine Ev.succ ?_
    simp only [worldmintlaw28_ClearGroups.j5, Bool.false_eq_true, if_false, hwi, if_neg hi2, if_true]
    refine Ev.succ ?_
    simp only [worldmintlaw28_ClearGroups.l0, if_neg hi2, if_true]
    exact Ev.bind lives_ok3 Ev.some_
  | succ d ih =>
    intro i hd hi
    have hil : i < (partsP l).length := by omega
    have hi1 : (i : Int) < (P.length : Int) := by omega
    have hi2 : ((i + 1 : Nat) : Int) < (P.length : Int) := by omega
    have hi3 : i < P.length := by omega
    have hwi : wrap64 ((i : Int) + 1) = ((i + 1 : Nat) : Int) := by rw [w64 _ (by omega) (by omega)]; omega
    have hgm : (partsP l)[i] ∈ partsP l := List.getElem_mem hil
    have hg : P.getD i [] = (partsP l)[i] := by rw [HPG.out i hil]; simp [List.getD, hil]
    have hn := ih (i + 1) (by omega) (by omega)
    rw [List.take_succ_eq_append_getElem hil, List.map_append, List.sum_append] at hn
    simp only [List.map_cons, List.map_nil, List.sum_cons, List.sum_nil, Int.add_zero] at hn
    have h1 := hS.out i (by omega)
    have h2 := Hsmall.out (fun k => p k && decide ((k : Int) ∈ (partsP l)[i]))
    have hws : wrap64 ((((partsP l).take i).map fun g => valB l (fun k => p k && decide ((k : Int) ∈ g))).sum + valB l (fun k => p k && decide ((k : Int) ∈ (partsP l)[i]))) = (((partsP l).take i).map fun g => valB l (fun k => p k && decide ((k : Int) ∈ g))).sum + valB l (fun k => p k && decide ((k : Int) ∈ (partsP l)[i])) := by
      have h3 : (i : Int) * 9000 ≤ 1000000 := by clear h1 h2 hn ih hg hgm; omega
      have h4 : (l.length : Int) * 1000 ≤ 1000000 := by clear h1 h2 hn ih hg hgm; omega
      exact w64_2 _ _ h1.1 (Int.le_trans h1.2 h3) h2.1 (Int.le_trans h2.2 h4)
    refine Ev.succ ?_
    simp only [worldmintlaw28_ClearGroups.l0, if_pos hi1]
    refine cg_round t l ht0 ht1 hl9 Hf.out p hb _ P _ i hi3 _ hg (part_rise l _ hgm) (part_range l _ hgm) (.inl (fun a b ha hb' h3 h4 => part_apart l _ hgm a b ha hb' h3 h4)) true ?_
    refine Ev.succ ?_
    simp only [worldmintlaw28_ClearGroups.j5, Bool.false_eq_true, if_false, hwi, if_pos hi2, hws]
    exact hn
theorem ClearGroups_pure : worldmintlaw28_ClearGroups.Pure := by
  intro a0 l1 w0 _ _ w1
  obtain ⟨t, ht, ht0, ht1⟩ := lots_ok a0 w0
  obtain ⟨L, hL, hLl, hLg⟩ := bids_ok t l1 w1 9 ht0 ht1 (by omega) (by omega)
  have hfine : ∀ b ∈ L.map cv, Fine t b := fun b hb => by
    obtain ⟨y, hy, rfl⟩ := List.mem_map.1 hb
    obtain ⟨g1, g2, g3, g4, g5, g6, g7⟩ := hLg y hy
    exact ⟨g1, by show y.f0 ≤ _; omega, g3, by show y.f1 ≤ _; omega, g5, g6⟩
  have hgiven := given_ok L (by omega)
  have hlen : (L.map cv).length = L.length := List.length_map ..
  generalize L.map cv = l at *
  have hl9 : l.length ≤ 9 := by omega
  have hp : ∀ b ∈ l, 1 ≤ b.f1 := fun b hb => (hfine b hb).2.2.1
  have hp2 : ∀ b ∈ l, 1 ≤ b.f1 ∧ b.f1 ≤ 1000 := fun b hb => ⟨(hfine b hb).2.2.1, (hfine b hb).2.2.2.1⟩
  have hV : validP t l = 0 := fine_valid t l ht0 ht1 (by omega) hfine
  obtain ⟨p, hb, he⟩ := search_best (fun _ => true) l hp
  have hbest : clear_Best.f t l = some (sel p l.length 0, valB l p, 0) := by
    rw [bestq_f]
    unfold bestQ
    rw [if_pos hV, he]
  have hparts : bids_Parts.f l = some (partsP l) := by unfold bids_Parts.f; rw [if_pos (by omega)]
  have hPl := parts_len l
  have hrange : ∀ k ∈ sel p l.length 0, 0 ≤ k ∧ k < l.length := fun k hk => by
    obtain ⟨a, ha, _, rfl⟩ := (mem_sel0 p _ k).1 hk
    omega
  have hwl : (sel p l.length 0).length ≤ 1000 := by
    have := search_range (fun _ => true) l hp
    rw [he] at this
    have h2 := this.2
    simp only at h2
    omega
  have hfeas : bids_Feasible.f l (sel p l.length 0) = some true := by
    unfold bids_Feasible.f
    rw [feas_ok l _ [] hrange (rise_sel p _ _) (by simp), (ok_sel _ l p).2 hb.feas]
  have hval := value_ok l (sel p l.length 0) hrange hwl (fun b hb => ⟨by have := hp2 b hb; omega, by have := hp2 b hb; omega⟩)
  rw [valB_sel] at hval
  have hred := reduce_ok l (by omega)
  have hsmall := fun q => valB_small l hp2 q
  have hPG : ∀ i, i < (partsP l).length → (partsP l ++ [reduceP l]).getD i [] = (partsP l).getD i [] := fun i hi => by
    simp only [List.getD, List.getElem?_append_left hi]
  have hPR : (partsP l ++ [reduceP l]).getD (partsP l).length [] = reduceP l := by
    simp [List.getD]
  have hPlen : (partsP l ++ [reduceP l]).length = (partsP l).length + 1 := by simp
  generalize hPP : partsP l ++ [reduceP l] = P at *
  have hcover : ∀ k, k < l.length → p k = true → (k : Int) ∈ reduceP l := fun k hk h => best_reduced l p hb k hk h
  have hvr : valB l (fun k => p k && decide ((k : Int) ∈ reduceP l)) = valB l p := valB_congr _ _ (fun k hk => by
    cases h : p k
    · rfl
    · rw [Bool.true_and]; simpa using hcover k hk h)
  have hloop := cg_loop t l ht0 ht1 hl9 hfine p hb hsmall P hPlen hPG hPR hcover hvr
  have hl0 := hloop (partsP l).length 0 rfl (Nat.zero_le _)
  simp only [List.take_zero, List.map_nil, List.sum_nil] at hl0
  refine Ev.ex ?_
  unfold worldmintlaw28_ClearGroups.f
  simp only [ht, Option.bind_some]
  refine Ev.bind hL ?_
  refine Ev.bind hgiven ?_
  simp only [hbest, hparts, Option.bind_some]
  refine Ev.bind hred ?_
  have hbig : (partsP l).length < 5864062014805 := by omega
  simp only [if_pos hbig, hPP, if_true, hfeas, Option.bind_some]
  refine Ev.bind hval ?_
  refine Ev.succ ?_
  simp only [worldmintlaw28_ClearGroups.j0, bne_self_eq_false, Bool.false_eq_true, if_false]
  exact hl0
end Go.Proofs.Ytecbfpcidoilmaa.H
namespace Go.Proofs.Ytecbfpcidoilmaa.Pure
theorem ClearGroups : H.worldmintlaw28_ClearGroups.Pure := H.ClearGroups_pure
end Go.Proofs.Ytecbfpcidoilmaa.Pure
