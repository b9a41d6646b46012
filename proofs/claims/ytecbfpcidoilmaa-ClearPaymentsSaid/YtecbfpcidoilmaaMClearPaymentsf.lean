/- Texts of this claim, one behind the other. -/
import Derived.Test.YtecbfpcidoilmaaMClearPaymentsc
import Derived.Test.YtecbfpcidoilmaaMClearPaymentsb
import Derived.Test.YtecbfpcidoilmaaMClearPaymentsd
import Derived.Test.YtecbfpcidoilmaaMClearPaymentse

/- The search's answer: the best choice, and of equals the least. Plain. -/
namespace Go.Proofs.Ytecbfpcidoilmaa.H
open Go.RowKit
set_option linter.unusedVariables false
set_option linter.unusedSimpArgs false
/-- Do places a and b conflict? -/
def cf (l : List S45) (a b : Int) : Bool := conf (l.getD a.toNat z45) (l.getD b.toNat z45)
/-- The places from i on, n of them, whose bit is set. -/
def choiceP : Nat → Nat → Nat → List Int
  | 0, _, _ => []
  | n + 1, bits, i => if bits % 2 = 1 then (i : Int) :: choiceP n (bits / 2) (i + 1) else choiceP n (bits / 2) (i + 1)
/-- Places that go with those taken, and among each other. -/
def okS (U : S45 → Bool) (l : List S45) : List Int → List Int → Bool
  | _, [] => true
  | win, k :: s => U (l.getD k.toNat z45) && !(win.any fun w => cf l w k) && okS U l (win ++ [k]) s
def valP (l : List S45) (s : List Int) : Int := (s.map fun k => (l.getD k.toNat z45).f1).sum
def lessP : List Int → List Int → Bool
  | [], [] => false
  | [], _ :: _ => true
  | _ :: _, [] => false
  | a :: s, b :: t => if a = b then lessP s t else decide (a < b)
/-- The best extension. -/
def ext (U : S45 → Bool) (l : List S45) : List S45 → Nat → List Int → List Int × Int
  | [], _, _ => ([], 0)
  | b :: left, i, win =>
    if U b && !(win.any fun w => conf (l.getD w.toNat z45) b) then
      if (ext U l left (i + 1) (win ++ [(i : Int)])).2 + b.f1 < (ext U l left (i + 1) win).2 then ext U l left (i + 1) win
      else ((i : Int) :: (ext U l left (i + 1) (win ++ [(i : Int)])).1, (ext U l left (i + 1) (win ++ [(i : Int)])).2 + b.f1)
    else ext U l left (i + 1) win
section
variable {U : S45 → Bool} {l : List S45}
theorem ext_bounds : ∀ (left : List S45) (i : Nat) (win : List Int), (∀ b ∈ left, 1 ≤ b.f1) → 0 ≤ (ext U l left i win).2 ∧ (ext U l left i win).2 ≤ restOf U left
  | [], _, _, _ => by simp [ext, restOf]
  | b :: left, i, win, h => by
    have hb := h b (by simp)
    have h1 := ext_bounds left (i + 1) win (fun x hx => h x (by simp [hx]))
    have h2 := ext_bounds left (i + 1) (win ++ [(i : Int)]) (fun x hx => h x (by simp [hx]))
    unfold ext restOf
    cases hU : U b
    · simp only [Bool.false_and, Bool.false_eq_true, if_false]; omega
    · simp only [Bool.true_and, if_true]
      split
      · split
        · constructor <;> omega
        · constructor <;> (simp only; omega)
      · constructor <;> omega
theorem try_ext : ∀ (left : List S45) (i : Nat) (value : Int) (win : List Int) (best : Int) (out : List Int) (val : Int), (∀ b ∈ left, 1 ≤ b.f1) →
    tryP U l left i value win (best, out, val) = if best < value + (ext U l left i win).2 then (value + (ext U l left i win).2, win ++ (ext U l left i win).1, value + (ext U l left i win).2) else (best, out, val)
  | [], i, value, win, best, out, val, _ => by
    simp only [tryP, ext, Int.add_zero, List.append_nil]
    by_cases h : value ≤ best
    · rw [if_pos h, if_neg (by omega)]
    · rw [if_neg h, if_pos (by omega)]
  | b :: left, i, value, win, best, out, val, h => by
    have hl : ∀ x ∈ left, 1 ≤ x.f1 := fun x hx => h x (by simp [hx])
    have hb := h b (by simp)
    have hbd := ext_bounds (U := U) (l := l) (b :: left) i win h
    simp only [tryP]
    by_cases hp : value + restOf U (b :: left) ≤ best
    · rw [if_pos hp, if_neg (by omega)]
    · rw [if_neg hp]
      have ht := try_ext left (i + 1) (value + b.f1) (win ++ [(i : Int)]) best out val hl
      have hs := fun B O V => try_ext left (i + 1) value win B O V hl
      unfold ext
      by_cases hc : (U b && !(win.any fun w => conf (l.getD w.toNat z45) b)) = true
      · rw [if_pos hc, if_pos hc, ht]
        generalize ext U l left (i + 1) (win ++ [(i : Int)]) = T at *
        generalize ext U l left (i + 1) win = S at *
        by_cases h1 : best < value + b.f1 + T.2
        · rw [if_pos h1, hs]
          by_cases h2 : T.2 + b.f1 < S.2
          · rw [if_pos h2, if_pos (by omega), if_pos (by omega)]
          · rw [if_neg h2, if_neg (by omega)]
            simp only
            rw [if_pos (by omega)]
            rw [show value + b.f1 + T.2 = value + (T.2 + b.f1) from by omega]
            simp
        · rw [if_neg h1, hs]
          by_cases h2 : T.2 + b.f1 < S.2
          · rw [if_pos h2]
          · rw [if_neg h2, if_neg (by omega)]
            simp only
            rw [if_neg (by omega)]
      · rw [if_neg hc, if_neg hc, hs]
theorem search_ext (h : ∀ b ∈ l, 1 ≤ b.f1) : searchP U l = ext U l l 0 [] := by
  have hb := ext_bounds (U := U) (l := l) l 0 [] h
  unfold searchP
  rw [try_ext l 0 0 [] (-1) [] 0 h, if_pos (by omega)]
  simp
theorem choice_ge : ∀ (n bits i : Nat), ∀ k ∈ choiceP n bits i, (i : Int) ≤ k ∧ k < (i : Int) + n
  | 0, _, _ => by simp [choiceP]
  | n + 1, bits, i => by
    intro k hk
    have ih := choice_ge n (bits / 2) (i + 1)
    unfold choiceP at hk
    split at hk
    · rcases List.mem_cons.1 hk with rfl | hk
      · constructor <;> omega
      · have := ih k hk; constructor <;> omega
    · have := ih k hk; constructor <;> omega
theorem drop_getD (i : Nat) (b : S45) (left : List S45) (h : l.drop i = b :: left) : l.getD (i : Int).toNat z45 = b ∧ l.drop (i + 1) = left := by
  have h1 : l[i]? = some b := by
    have := congrArg (fun t => t[0]?) h
    simpa using this
  refine ⟨by simp [List.getD, h1], ?_⟩
  have := congrArg List.tail h
  simpa using this
theorem ext_valid : ∀ (left : List S45) (i : Nat) (win : List Int), l.drop i = left →
    okS U l win (ext U l left i win).1 = true ∧ valP l (ext U l left i win).1 = (ext U l left i win).2 ∧ ∃ bits, bits < 2 ^ left.length ∧ choiceP left.length bits i = (ext U l left i win).1
  | [], i, win, _ => ⟨by simp [ext, okS], by simp [ext, valP], 0, by simp, by simp [ext, choiceP]⟩
  | b :: left, i, win, h => by
    obtain ⟨hg, hd⟩ := drop_getD i b left h
    obtain ⟨s1, s2, sb, s3, s4⟩ := ext_valid left (i + 1) win hd
    obtain ⟨t1, t2, tb, t3, t4⟩ := ext_valid left (i + 1) (win ++ [(i : Int)]) hd
    have hskip : okS U l win (ext U l left (i + 1) win).1 = true ∧ valP l (ext U l left (i + 1) win).1 = (ext U l left (i + 1) win).2 ∧ ∃ bits, bits < 2 ^ (b :: left).length ∧ choiceP (b :: left).length bits i = (ext U l left (i + 1) win).1 := by
      refine ⟨s1, s2, 2 * sb, by simp only [List.length_cons, Nat.pow_succ]; omega, ?_⟩
      simp only [List.length_cons, choiceP]
      rw [if_neg (by omega), show 2 * sb / 2 = sb from by omega, s4]
    unfold ext
    by_cases hc : (U b && !(win.any fun w => conf (l.getD w.toNat z45) b)) = true
    · rw [if_pos hc]
      split
      · exact hskip
      · refine ⟨?_, ?_, 2 * tb + 1, by simp only [List.length_cons, Nat.pow_succ]; omega, ?_⟩
        · simp only [okS, cf, hg, t1, Bool.and_true]
          exact hc
        · simp only [valP, List.map_cons, List.sum_cons, hg] at t2 ⊢
          omega
        · simp only [List.length_cons, choiceP]
          rw [if_pos (by omega), show (2 * tb + 1) / 2 = tb from by omega, t4]
    · rw [if_neg hc]
      exact hskip
theorem ext_best : ∀ (left : List S45) (i : Nat) (win : List Int), l.drop i = left → (∀ b ∈ left, 1 ≤ b.f1) → ∀ bits, okS U l win (choiceP left.length bits i) = true →
    valP l (choiceP left.length bits i) ≤ (ext U l left i win).2 ∧ (valP l (choiceP left.length bits i) = (ext U l left i win).2 → choiceP left.length bits i = (ext U l left i win).1 ∨ lessP (ext U l left i win).1 (choiceP left.length bits i) = true)
  | [], i, win, _, _, bits, _ => ⟨by simp [choiceP, ext, valP], fun _ => .inl (by simp [choiceP, ext])⟩
  | b :: left, i, win, h, hp, bits, hok => by
    obtain ⟨hg, hd⟩ := drop_getD i b left h
    have hb := hp b (by simp)
    have hl : ∀ x ∈ left, 1 ≤ x.f1 := fun x hx => hp x (by simp [hx])
    have hs := ext_best left (i + 1) win hd hl (bits / 2)
    have ht := ext_best left (i + 1) (win ++ [(i : Int)]) hd hl (bits / 2)
    have hge := choice_ge left.length (bits / 2) (i + 1)
    have htb := ext_bounds (U := U) (l := l) left (i + 1) (win ++ [(i : Int)]) hl
    simp only [List.length_cons, choiceP] at hok ⊢
    by_cases hbit : bits % 2 = 1
    · rw [if_pos hbit] at hok ⊢
      simp only [okS, cf, hg, Bool.and_eq_true] at hok
      obtain ⟨⟨hU, hnc⟩, hrest⟩ := hok
      obtain ⟨h1, h2⟩ := ht hrest
      unfold ext
      rw [if_pos (by simp only [Bool.and_eq_true]; exact ⟨hU, hnc⟩)]
      have hv : valP l ((i : Int) :: choiceP left.length (bits / 2) (i + 1)) = b.f1 + valP l (choiceP left.length (bits / 2) (i + 1)) := by
        simp only [valP, List.map_cons, List.sum_cons, hg]
      rw [hv]
      split
      · exact ⟨by omega, fun e => by omega⟩
      · refine ⟨by show _ ≤ (_, _).2; simp only; omega, fun e => ?_⟩
        simp only at e ⊢
        rcases h2 (by omega) with h3 | h3
        · exact .inl (by rw [h3])
        · exact .inr (by simp only [lessP, if_true]; exact h3)
    · rw [if_neg hbit] at hok ⊢
      obtain ⟨h1, h2⟩ := hs hok
      unfold ext
      split
      · split
        · exact ⟨h1, h2⟩
        · refine ⟨by show _ ≤ (_, _).2; simp only; omega, fun e => .inr ?_⟩
          simp only at e ⊢
          cases hc : choiceP left.length (bits / 2) (i + 1) with
          | nil =>
            rw [hc] at e
            simp only [valP, List.map_nil, List.sum_nil] at e
            omega
          | cons k s =>
            have := hge k (by rw [hc]; simp)
            simp only [lessP]
            rw [if_neg (by omega)]
            simp
            omega
      · exact ⟨h1, h2⟩
theorem less_irrefl : ∀ s, lessP s s = false
  | [] => rfl
  | a :: s => by simp [lessP, less_irrefl s]
theorem less_trans : ∀ a b c, lessP a b = true → lessP b c = true → lessP a c = true
  | [], [], _, h, _ => by simp [lessP] at h
  | [], _ :: _, [], _, h => by simp [lessP] at h
  | [], _ :: _, _ :: _, _, _ => rfl
  | _ :: _, [], _, h, _ => by simp [lessP] at h
  | _ :: _, _ :: _, [], _, h => by simp [lessP] at h
  | x :: a, y :: b, z :: c, h1, h2 => by
    simp only [lessP] at h1 h2 ⊢
    by_cases e1 : x = y
    · subst e1
      rw [if_pos rfl] at h1
      by_cases e2 : x = z
      · subst e2
        rw [if_pos rfl] at h2 ⊢
        exact less_trans a b c h1 h2
      · rw [if_neg e2] at h2 ⊢
        exact h2
    · rw [if_neg e1] at h1
      simp only [decide_eq_true_eq] at h1
      by_cases e2 : y = z
      · subst e2
        rw [if_neg e1]
        simpa using h1
      · rw [if_neg e2] at h2
        simp only [decide_eq_true_eq] at h2
        rw [if_neg (by omega)]
        simp only [decide_eq_true_eq]
        omega
end
end Go.Proofs.Ytecbfpcidoilmaa.H

/- Choices as sets of places: the best one, told without lists. Plain. -/
namespace Go.Proofs.Ytecbfpcidoilmaa.H
open Go.RowKit
set_option linter.unusedVariables false
set_option linter.unusedSimpArgs false
/-- The places from i on, n of them, at which p holds. -/
def sel (p : Nat → Bool) : Nat → Nat → List Int
  | 0, _ => []
  | n + 1, i => if p i then (i : Int) :: sel p n (i + 1) else sel p n (i + 1)
def sumF (f : Nat → Int) : Nat → Nat → Int
  | 0, _ => 0
  | n + 1, i => f i + sumF f n (i + 1)
theorem mem_sel (p : Nat → Bool) (x : Int) : ∀ n i, x ∈ sel p n i ↔ ∃ k, i ≤ k ∧ k < i + n ∧ p k = true ∧ x = (k : Int)
  | 0, i => by simp [sel]; intro k h1 h2; omega
  | n + 1, i => by
    have ih := mem_sel p x n (i + 1)
    unfold sel
    by_cases h : p i = true
    · rw [if_pos h, List.mem_cons, ih]
      constructor
      · rintro (rfl | ⟨k, h1, h2, h3, h4⟩)
        · exact ⟨i, by omega, by omega, h, rfl⟩
        · exact ⟨k, by omega, by omega, h3, h4⟩
      · rintro ⟨k, h1, h2, h3, h4⟩
        by_cases e : k = i
        · subst e; exact .inl h4
        · exact .inr ⟨k, by omega, by omega, h3, h4⟩
    · rw [if_neg h, ih]
      constructor
      · rintro ⟨k, h1, h2, h3, h4⟩
        exact ⟨k, by omega, by omega, h3, h4⟩
      · rintro ⟨k, h1, h2, h3, h4⟩
        by_cases e : k = i
        · subst e; exact absurd h3 h
        · exact ⟨k, by omega, by omega, h3, h4⟩
theorem mem_sel0 (p : Nat → Bool) (n : Nat) (x : Int) : x ∈ sel p n 0 ↔ ∃ k, k < n ∧ p k = true ∧ x = (k : Int) := by
  rw [mem_sel]
  constructor
  · rintro ⟨k, h1, h2, h3, h4⟩; exact ⟨k, by omega, h3, h4⟩
  · rintro ⟨k, h2, h3, h4⟩; exact ⟨k, by omega, by omega, h3, h4⟩
theorem rise_sel (p : Nat → Bool) : ∀ n i, (sel p n i).Pairwise (· < ·)
  | 0, _ => List.Pairwise.nil
  | n + 1, i => by
    unfold sel
    split
    · refine List.pairwise_cons.2 ⟨fun x hx => ?_, rise_sel p n (i + 1)⟩
      obtain ⟨k, h1, h2, h3, rfl⟩ := (mem_sel p x n (i + 1)).1 hx
      omega
    · exact rise_sel p n (i + 1)
theorem rise_ext : ∀ (s t : List Int), s.Pairwise (· < ·) → t.Pairwise (· < ·) → (∀ x, x ∈ s ↔ x ∈ t) → s = t
  | [], [], _, _, _ => rfl
  | [], y :: t, _, _, h => by have := (h y).2 (by simp); simp at this
  | x :: s, [], _, _, h => by have := (h x).1 (by simp); simp at this
  | x :: s, y :: t, hs, ht, h => by
    obtain ⟨s1, s2⟩ := List.pairwise_cons.1 hs
    obtain ⟨t1, t2⟩ := List.pairwise_cons.1 ht
    have e : x = y := by
      rcases List.mem_cons.1 ((h x).1 (by simp)) with e | e
      · exact e
      · rcases List.mem_cons.1 ((h y).2 (by simp)) with e2 | e2
        · exact e2.symm
        · have := t1 x e; have := s1 y e2; omega
    subst e
    rw [rise_ext s t s2 t2 (fun z => by
      constructor
      · intro hz
        rcases List.mem_cons.1 ((h z).1 (by simp [hz])) with e | e
        · subst e; exact absurd (s1 z hz) (Int.lt_irrefl _)
        · exact e
      · intro hz
        rcases List.mem_cons.1 ((h z).2 (by simp [hz])) with e | e
        · subst e; exact absurd (t1 z hz) (Int.lt_irrefl _)
        · exact e)]
theorem sel_of (n : Nat) (s : List Int) (h0 : ∀ k ∈ s, 0 ≤ k ∧ k < n) (h1 : s.Pairwise (· < ·)) : s = sel (fun k => decide ((k : Int) ∈ s)) n 0 := by
  refine rise_ext _ _ h1 (rise_sel _ _ _) (fun x => ?_)
  rw [mem_sel0]
  constructor
  · intro hx
    obtain ⟨a, b⟩ := h0 x hx
    obtain ⟨k, rfl⟩ := Int.eq_ofNat_of_zero_le a
    exact ⟨k, by omega, by simpa using hx, rfl⟩
  · rintro ⟨k, h2, h3, rfl⟩; simpa using h3
theorem choice_sel (p : Nat → Bool) : ∀ n i, ∃ bits, bits < 2 ^ n ∧ choiceP n bits i = sel p n i
  | 0, i => ⟨0, by simp, rfl⟩
  | n + 1, i => by
    obtain ⟨b, h1, h2⟩ := choice_sel p n (i + 1)
    by_cases h : p i = true
    · refine ⟨2 * b + 1, by rw [Nat.pow_succ]; omega, ?_⟩
      unfold choiceP sel
      rw [if_pos (by omega), if_pos h, show (2 * b + 1) / 2 = b from by omega, h2]
    · refine ⟨2 * b, by rw [Nat.pow_succ]; omega, ?_⟩
      unfold choiceP sel
      rw [if_neg (by omega), if_neg h, show 2 * b / 2 = b from by omega, h2]
theorem sumF_congr (f g : Nat → Int) : ∀ n i, (∀ k, i ≤ k → k < i + n → f k = g k) → sumF f n i = sumF g n i
  | 0, _, _ => rfl
  | n + 1, i, h => by
    unfold sumF
    rw [h i (by omega) (by omega), sumF_congr f g n (i + 1) (fun k h1 h2 => h k (by omega) (by omega))]
theorem sumF_add (f g : Nat → Int) : ∀ n i, sumF (fun k => f k + g k) n i = sumF f n i + sumF g n i
  | 0, _ => rfl
  | n + 1, i => by unfold sumF; rw [sumF_add f g n (i + 1)]; omega
theorem sumF_zero : ∀ (f : Nat → Int) n i, (∀ k, i ≤ k → k < i + n → f k = 0) → sumF f n i = 0
  | f, 0, _, _ => rfl
  | f, n + 1, i, h => by
    unfold sumF
    rw [h i (by omega) (by omega), sumF_zero f n (i + 1) (fun k h1 h2 => h k (by omega) (by omega))]
    rfl
theorem sumF_one (f : Nat → Int) (a : Nat) : ∀ n i, i ≤ a → a < i + n → (∀ k, i ≤ k → k < i + n → k ≠ a → f k = 0) → sumF f n i = f a
  | 0, i, h1, h2, _ => by omega
  | n + 1, i, h1, h2, h => by
    unfold sumF
    by_cases e : i = a
    · subst e
      rw [sumF_zero f n (i + 1) (fun k h3 h4 => h k (by omega) (by omega) (by omega))]
      omega
    · rw [h i (by omega) (by omega) e, sumF_one f a n (i + 1) (by omega) (by omega) (fun k h3 h4 h5 => h k (by omega) (by omega) h5)]
      omega
/-- The price of the bid at a place; the value of a set of places. -/
def prc (l : List S45) (k : Nat) : Int := (l.getD k z45).f1
def valB (l : List S45) (p : Nat → Bool) : Int := sumF (fun k => if p k then prc l k else 0) l.length 0
def cj (l : List S45) (a b : Nat) : Bool := conf (l.getD a z45) (l.getD b z45)
theorem conf_comm (a b : S45) : conf a b = conf b a := by
  unfold conf
  have h1 : (a.f0 == b.f0) = (b.f0 == a.f0) := by rw [Bool.eq_iff_iff]; simp; exact ⟨fun h => h.symm, fun h => h.symm⟩
  have h2 : (b.f2.any fun k => a.f2.contains k) = (a.f2.any fun k => b.f2.contains k) := by
    rw [Bool.eq_iff_iff, List.any_eq_true, List.any_eq_true]
    constructor <;> (rintro ⟨x, h1, h2⟩; exact ⟨x, by simpa using h2, by simpa using h1⟩)
  rw [h1, h2]
theorem cj_comm (l : List S45) (a b : Nat) : cj l a b = cj l b a := conf_comm _ _
theorem prc_pos (l : List S45) (hp : ∀ b ∈ l, 1 ≤ b.f1) (k : Nat) (hk : k < l.length) : 1 ≤ prc l k := by
  unfold prc
  exact hp _ (by simp [List.getD, hk])
theorem val_sel (l : List S45) (p : Nat → Bool) : ∀ n i, valP l (sel p n i) = sumF (fun k => if p k then prc l k else 0) n i
  | 0, _ => rfl
  | n + 1, i => by
    have ih := val_sel l p n (i + 1)
    unfold sel sumF
    by_cases h : p i = true
    · rw [if_pos h, if_pos h, ← ih]; rfl
    · rw [if_neg h, if_neg h, ← ih]; omega
theorem valB_sel (l : List S45) (p : Nat → Bool) : valP l (sel p l.length 0) = valB l p := val_sel l p _ _
/-- A set of places that may win together. -/
def FeasU (U : S45 → Bool) (l : List S45) (p : Nat → Bool) : Prop :=
  (∀ a, a < l.length → p a = true → U (l.getD a z45) = true) ∧ ∀ a b, a < l.length → b < l.length → a ≠ b → p a = true → p b = true → cj l a b = false
/-- q has the first place at which they differ. -/
def dlt (n : Nat) (q p : Nat → Bool) : Prop := ∃ d, d < n ∧ q d = true ∧ p d = false ∧ ∀ x, x < d → q x = p x
structure IsBest (U : S45 → Bool) (l : List S45) (p : Nat → Bool) : Prop where
  feas : FeasU U l p
  max : ∀ q, FeasU U l q → valB l q ≤ valB l p
  first : ∀ q, FeasU U l q → valB l q = valB l p → ¬ dlt l.length q p
theorem ok_of_pairs (U : S45 → Bool) (l : List S45) : ∀ (s win : List Int), okS U l win s = true ↔ ((∀ k ∈ s, U (l.getD k.toNat z45) = true) ∧ (∀ w ∈ win, ∀ k ∈ s, cf l w k = false) ∧ s.Pairwise (fun a b => cf l a b = false))
  | [], win => by simp [okS]
  | k :: s, win => by
    have ih := ok_of_pairs U l s (win ++ [k])
    simp only [okS, Bool.and_eq_true, ih, Bool.not_eq_true']
    constructor
    · rintro ⟨⟨h1, h2⟩, h3, h4, h5⟩
      have h2' : ∀ w ∈ win, cf l w k = false := fun w hw => by simpa using List.any_eq_false.1 h2 w hw
      refine ⟨fun x hx => ?_, fun w hw x hx => ?_, List.pairwise_cons.2 ⟨fun x hx => h4 k (by simp) x hx, h5⟩⟩
      · rcases List.mem_cons.1 hx with rfl | hx
        · exact h1
        · exact h3 x hx
      · rcases List.mem_cons.1 hx with rfl | hx
        · exact h2' w hw
        · exact h4 w (by simp [hw]) x hx
    · rintro ⟨h1, h2, h3⟩
      obtain ⟨h4, h5⟩ := List.pairwise_cons.1 h3
      refine ⟨⟨h1 k (by simp), List.any_eq_false.2 (fun w hw => by simpa using h2 w hw k (by simp))⟩, fun x hx => h1 x (by simp [hx]), fun w hw x hx => ?_, h5⟩
      rcases List.mem_append.1 hw with hw | hw
      · exact h2 w hw x (by simp [hx])
      · rw [List.mem_singleton] at hw; subst hw; exact h4 x hx
theorem ok_sel (U : S45 → Bool) (l : List S45) (p : Nat → Bool) : okS U l [] (sel p l.length 0) = true ↔ FeasU U l p := by
  rw [ok_of_pairs]
  constructor
  · rintro ⟨h1, _, h3⟩
    refine ⟨fun a ha hp => ?_, ?_⟩
    · have := h1 (a : Int) ((mem_sel0 p _ _).2 ⟨a, ha, hp, rfl⟩)
      simpa using this
    · have key : ∀ a b, a < l.length → b < l.length → a < b → p a = true → p b = true → cj l a b = false := by
        intro a b ha hb hab hpa hpb
        have hm : (a : Int) ∈ sel p l.length 0 := (mem_sel0 p _ _).2 ⟨a, ha, hpa, rfl⟩
        have hn : (b : Int) ∈ sel p l.length 0 := (mem_sel0 p _ _).2 ⟨b, hb, hpb, rfl⟩
        have hr := rise_sel p l.length 0
        generalize sel p l.length 0 = s at *
        induction s with
        | nil => simp at hm
        | cons x s ih =>
          obtain ⟨r1, r2⟩ := List.pairwise_cons.1 hr
          obtain ⟨c1, c2⟩ := List.pairwise_cons.1 h3
          rcases List.mem_cons.1 hm with e1 | e1
          · rcases List.mem_cons.1 hn with e2 | e2
            · omega
            · subst e1; exact c1 _ e2
          · rcases List.mem_cons.1 hn with e2 | e2
            · have := r1 _ e1; omega
            · exact ih (fun k hk => h1 k (by simp [hk])) (by simp) c2 e1 e2 r2
      intro a b ha hb hab hpa hpb
      rcases Nat.lt_or_gt_of_ne hab with h | h
      · exact key a b ha hb h hpa hpb
      · rw [cj_comm]; exact key b a hb ha h hpb hpa
  · rintro ⟨h1, h2⟩
    refine ⟨fun k hk => ?_, by simp, ?_⟩
    · obtain ⟨a, ha, hp, rfl⟩ := (mem_sel0 p _ _).1 hk
      exact h1 a ha hp
    · refine (rise_sel p l.length 0).imp_of_mem (fun {a b} ha hb hab => ?_)
      obtain ⟨x, hx, hpx, rfl⟩ := (mem_sel0 p _ _).1 ha
      obtain ⟨y, hy, hpy, rfl⟩ := (mem_sel0 p _ _).1 hb
      exact h2 x y hx hy (by omega) hpx hpy
theorem dlt_less (q p : Nat → Bool) : ∀ n i, (∃ d, i ≤ d ∧ d < i + n ∧ q d = true ∧ p d = false ∧ ∀ x, i ≤ x → x < d → q x = p x) → lessP (sel q n i) (sel p n i) = true ∨ ∃ t, t ≠ [] ∧ sel q n i = sel p n i ++ t
  | 0, i, ⟨d, h1, h2, _⟩ => by omega
  | n + 1, i, ⟨d, h1, h2, h3, h4, h5⟩ => by
    by_cases e : d = i
    · subst e
      unfold sel
      rw [if_pos h3, if_neg (by simp [h4])]
      cases hs : sel p n (d + 1) with
      | nil => exact .inr ⟨_, by simp, rfl⟩
      | cons y t =>
        have : (d : Int) < y := by
          obtain ⟨k, a, b, c, e⟩ := (mem_sel p y n (d + 1)).1 (by rw [hs]; simp)
          omega
        refine .inl ?_
        simp only [lessP]
        rw [if_neg (by omega)]
        simpa using this
    · have ih := dlt_less q p n (i + 1) ⟨d, by omega, by omega, h3, h4, fun x a b => h5 x (by omega) b⟩
      have hi := h5 i (by omega) (by omega)
      unfold sel
      by_cases hp : p i = true
      · rw [if_pos (by rw [hi]; exact hp), if_pos hp]
        rcases ih with ih | ⟨t, a, b⟩
        · exact .inl (by simp only [lessP, if_true]; exact ih)
        · exact .inr ⟨t, a, by rw [b]; rfl⟩
      · rw [if_neg (by rw [hi]; exact hp), if_neg hp]
        exact ih
theorem valP_append (l : List S45) (a b : List Int) : valP l (a ++ b) = valP l a + valP l b := by
  unfold valP
  rw [List.map_append, List.sum_append]
theorem valP_pos (l : List S45) (hp : ∀ b ∈ l, 1 ≤ b.f1) (t : List Int) (ht : t ≠ []) (h : ∀ k ∈ t, 0 ≤ k ∧ k < l.length) : 1 ≤ valP l t := by
  have h1 : ∀ s : List Int, (∀ k ∈ s, 0 ≤ k ∧ k < l.length) → 0 ≤ valP l s := by
    intro s
    induction s with
    | nil => intro _; exact Int.le_refl _
    | cons k s ih =>
      intro h
      have h2 := ih (fun x hx => h x (by simp [hx]))
      have h3 := h k (by simp)
      have h4 : 1 ≤ (l.getD k.toNat z45).f1 := prc_pos l hp k.toNat (by omega)
      simp only [valP, List.map_cons, List.sum_cons] at h2 ⊢
      omega
  cases t with
  | nil => exact absurd rfl ht
  | cons k s =>
    have h2 := h1 s (fun x hx => h x (by simp [hx]))
    have h3 := h k (by simp)
    have h4 : 1 ≤ (l.getD k.toNat z45).f1 := prc_pos l hp k.toNat (by omega)
    simp only [valP, List.map_cons, List.sum_cons] at h2 ⊢
    omega
/-- Of two of one value the one that has the first difference is the less. -/
theorem dlt_same (l : List S45) (hp : ∀ b ∈ l, 1 ≤ b.f1) (q p : Nat → Bool) (h : dlt l.length q p) (hv : valB l q ≤ valB l p) : lessP (sel q l.length 0) (sel p l.length 0) = true := by
  obtain ⟨d, h1, h2, h3, h4⟩ := h
  rcases dlt_less q p l.length 0 ⟨d, by omega, by omega, h2, h3, fun x _ hx => h4 x hx⟩ with h5 | ⟨t, h5, h6⟩
  · exact h5
  · exfalso
    have h7 := valP_pos l hp t h5 (fun k hk => by
      obtain ⟨a, ha, _, rfl⟩ := (mem_sel0 q l.length k).1 (by rw [h6]; simp [hk])
      omega)
    rw [← valB_sel, ← valB_sel, h6, valP_append] at hv
    omega
theorem search_best (U : S45 → Bool) (l : List S45) (hp : ∀ b ∈ l, 1 ≤ b.f1) : ∃ p, IsBest U l p ∧ searchP U l = (sel p l.length 0, valB l p) := by
  obtain ⟨e1, e2, be, e3, e4⟩ := ext_valid (U := U) l 0 [] (l := l) rfl
  have hb := ext_best (U := U) (l := l) l 0 [] rfl hp
  rw [← search_ext hp] at e1 e2 e4 hb
  have hr := choice_ge l.length be 0
  have hs : (searchP U l).1 = sel (fun k => decide ((k : Int) ∈ (searchP U l).1)) l.length 0 := sel_of l.length _ (fun k hk => by
    rw [← e4] at hk
    have := hr k hk
    omega) (by
    rw [← e4]
    have : ∀ (n bits i : Nat), (choiceP n bits i).Pairwise (· < ·) := by
      intro n
      induction n with
      | zero => intro _ _; exact List.Pairwise.nil
      | succ n ih =>
        intro bits i
        unfold choiceP
        split
        · refine List.pairwise_cons.2 ⟨fun x hx => ?_, ih _ _⟩
          have := choice_ge n (bits / 2) (i + 1) x hx
          omega
        · exact ih _ _
    exact this _ _ _)
  generalize hpp : (fun k : Nat => decide ((k : Int) ∈ (searchP U l).1)) = p at hs
  have hv : (searchP U l).2 = valB l p := by rw [← e2, hs, valB_sel]
  refine ⟨p, ⟨?_, ?_, ?_⟩, by rw [← hs, ← hv]⟩
  · rw [← ok_sel, ← hs]; exact e1
  · intro q hq
    obtain ⟨bits, b1, b2⟩ := choice_sel q l.length 0
    have := (hb bits (by rw [b2]; exact (ok_sel U l q).2 hq)).1
    rw [b2, valB_sel] at this
    omega
  · intro q hq hvq hd
    obtain ⟨bits, b1, b2⟩ := choice_sel q l.length 0
    have h1 := (hb bits (by rw [b2]; exact (ok_sel U l q).2 hq)).2 (by rw [b2, valB_sel]; omega)
    have h2 := dlt_same l hp q p hd (by omega)
    rw [b2, hs] at h1
    rcases h1 with h1 | h1
    · rw [h1, less_irrefl] at h2; cases h2
    · have := less_trans _ _ _ h1 h2
      rw [less_irrefl] at this
      cases this
end Go.Proofs.Ytecbfpcidoilmaa.H

/- What bids.Parts tells: the components of the conflicts. Plain. -/
namespace Go.Proofs.Ytecbfpcidoilmaa.H
open Go.RowKit
set_option linter.unusedVariables false
set_option linter.unusedSimpArgs false
/-- Place j can be reached from place i by conflicts. -/
def Conn (l : List S45) (i j : Nat) : Prop := ∀ S : Nat → Prop, S i → (∀ a b, a < l.length → b < l.length → S a → cj l a b = true → S b) → S j
section
variable {l : List S45}
theorem Conn.refl (i : Nat) : Conn l i i := fun _ h _ => h
theorem Conn.trans {i j k : Nat} (h1 : Conn l i j) (h2 : Conn l j k) : Conn l i k := fun S hi hc => h2 S (h1 S hi hc) hc
theorem Conn.one {i j : Nat} (hi : i < l.length) (hj : j < l.length) (h : cj l i j = true) : Conn l i j := fun S hs hc => hc i j hi hj hs h
theorem Conn.symm {i j : Nat} (h : Conn l i j) : Conn l j i :=
  h (fun x => Conn l x i) (Conn.refl i) (fun a b ha hb hs hc => (Conn.one hb ha (by rw [cj_comm]; exact hc)).trans hs)
/-- From state a to state b of a visit from i: what is new, and all that is new is reached from i. -/
structure VNew (l : List S45) (i : Nat) (a b : List Bool × List Int) (ns : List Nat) : Prop where
  grp : b.2 = a.2 ++ ns.map (fun k : Nat => (k : Int))
  nodup : ns.Nodup
  mem : ∀ k, k ∈ ns ↔ k < l.length ∧ a.1.getD k true = false ∧ b.1.getD k true = true
  mono : ∀ k, a.1.getD k true = true → b.1.getD k true = true
  conn : ∀ k ∈ ns, Conn l i k
theorem VNew.refl (i : Nat) (a : List Bool × List Int) : VNew l i a a [] :=
  ⟨by simp, List.nodup_nil, fun k => ⟨fun h => by simp at h, fun h => by rw [h.2.1] at h; cases h.2.2⟩, fun _ h => h, fun k hk => by simp at hk⟩
theorem VNew.trans {i j : Nat} {a b c : List Bool × List Int} {ns ms : List Nat} (h1 : VNew l i a b ns) (h2 : VNew l j b c ms) (hij : Conn l i j) : VNew l i a c (ns ++ ms) := by
  refine ⟨by rw [h2.grp, h1.grp, List.map_append, List.append_assoc], ?_, fun k => ?_, fun k hk => h2.mono k (h1.mono k hk), fun k hk => ?_⟩
  · rw [List.nodup_append]
    refine ⟨h1.nodup, h2.nodup, fun x hx y hy e => ?_⟩
    subst e
    have := ((h1.mem x).1 hx).2.2
    rw [((h2.mem x).1 hy).2.1] at this
    cases this
  · rw [List.mem_append, h1.mem, h2.mem]
    constructor
    · rintro (⟨a1, a2, a3⟩ | ⟨a1, a2, a3⟩)
      · exact ⟨a1, a2, h2.mono k a3⟩
      · refine ⟨a1, ?_, a3⟩
        cases h : a.1.getD k true
        · rfl
        · rw [h1.mono k h] at a2; cases a2
    · rintro ⟨a1, a2, a3⟩
      cases h : b.1.getD k true
      · exact .inr ⟨a1, rfl, a3⟩
      · exact .inl ⟨a1, a2, rfl⟩
  · rcases List.mem_append.1 hk with hk | hk
    · exact h1.conn k hk
    · exact hij.trans (h2.conn k hk)
/-- All that is new is closed. -/
def VClosed (l : List S45) (a b : List Bool × List Int) : Prop := ∀ k, k < l.length → a.1.getD k true = false → b.1.getD k true = true → ∀ j, j < l.length → cj l k j = true → b.1.getD j true = true
theorem getD_set (s : List Bool) (i k : Nat) : (s.set i true).getD k true = if k = i then true else s.getD k true := by
  simp only [List.getD, List.getElem?_set]
  by_cases h : i = k
  · subst h
    rw [if_pos rfl, if_pos rfl]
    split <;> rfl
  · rw [if_neg h, if_neg (fun e => h e.symm)]
theorem visit_new : ∀ (f i : Nat) (st : List Bool × List Int) (n : Nat), i < l.length → st.1.getD i true = false → Vis l f n st → (∃ ns, VNew l i st (visitP l f i st) ns) ∧ VClosed l st (visitP l f i st) ∧ (visitP l f i st).1.getD i true = true := by
  intro f
  induction f with
  | zero =>
    intro i st n hi hs h
    exfalso
    have h1 := h.2.1
    have h2 := unseen_set st.1 i hs
    omega
  | succ f ih =>
    intro i st n hi hs h
    have h0 : Vis l f n (st.1.set i true, st.2 ++ [(i : Int)]) := by
      have := unseen_set st.1 i hs
      refine ⟨by simpa using h.1, ?_, ?_⟩
      · have := h.2.1; simp only []; omega
      · have := h.2.2; simp only [List.length_append, List.length_cons, List.length_nil]; omega
    have hn0 : VNew l i st (st.1.set i true, st.2 ++ [(i : Int)]) [i] := by
      refine ⟨by simp, by simp, fun k => ?_, fun k hk => ?_, fun k hk => ?_⟩
      · rw [List.mem_singleton, getD_set]
        constructor
        · rintro rfl; exact ⟨hi, hs, by simp⟩
        · rintro ⟨a1, a2, a3⟩
          by_cases e : k = i
          · exact e
          · rw [if_neg e, a2] at a3; cases a3
      · rw [getD_set]; split
        · rfl
        · exact hk
      · rw [List.mem_singleton] at hk; subst hk; exact Conn.refl _
    have h1 : ∀ (js : List Nat) (s : List Bool × List Int) (ns : List Nat), (∀ j ∈ js, j < l.length) → Vis l f n s → VNew l i st s ns → s.1.getD i true = true →
        (∀ k, k < l.length → st.1.getD k true = false → k ≠ i → s.1.getD k true = true → ∀ j, j < l.length → cj l k j = true → s.1.getD j true = true) →
        (∃ ms, VNew l i st (js.foldl (vstep l f i) s) ms) ∧ (∀ k, s.1.getD k true = true → (js.foldl (vstep l f i) s).1.getD k true = true) ∧
        (∀ k, k < l.length → st.1.getD k true = false → k ≠ i → (js.foldl (vstep l f i) s).1.getD k true = true → ∀ j, j < l.length → cj l k j = true → (js.foldl (vstep l f i) s).1.getD j true = true) ∧
        (∀ j ∈ js, cj l i j = true → (js.foldl (vstep l f i) s).1.getD j true = true) := by
      intro js
      induction js with
      | nil => intro s ns _ _ hn _ hc; exact ⟨⟨ns, hn⟩, fun _ h => h, hc, by simp⟩
      | cons j js ihj =>
        intro s ns hj hv hn hsi hc
        have hjl := hj j (by simp)
        simp only [List.foldl_cons]
        have key : ∃ ms, VNew l i st (vstep l f i s j) ms ∧ Vis l f n (vstep l f i s j) ∧ (∀ k, s.1.getD k true = true → (vstep l f i s j).1.getD k true = true) ∧
            (∀ k, k < l.length → st.1.getD k true = false → k ≠ i → (vstep l f i s j).1.getD k true = true → ∀ m, m < l.length → cj l k m = true → (vstep l f i s j).1.getD m true = true) ∧
            (cj l i j = true → (vstep l f i s j).1.getD j true = true) := by
          obtain ⟨sn, gr⟩ := s
          cases hsj : sn.getD j true
          · cases hcj : cj l i j
            · rw [vstep_apart hcj]
              exact ⟨ns, hn, hv, fun _ h => h, hc, by simp⟩
            · rw [vstep_in hsj hcj]
              obtain ⟨⟨ms, hm⟩, hcl, hself⟩ := ih j (sn, gr) n hjl hsj hv
              refine ⟨ns ++ ms, hn.trans hm (Conn.one hi hjl hcj), visit_vis l f j (sn, gr) n hjl hsj hv, hm.mono, ?_, fun _ => hself⟩
              intro k hk hk0 hki hk1 m hml hkm
              cases hks : sn.getD k true
              · exact hcl k hk hks hk1 m hml hkm
              · exact hm.mono m (hc k hk hk0 hki hks m hml hkm)
          · rw [vstep_seen hsj]
            exact ⟨ns, hn, hv, fun _ h => h, hc, fun _ => hsj⟩
        obtain ⟨ms, k1, k2, k3, k4, k5⟩ := key
        obtain ⟨r1, r2, r3, r4⟩ := ihj (vstep l f i s j) ms (fun x hx => hj x (by simp [hx])) k2 k1 (k3 i hsi) k4
        refine ⟨r1, fun k hk => r2 k (k3 k hk), r3, fun x hx hcx => ?_⟩
        rcases List.mem_cons.1 hx with rfl | hx
        · exact r2 _ (k5 hcx)
        · exact r4 x hx hcx
    obtain ⟨r1, r2, r3, r4⟩ := h1 (List.range l.length) _ _ (fun j hj => List.mem_range.1 hj) h0 hn0 (by simp only [getD_set]; simp) (fun k hk hk0 hki hk1 j hj hc => by
      simp only [getD_set] at hk1
      rw [if_neg hki, hk0] at hk1
      cases hk1)
    rw [visit_succ]
    have hself := r2 i (by simp only [getD_set]; simp)
    refine ⟨r1, fun k hk hk0 hk1 j hj hc => ?_, hself⟩
    by_cases e : k = i
    · subst e; exact r4 j (List.mem_range.2 hj) hc
    · exact r3 k hk hk0 e hk1 j hj hc
end
open Classical in
/-- The places reached from i, in their order. -/
noncomputable def compP (l : List S45) (i : Nat) : List Int := sel (fun k => decide (Conn l i k)) l.length 0
open Classical in
/-- The first of its component. -/
noncomputable def isMin (l : List S45) (i : Nat) : Bool := decide (∀ j, j < i → ¬ Conn l i j)
theorem sorted_eq (xs ys : List Int) (hn : xs.Nodup) (hy : ys.Pairwise (· < ·)) (h : ∀ x, x ∈ xs ↔ x ∈ ys) : (xs.mergeSort fun x y => decide (x ≤ y)) = ys := by
  have hp := List.mergeSort_perm xs (fun x y => decide (x ≤ y))
  have hs : (xs.mergeSort fun x y => decide (x ≤ y)).Pairwise (fun a b => decide (a ≤ b) = true) :=
    List.pairwise_mergeSort (fun a b c h1 h2 => by simp only [decide_eq_true_eq] at *; omega) (fun a b => by simp only [Bool.or_eq_true, decide_eq_true_eq]; omega) xs
  have hnd : (xs.mergeSort fun x y => decide (x ≤ y)).Nodup := hp.nodup_iff.2 hn
  refine rise_ext _ _ ?_ hy (fun x => by rw [hp.mem_iff]; exact h x)
  have := List.Pairwise.and hs (List.nodup_iff_pairwise_ne.1 hnd)
  refine this.imp (fun {a b} hab => ?_)
  have h1 : a ≤ b := by simpa using hab.1
  have h2 := hab.2
  omega
open Classical in
theorem parts_eq (l : List S45) : partsP l = ((List.range l.length).filter (isMin l)).map (compP l) := by
  have h : ∀ m, m ≤ l.length → ∃ sn, (List.range m).foldl (partsStep l) (List.replicate l.length false, []) = (sn, ((List.range m).filter (isMin l)).map (compP l)) ∧ sn.length = l.length ∧ ∀ k, k < l.length → (sn.getD k true = true ↔ ∃ i, i < m ∧ Conn l i k) := by
    intro m
    induction m with
    | zero =>
      intro _
      refine ⟨List.replicate l.length false, rfl, by simp, fun k hk => ?_⟩
      constructor
      · intro h; simp [List.getD, List.getElem?_replicate, hk] at h
      · rintro ⟨i, hi, _⟩; omega
    | succ m ih =>
      intro hm
      obtain ⟨sn, h1, h2, h3⟩ := ih (by omega)
      rw [List.range_succ, List.foldl_append, h1, List.filter_append, List.map_append]
      simp only [List.foldl_cons, List.foldl_nil]
      cases hs : sn.getD m true
      · have hmin : isMin l m = true := by
          unfold isMin
          rw [decide_eq_true_eq]
          intro j hj hc
          have := (h3 m (by omega)).2 ⟨j, hj, hc.symm⟩
          rw [hs] at this
          cases this
        have hv : Vis l l.length (unseen sn) (sn, []) := ⟨h2, by have := unseen_le sn; simp only []; omega, by simp⟩
        obtain ⟨⟨ns, hn⟩, hcl, hself⟩ := visit_new l.length m (sn, []) (unseen sn) (by omega) hs hv
        have hv2 := visit_vis l l.length m (sn, []) (unseen sn) (by omega) hs hv
        have hstep : partsStep l (sn, ((List.range m).filter (isMin l)).map (compP l)) m = ((visitP l l.length m (sn, [])).1, ((List.range m).filter (isMin l)).map (compP l) ++ [(visitP l l.length m (sn, [])).2.mergeSort fun x y => decide (x ≤ y)]) := by
          unfold partsStep; rw [show (sn, ((List.range m).filter (isMin l)).map (compP l)).1 = sn from rfl, hs]; rfl
        generalize visitP l l.length m (sn, []) = r at *
        have hmem : ∀ k, k < l.length → (k ∈ ns ↔ Conn l m k) := by
          intro k hk
          constructor
          · exact hn.conn k
          · intro hc
            have hu : sn.getD k true = false := by
              cases hsk : sn.getD k true
              · rfl
              · obtain ⟨i, hi, hik⟩ := (h3 k hk).1 hsk
                have := (h3 m (by omega)).2 ⟨i, hi, hik.trans hc.symm⟩
                rw [hs] at this
                cases this
            refine (hn.mem k).2 ⟨hk, hu, hc (fun x => r.1.getD x true = true) hself (fun a b ha hb hra hab => ?_)⟩
            cases hsa : sn.getD a true
            · exact hcl a ha hsa hra b hb hab
            · obtain ⟨i, hi, hia⟩ := (h3 a ha).1 hsa
              exact hn.mono b ((h3 b hb).2 ⟨i, hi, hia.trans (Conn.one ha hb hab)⟩)
        have hsort : (r.2.mergeSort fun x y => decide (x ≤ y)) = compP l m := by
          refine sorted_eq _ _ ?_ (rise_sel _ _ _) (fun x => ?_)
          · rw [hn.grp]
            simp only [List.nil_append]
            rw [List.nodup_iff_pairwise_ne, List.pairwise_map]
            exact (List.nodup_iff_pairwise_ne.1 hn.nodup).imp (fun h e => h (by omega))
          · unfold compP
            rw [hn.grp, mem_sel0]
            simp only [List.nil_append, List.mem_map, decide_eq_true_eq]
            constructor
            · rintro ⟨k, hk, rfl⟩
              have hkl := ((hn.mem k).1 hk).1
              exact ⟨k, hkl, (hmem k hkl).1 hk, rfl⟩
            · rintro ⟨k, hk, hc, rfl⟩
              exact ⟨k, (hmem k hk).2 hc, rfl⟩
        refine ⟨r.1, by rw [hstep, hsort]; simp [hmin], hv2.1, fun k hk => ?_⟩
        constructor
        · intro hrk
          cases hsk : sn.getD k true
          · exact ⟨m, by omega, hn.conn k ((hn.mem k).2 ⟨hk, hsk, hrk⟩)⟩
          · obtain ⟨i, hi, hik⟩ := (h3 k hk).1 hsk
            exact ⟨i, by omega, hik⟩
        · rintro ⟨i, hi, hik⟩
          by_cases e : i = m
          · subst e; exact ((hn.mem k).1 ((hmem k hk).2 hik)).2.2
          · exact hn.mono k ((h3 k hk).2 ⟨i, by omega, hik⟩)
      · obtain ⟨i, hi, him⟩ := (h3 m (by omega)).1 hs
        have hmin : isMin l m = false := by
          unfold isMin
          rw [decide_eq_false_iff_not]
          exact fun h => h i hi him.symm
        refine ⟨sn, by unfold partsStep; rw [show (sn, ((List.range m).filter (isMin l)).map (compP l)).1 = sn from rfl, hs]; simp [hmin], h2, fun k hk => ?_⟩
        rw [h3 k hk]
        constructor
        · rintro ⟨j, hj, hjk⟩; exact ⟨j, by omega, hjk⟩
        · rintro ⟨j, hj, hjk⟩
          by_cases e : j = m
          · subst e; exact ⟨i, hi, him.trans hjk⟩
          · exact ⟨j, by omega, hjk⟩
  obtain ⟨sn, h1, _⟩ := h l.length (Nat.le_refl _)
  unfold partsP
  rw [h1]
end Go.Proofs.Ytecbfpcidoilmaa.H

/- What a printed function computes with rounds enough: its laws; the generators of the reference. -/
namespace Go.Proofs.Ytecbfpcidoilmaa.H
open Go.RowKit Go.Proofs.YtecbfpcidoilmaaW.PrintWords Go.Proofs.YtecbfpcidoilmaaW.PrintLast
set_option linter.unusedVariables false
set_option linter.unusedSimpArgs false
/-- With rounds enough, f tells a. -/
def Ev {α : Type} (f : Nat → Option α) (a : α) : Prop := ∃ K, ∀ k, K ≤ k → f k = some a
section
variable {α β : Type} {f : Nat → Option α} {a : α}
theorem Ev.succ (h : Ev (fun k => f (k + 1)) a) : Ev f a := by
  obtain ⟨K, h⟩ := h
  refine ⟨K + 1, fun k hk => ?_⟩
  obtain ⟨j, rfl⟩ : ∃ j, k = j + 1 := ⟨k - 1, by omega⟩
  exact h j (by omega)
theorem Ev.bind {g : Nat → α → Option β} {b : β} (hf : Ev f a) (hg : Ev (fun k => g k a) b) : Ev (fun k => (f k).bind (g k)) b := by
  obtain ⟨K, h⟩ := hf
  obtain ⟨K2, h2⟩ := hg
  exact ⟨max K K2, fun k hk => by
    show (f k).bind (g k) = some b
    rw [h k (by omega)]
    exact h2 k (by omega)⟩
theorem Ev.some_ : Ev (fun _ => some a) a := ⟨0, fun _ _ => rfl⟩
theorem Ev.ex (h : Ev f a) : ∃ k, f k = some a := by
  obtain ⟨K, h⟩ := h
  exact ⟨K, h K (Nat.le_refl _)⟩
theorem Ev.of_mono (hm : ∀ k, LeO (f k) (f (k + 1))) (h : ∃ k, f k = some a) : Ev f a := by
  obtain ⟨K, h⟩ := h
  refine ⟨K, fun k hk => ?_⟩
  obtain ⟨d, rfl⟩ := Nat.exists_eq_add_of_le hk
  clear hk
  induction d with
  | zero => exact h
  | succ d ih => exact hm (K + d) _ ih
end
theorem wf_bounds (n : Int) (h : (Lit.int .i64 n).wf = true) : -9223372036854775808 ≤ n ∧ n ≤ 9223372036854775807 := by
  simpa [Lit.wf, IntKind.min, IntKind.max, IntKind.signed, IntKind.bits] using h
theorem w64 (x : Int) (h0 : -9223372036854775808 ≤ x) (h1 : x ≤ 9223372036854775807) : wrap64 x = x := by
  unfold wrap64
  omega
theorem around_ok (n most : Int) (hn : (Lit.int .i64 n).wf = true) (hm : 0 < most) : ∃ r, worldmintref01_Around.f n most = some r ∧ 0 ≤ r ∧ r < most := by
  have hb := wf_bounds n hn
  unfold worldmintref01_Around.f
  by_cases h : n < 0
  · rw [if_pos h, if_neg (by omega), w64 (n + 1) (by omega) (by omega), w64 (-(n + 1)) (by omega) (by omega)]
    exact ⟨_, rfl, Int.tmod_nonneg _ (by omega), Int.tmod_lt_of_pos _ hm⟩
  · rw [if_neg h, if_neg (by omega)]
    exact ⟨_, rfl, Int.tmod_nonneg _ (by omega), Int.tmod_lt_of_pos _ hm⟩
theorem lots_ok (n : Int) (hn : (Lit.int .i64 n).wf = true) : ∃ r, worldmintref27_Lots.f n = some r ∧ 1 ≤ r ∧ r ≤ 8 := by
  obtain ⟨r, h, h0, h1⟩ := around_ok n 8 hn (by omega)
  unfold worldmintref27_Lots.f
  rw [h, Option.bind_some, w64 _ (by omega) (by omega)]
  exact ⟨_, rfl, by omega, by omega⟩
theorem pick_ok (l : List Int) (i most : Int) (hl : ∀ x ∈ l, (Lit.int .i64 x).wf = true) (hm : 0 < most) : ∃ r, worldmintref01_Pick.f l i most = some r ∧ 0 ≤ r ∧ r < most := by
  unfold worldmintref01_Pick.f
  by_cases h : i < 0
  · rw [if_pos h]; exact ⟨0, rfl, by omega, hm⟩
  · rw [if_neg h]
    by_cases h2 : i ≥ (l.length : Int)
    · rw [if_pos h2]; exact ⟨0, rfl, by omega, hm⟩
    · rw [if_neg h2, if_pos (by omega), if_pos (by omega)]
      have hm2 : rd l i ∈ l := by
        have : i.toNat < l.length := by omega
        simp [rd, List.getD, this]
      obtain ⟨r, h3, h4, h5⟩ := around_ok (rd l i) most (hl _ hm2) hm
      exact ⟨r, by rw [h3]; rfl, h4, h5⟩
/-- A bid as the reference draws it. -/
def GoodBid (n : Int) (b : S63) : Prop := 1 ≤ b.f0 ∧ b.f0 ≤ 6 ∧ 1 ≤ b.f1 ∧ b.f1 ≤ 450 ∧ b.f2.length ≠ 0 ∧ lotsOk n (-1) b.f2 = true ∧ b.f2.length ≤ 8
theorem lotsOk_snoc (n j : Int) (hj : j < n) : ∀ (ks : List Int) (last : Int), lotsOk n last ks = true → (∀ k ∈ ks, k < j) → last < j → lotsOk n last (ks ++ [j]) = true
  | [], last, _, _, h => by
    simp only [List.nil_append, lotsOk]
    simp [hj, h]
  | k :: ks, last, h, hk, _ => by
    simp only [List.cons_append, lotsOk] at h ⊢
    split at h
    · simp at h
    · rename_i hc
      rw [if_neg hc]
      exact lotsOk_snoc n j hj ks k h (fun x hx => hk x (by simp [hx])) (hk k (by simp))
set_option maxHeartbeats 1000000 in
theorem bids_l1 (n : Int) (l : List Int) (most : Int) (x7 : List S63) (x8 f0 f1 : Int) (hn1 : 1 ≤ n) (hn8 : n ≤ 8) (hx7 : x7.length < 3518437208883) (L : List S63)
    (hnext : ∀ ks : List Int, ks.length ≠ 0 → lotsOk n (-1) ks = true → ks.length ≤ 8 → ∃ L, Ev (fun k => worldmintref27_Bids.l0 k n l most (x7 ++ [⟨f0, f1, ks⟩]) (wrap64 (x8 + 1))) L ∧ (L.length : Int) ≤ most ∧ ∀ b ∈ L, GoodBid n b) :
    ∀ (d : Nat) (j : Int) (bs : Int) (ks : List Int), (n - j).toNat = d → 0 ≤ j → j ≤ n → lotsOk n (-1) ks = true → (∀ k ∈ ks, k < j) → (ks.length : Int) ≤ j → (j = n → ks.length ≠ 0) →
    ∃ L, Ev (fun k => worldmintref27_Bids.l1 k n l most x7 x8 bs j f0 f1 ks) L ∧ (L.length : Int) ≤ most ∧ ∀ b ∈ L, GoodBid n b
  | 0, j, bs, ks, hd, h0, hjn, hk, hkj, hkl, hne => by
    obtain ⟨L, h1, h2⟩ := hnext ks (hne (by omega)) hk (by omega)
    refine ⟨L, Ev.succ ?_, h2⟩
    simp only [worldmintref27_Bids.l1]
    simp only [if_neg (show ¬ j < n by omega), if_pos hx7]
    exact h1
  | d + 1, j, bs, ks, hd, h0, hjn, hk, hkj, hkl, hne => by
    have hw : wrap64 (j + 1) = j + 1 := w64 _ (by omega) (by omega)
    have hw2 : wrap64 (n - 1) = n - 1 := w64 _ (by omega) (by omega)
    have happ := fun bs' => bids_l1 n l most x7 x8 f0 f1 hn1 hn8 hx7 L hnext d (j + 1) bs' (ks ++ [j]) (by omega) (by omega) (by omega) (lotsOk_snoc n j (by omega) ks (-1) hk hkj (by omega)) (fun k hk' => by
      rcases List.mem_append.1 hk' with h | h
      · have := hkj k h; omega
      · simp at h; omega) (by simp; omega) (fun _ => by simp)
    have hnot := fun bs' (hh : j + 1 = n → ks.length ≠ 0) => bids_l1 n l most x7 x8 f0 f1 hn1 hn8 hx7 L hnext d (j + 1) bs' ks (by omega) (by omega) (by omega) hk (fun k hk' => by have := hkj k hk'; omega) (by omega) hh
    by_cases c1 : Int.tmod bs 2 = 1
    · obtain ⟨L, h1, h2⟩ := happ (wrap64 (Int.tdiv bs 2))
      refine ⟨L, Ev.succ ?_, h2⟩
      simp only [worldmintref27_Bids.l1]
      simp only [if_pos (show j < n by omega), if_pos c1, if_pos (show ks.length < 17592186044416 by omega), hw]
      exact h1
    · by_cases c2 : j = n - 1
      · by_cases c3 : (ks.length : Int) = 0
        · obtain ⟨L, h1, h2⟩ := happ (wrap64 (Int.tdiv bs 2))
          refine ⟨L, Ev.succ ?_, h2⟩
          simp only [worldmintref27_Bids.l1]
          simp only [if_pos (show j < n by omega), if_neg c1, hw2, if_pos c2, if_pos c3, if_pos (show ks.length < 17592186044416 by omega), hw]
          exact h1
        · obtain ⟨L, h1, h2⟩ := hnot (wrap64 (Int.tdiv bs 2)) (fun _ => by omega)
          refine ⟨L, Ev.succ ?_, h2⟩
          simp only [worldmintref27_Bids.l1]
          simp only [if_pos (show j < n by omega), if_neg c1, hw2, if_pos c2, if_neg c3, hw]
          exact h1
      · obtain ⟨L, h1, h2⟩ := hnot (wrap64 (Int.tdiv bs 2)) (fun _ => by omega)
        refine ⟨L, Ev.succ ?_, h2⟩
        simp only [worldmintref27_Bids.l1]
        simp only [if_pos (show j < n by omega), if_neg c1, hw2, if_neg c2, hw]
        exact h1
set_option maxHeartbeats 1000000 in
theorem bids_l0 (n : Int) (l : List Int) (hl : ∀ x ∈ l, (Lit.int .i64 x).wf = true) (most : Int) (hn1 : 1 ≤ n) (hn8 : n ≤ 8) (hm0 : 0 ≤ most) (hm1 : most ≤ 1000) :
    ∀ (d : Nat) (x7 : List S63), (most - x7.length).toNat = d → (x7.length : Int) ≤ most → (∀ b ∈ x7, GoodBid n b) →
    ∃ L, Ev (fun k => worldmintref27_Bids.l0 k n l most x7 x7.length) L ∧ (L.length : Int) ≤ most ∧ ∀ b ∈ L, GoodBid n b := by
  intro d
  induction d with
  | zero =>
    intro x7 hd hx hb
    obtain ⟨r, hr, hr0, hr1⟩ := pick_ok l 0 (most + 1) hl (by omega)
    refine ⟨x7, Ev.succ ?_, hx, hb⟩
    simp only [worldmintref27_Bids.l0, w64 (most + 1) (by omega) (by omega), hr, Option.bind_some]
    simp only [if_neg (show ¬ (x7.length : Int) < r by omega)]
    exact Ev.some_
  | succ d ih =>
    intro x7 hd hx hb
    obtain ⟨r, hr, hr0, hr1⟩ := pick_ok l 0 (most + 1) hl (by omega)
    by_cases hlt : (x7.length : Int) < r
    · obtain ⟨t, ht, ht0, ht1⟩ := pick_ok l (wrap64 (1 + wrap64 (3 * (x7.length : Int)))) 1000000 hl (by omega)
      obtain ⟨u, hu, hu0, hu1⟩ := pick_ok l (wrap64 (2 + wrap64 (3 * (x7.length : Int)))) 255 hl (by omega)
      obtain ⟨v, hv, hv0, hv1⟩ := pick_ok l (wrap64 (3 + wrap64 (3 * (x7.length : Int)))) 255 hl (by omega)
      have e0 : 0 ≤ Int.tmod t 6 ∧ Int.tmod t 6 < 6 := ⟨Int.tmod_nonneg _ ht0, Int.tmod_lt_of_pos _ (by omega)⟩
      have hq : 0 ≤ Int.tdiv t 6 ∧ Int.tdiv t 6 ≤ t := ⟨Int.tdiv_nonneg ht0 (by omega), Int.tdiv_le_self _ ht0⟩
      have hq2 : 0 ≤ Int.tdiv t 216 ∧ Int.tdiv t 216 ≤ t := ⟨Int.tdiv_nonneg ht0 (by omega), Int.tdiv_le_self _ ht0⟩
      have hw1 : wrap64 (Int.tdiv t 6) = Int.tdiv t 6 := w64 _ (by omega) (by omega)
      have hw2 : wrap64 (Int.tdiv t 216) = Int.tdiv t 216 := w64 _ (by omega) (by omega)
      have e1 : 0 ≤ Int.tmod (Int.tdiv t 6) 9 ∧ Int.tmod (Int.tdiv t 6) 9 < 9 := ⟨Int.tmod_nonneg _ hq.1, Int.tmod_lt_of_pos _ (by omega)⟩
      have e2 : 0 ≤ Int.tmod (Int.tdiv t 216) 50 ∧ Int.tmod (Int.tdiv t 216) 50 < 50 := ⟨Int.tmod_nonneg _ hq2.1, Int.tmod_lt_of_pos _ (by omega)⟩
      have g0 : wrap64 (1 + Int.tmod t 6) = 1 + Int.tmod t 6 := w64 _ (by omega) (by omega)
      have g1 : wrap64 (1 + Int.tmod (Int.tdiv t 6) 9) = 1 + Int.tmod (Int.tdiv t 6) 9 := w64 _ (by omega) (by omega)
      have g2 : wrap64 (1 + Int.tmod (Int.tdiv t 216) 50) = 1 + Int.tmod (Int.tdiv t 216) 50 := w64 _ (by omega) (by omega)
      have hpr : ∀ a b : Int, 1 ≤ a → a ≤ 9 → 1 ≤ b → b ≤ 50 → 1 ≤ a * b ∧ a * b ≤ 450 := fun a b a1 a2 b1 b2 => by
        have h1 : 1 * 1 ≤ a * b := Int.mul_le_mul a1 b1 (by omega) (by omega)
        have h2 : a * b ≤ 9 * 50 := Int.mul_le_mul a2 b2 (by omega) (by omega)
        omega
      have hp := hpr (1 + Int.tmod (Int.tdiv t 6) 9) (1 + Int.tmod (Int.tdiv t 216) 50) (by omega) (by omega) (by omega) (by omega)
      have g3 : wrap64 ((1 + Int.tmod (Int.tdiv t 6) 9) * (1 + Int.tmod (Int.tdiv t 216) 50)) = (1 + Int.tmod (Int.tdiv t 6) 9) * (1 + Int.tmod (Int.tdiv t 216) 50) := w64 _ (by omega) (by omega)
      have hstep : ∀ p : Int, 1 ≤ p → p ≤ 450 → ∃ L, Ev (fun k => worldmintref27_Bids.j1 k n l most x7 (x7.length : Int) (1 + Int.tmod t 6) p) L ∧ (L.length : Int) ≤ most ∧ ∀ b ∈ L, GoodBid n b := fun p hp1 hp2 => by
        obtain ⟨L, h1, h2⟩ := bids_l1 n l most x7 (x7.length : Int) (1 + Int.tmod t 6) p hn1 hn8 (by omega) [] (fun ks hk0 hk1 hk2 => by
          obtain ⟨L, h1, h2⟩ := ih (x7 ++ [⟨1 + Int.tmod t 6, p, ks⟩]) (by simp; omega) (by simp; omega) (fun b hb' => by
            rcases List.mem_append.1 hb' with h | h
            · exact hb b h
            · rw [List.mem_singleton] at h; subst h; exact ⟨by show 1 ≤ 1 + _; omega, by show 1 + _ ≤ 6; omega, hp1, hp2, hk0, hk1, hk2⟩)
          refine ⟨L, ?_, h2⟩
          rw [w64 _ (by omega) (by omega)]
          simpa using h1) n.toNat 0 (Go.bits .and .i64 u (Go.bits .or .i64 v 17)) [] (by omega) (by omega) (by omega) rfl (by simp) (by simp) (by omega)
        refine ⟨L, Ev.succ ?_, h2⟩
        simp only [worldmintref27_Bids.j1, hu, hv, Option.bind_some]
        exact h1
      by_cases c : Int.tmod (wrap64 (Int.tdiv t 54)) 4 = 0
      · obtain ⟨L, h1, h2⟩ := hstep _ hp.1 hp.2
        refine ⟨L, Ev.succ ?_, h2⟩
        simp only [worldmintref27_Bids.l0, w64 (most + 1) (by omega) (by omega), hr, ht, Option.bind_some, if_pos hlt, if_pos c, hw1, hw2, g0, g1, g2, g3]
        exact h1
      · obtain ⟨L, h1, h2⟩ := hstep (1 + Int.tmod (Int.tdiv t 6) 9) (by omega) (by omega)
        refine ⟨L, Ev.succ ?_, h2⟩
        simp only [worldmintref27_Bids.l0, w64 (most + 1) (by omega) (by omega), hr, ht, Option.bind_some, if_pos hlt, if_neg c, hw1, g0, g1]
        exact h1
    · refine ⟨x7, Ev.succ ?_, hx, hb⟩
      simp only [worldmintref27_Bids.l0, w64 (most + 1) (by omega) (by omega), hr, Option.bind_some]
      simp only [if_neg hlt]
      exact Ev.some_
theorem bids_ok (n : Int) (l : List Int) (hl : ∀ x ∈ l, (Lit.int .i64 x).wf = true) (most : Int) (hn1 : 1 ≤ n) (hn8 : n ≤ 8) (hm0 : 0 ≤ most) (hm1 : most ≤ 1000) :
    ∃ L, Ev (fun k => worldmintref27_Bids.f k n l most) L ∧ (L.length : Int) ≤ most ∧ ∀ b ∈ L, GoodBid n b := by
  have := bids_l0 n l hl most hn1 hn8 hm0 hm1 _ [] rfl (by simpa using hm0) (by simp)
  simpa [worldmintref27_Bids.f] using this
end Go.Proofs.Ytecbfpcidoilmaa.H

/- What the reference of bids and clear computes: by the same plain words. -/
namespace Go.Proofs.Ytecbfpcidoilmaa.H
open Go.RowKit Go.Proofs.YtecbfpcidoilmaaW.PrintWords Go.Proofs.YtecbfpcidoilmaaW.PrintLast
set_option linter.unusedVariables false
set_option linter.unusedSimpArgs false
/-- A bid of the reference as a bid of the program. -/
def cv (b : S63) : S45 := ⟨b.f0, b.f1, b.f2⟩
theorem drop_cons {α : Type} (l : List α) (p : Nat) (x : α) (d : List α) (h : l.drop p = x :: d) : l[p]? = some x ∧ l.drop (p + 1) = d ∧ p < l.length := by
  have h1 : l[p]? = some x := by
    have := congrArg (fun t => t[0]?) h
    simpa using this
  refine ⟨h1, ?_, ?_⟩
  · have := congrArg List.tail h
    simpa using this
  · have := congrArg List.length h
    simp at this
    omega
theorem drop_nil {α : Type} (l : List α) (p : Nat) (hp : p ≤ l.length) (h : l.drop p = []) : p = l.length := by
  have := congrArg List.length h
  simp at this
  omega
theorem rdR_at (l : List S63) (i : Nat) (x : S63) (h : l[i]? = some x) : rd_T63 l (i : Int) = x := by
  simp [rd_T63, List.getD, h]
/-! ### given -/
theorem given_ok (l : List S63) (hl : l.length < 3518437208883) : Ev (fun k => worldmintlaw28_given.f k l) (l.map cv) := by
  have : ∀ (d : List S63) (p : Nat), l.drop p = d → p ≤ l.length → Ev (fun k => worldmintlaw28_given.l0 k l ((l.take p).map cv) (p : Int)) (l.map cv) := by
    intro d
    induction d with
    | nil =>
      intro p hd hp
      have := drop_nil l p hp hd
      subst this
      refine Ev.succ ?_
      simp only [worldmintlaw28_given.l0, if_neg (show ¬ (l.length : Int) < (l.length : Int) by omega), List.take_length]
      exact Ev.some_
    | cons x d ih =>
      intro p hd hp
      obtain ⟨hx, hd', hlt⟩ := drop_cons l p x d hd
      have hw : wrap64 ((p : Int) + 1) = ((p + 1 : Nat) : Int) := by rw [w64 _ (by omega) (by omega)]; omega
      have h1 := ih (p + 1) hd' (by omega)
      refine Ev.succ ?_
      simp only [worldmintlaw28_given.l0, if_pos (show (p : Int) < (l.length : Int) by omega), if_pos (show (0 : Int) ≤ (p : Int) by omega), rdR_at l p x hx, hw, List.length_map, List.length_take]
      simp only [if_pos (show min p l.length < 3518437208883 by omega)]
      have e : (l.take p).map cv ++ [⟨x.f0, x.f1, x.f2⟩] = (l.take (p + 1)).map cv := by
        have hg : l[p] = x := by
          have := List.getElem?_eq_getElem hlt
          rw [hx] at this
          injection this with this
          exact this.symm
        rw [List.take_succ_eq_append_getElem hlt, List.map_append, hg]
        rfl
      rw [e]
      exact h1
  exact this l 0 rfl (Nat.zero_le _)
/-! ### Conflict, Feasible, Value, Less, Choice -/
theorem has_ok (xs : List Int) (x : Int) (hl : xs.length ≤ 9223372036854775807) : Ev (fun k => worldmintref01_Has.f k xs x) (xs.contains x) := by
  have : ∀ (d : List Int) (p : Nat), xs.drop p = d → p ≤ xs.length → Ev (fun k => worldmintref01_Has.l0 k xs x (p : Int)) (d.contains x) := by
    intro d
    induction d with
    | nil =>
      intro p hd hp
      have := drop_nil xs p hp hd
      refine Ev.succ ?_
      simp only [worldmintref01_Has.l0, if_neg (show ¬ (p : Int) < (xs.length : Int) by omega)]
      exact Ev.some_
    | cons y d ih =>
      intro p hd hp
      obtain ⟨hx, hd', hlt⟩ := drop_cons xs p y d hd
      have hw : wrap64 ((p : Int) + 1) = ((p + 1 : Nat) : Int) := by rw [w64 _ (by omega) (by omega)]; omega
      have h1 := ih (p + 1) hd' (by omega)
      refine Ev.succ ?_
      simp only [worldmintref01_Has.l0, if_pos (show (p : Int) < (xs.length : Int) by omega), if_pos (show (0 : Int) ≤ (p : Int) by omega), rd_at xs p y hx, hw]
      by_cases c : y = x
      · subst c
        simp only [if_true]
        simpa using Ev.some_
      · simp only [if_neg c]
        have e : (y :: d).contains x = d.contains x := by rw [List.contains_cons, beq_false_of_ne (fun e : x = y => c e.symm), Bool.false_or]
        rw [e]
        exact h1
  exact this xs 0 rfl (Nat.zero_le _)
end Go.Proofs.Ytecbfpcidoilmaa.H

/- The reference's feasible choices. -/
namespace Go.Proofs.Ytecbfpcidoilmaa.H
open Go.RowKit Go.Proofs.YtecbfpcidoilmaaW.PrintWords Go.Proofs.YtecbfpcidoilmaaW.PrintLast
set_option linter.unusedVariables false
set_option linter.unusedSimpArgs false
theorem choice_len : ∀ (n bits i : Nat), (choiceP n bits i).length ≤ n
  | 0, _, _ => by simp [choiceP]
  | n + 1, bits, i => by
    have := choice_len n (bits / 2) (i + 1)
    unfold choiceP
    split
    · simp; omega
    · omega
end Go.Proofs.Ytecbfpcidoilmaa.H

/- The reference's best choice is the search's. -/
namespace Go.Proofs.Ytecbfpcidoilmaa.H
open Go.RowKit Go.Proofs.YtecbfpcidoilmaaW.PrintWords Go.Proofs.YtecbfpcidoilmaaW.PrintLast
set_option linter.unusedVariables false
set_option linter.unusedSimpArgs false
end Go.Proofs.Ytecbfpcidoilmaa.H

/- ClearPrices: the program's prices are the reference's. -/
namespace Go.Proofs.Ytecbfpcidoilmaa.H
open Go.RowKit Go.Proofs.YtecbfpcidoilmaaW.PrintWords Go.Proofs.YtecbfpcidoilmaaW.PrintLast
set_option linter.unusedVariables false
set_option linter.unusedSimpArgs false
theorem search_range (U : S45 → Bool) (l : List S45) (hp : ∀ b ∈ l, 1 ≤ b.f1) : (∀ k ∈ (searchP U l).1, 0 ≤ k ∧ k < l.length) ∧ (searchP U l).1.length ≤ l.length := by
  rw [search_ext hp]
  obtain ⟨_, _, b, _, h⟩ := ext_valid (U := U) (l := l) l 0 [] rfl
  rw [← h]
  exact ⟨fun k hk => by have := choice_ge l.length b 0 k hk; omega, choice_len _ _ _⟩
/-- What a winner pays. -/
def setP (l : List S45) (value : Int) (out : List Int) (w : Int) : List Int :=
  out.set w.toNat (wrap64 (wrap64 ((searchP (fun b => b.f0 != (l.getD w.toNat z45).f0) l).2 - value) + (l.getD w.toNat z45).f1))
def pricesP (n : Int) (l : List S45) : List Int × Int :=
  if validP n l = 0 then ((searchP (fun _ => true) l).1.foldl (setP l (searchP (fun _ => true) l).2) (List.replicate l.length 0), 0) else ([], validP n l)
theorem prices_l0 (l : List S45) (hok : okBids l = true) (value : Int) (win : List Int) (hw : ∀ k ∈ win, 0 ≤ k ∧ k < l.length) (hwl : win.length ≤ 1000) :
    ∀ (d : List Int) (p : Nat) (out : List Int), win.drop p = d → p ≤ win.length → out.length = l.length → Ev (fun k => clear_Prices.l0 k l value out win (win.length : Int) (p : Int)) (d.foldl (setP l value) out, 0) := by
  intro d
  induction d with
  | nil =>
    intro p out hd hp ho
    have := drop_nil win p hp hd
    refine Ev.succ ?_
    simp only [clear_Prices.l0, if_neg (show ¬ (p : Int) < (win.length : Int) by omega)]
    exact Ev.some_
  | cons y d ih =>
    intro p out hd hp ho
    obtain ⟨hy, hd', hlt⟩ := drop_cons win p y d hd
    obtain ⟨hy0, hy1⟩ := hw y (List.mem_of_getElem? hy)
    have hwp : wrap64 ((p : Int) + 1) = ((p + 1 : Nat) : Int) := by rw [w64 _ (by omega) (by omega)]; omega
    have hrd : rd_T45 l y = l.getD y.toNat z45 := rfl
    refine Ev.succ ?_
    simp only [clear_Prices.l0, if_pos (show (p : Int) < (win.length : Int) by omega), if_pos (show (0 : Int) ≤ (p : Int) by omega), rd_at win p y hy, if_pos hy0, if_pos hy1, clear_others.f, hok, if_true, Option.bind_some,
      if_pos (show y < (out.length : Int) by omega), hwp, hrd]
    exact ih (p + 1) _ hd' (by omega) (by simp [ho])
theorem prices_ok (n : Int) (l : List S45) : Ev (fun k => clear_Prices.f k n l) (pricesP n l) := by
  unfold clear_Prices.f pricesP
  by_cases hz : validP n l = 0
  · have hok := validP_ok n l hz
    obtain ⟨hl, hp⟩ : l.length ≤ 10 ∧ ∀ b ∈ l, 1 ≤ b.f1 ∧ b.f1 ≤ 1099511627776 := by
      have h := hok
      simp only [okBids, Bool.and_eq_true, List.all_eq_true, decide_eq_true_eq] at h
      exact h
    have hr := search_range (fun _ => true) l (fun b hb => (hp b hb).1)
    simp only [clear_Best.f, if_pos hz, Option.bind_some, if_true, if_pos (show (0 : Int) ≤ (l.length : Int) by omega), Int.toNat_natCast, if_pos (show l.length ≤ 35184372088832 by omega)]
    exact prices_l0 l hok _ _ hr.1 (by omega) _ 0 _ rfl (Nat.zero_le _) (by simp)
  · simp only [clear_Best.f, if_neg hz, Option.bind_some]
    exact Ev.some_
end Go.Proofs.Ytecbfpcidoilmaa.H

/- Payments: what a winner pays lies between 0 and the price; alone in a group nothing. Plain. -/
namespace Go.Proofs.Ytecbfpcidoilmaa.H
open Go.RowKit
set_option linter.unusedVariables false
set_option linter.unusedSimpArgs false
section
variable {l : List S45}
theorem valB_or (p q : Nat → Bool) (h : ∀ k, k < l.length → p k = true → q k = true → False) : valB l (fun k => p k || q k) = valB l p + valB l q := by
  unfold valB
  rw [← sumF_add]
  refine sumF_congr _ _ _ _ (fun k _ hk => ?_)
  have hk' : k < l.length := by omega
  have h' := h k hk'
  show (if (p k || q k) = true then prc l k else 0) = (if p k = true then prc l k else 0) + (if q k = true then prc l k else 0)
  cases hp : p k <;> cases hq : q k
  · simp
  · simp
  · simp
  · exact (h' hp hq).elim
theorem valB_congr (p q : Nat → Bool) (h : ∀ k, k < l.length → p k = q k) : valB l p = valB l q := by
  unfold valB
  exact sumF_congr _ _ _ _ (fun k _ hk => by rw [h k (by omega)])
theorem valB_one (a : Nat) (ha : a < l.length) : valB l (fun k => k == a) = prc l a := by
  unfold valB
  rw [sumF_one (fun k => if (k == a) = true then prc l k else 0) a l.length 0 (by omega) (by omega) (fun k _ _ hk => by rw [if_neg (by simpa using hk)])]
  simp
/-- A set with one place taken out. -/
theorem valB_without (p : Nat → Bool) (a : Nat) (ha : a < l.length) (hp : p a = true) : valB l p = valB l (fun k => p k && k != a) + prc l a := by
  have h1 := valB_or (l := l) (fun k => p k && k != a) (fun k => k == a) (fun k _ h1 h2 => by
    have h3 : (p k && k != a) = true := h1
    have h4 : (k == a) = true := h2
    simp only [Bool.and_eq_true, bne_iff_ne, beq_iff_eq] at h3 h4
    exact h3.2 h4)
  rw [valB_one a ha] at h1
  rw [← h1]
  refine valB_congr _ _ (fun k _ => ?_)
  show p k = (p k && k != a || k == a)
  by_cases e : k = a
  · subst e; simp [hp]
  · cases p k <;> simp [e]
theorem cj_bidder {a b : Nat} (h : cj l a b = false) : (l.getD a z45).f0 ≠ (l.getD b z45).f0 := by
  unfold cj conf at h
  simp only [Bool.or_eq_false_iff, beq_eq_false_iff_ne] at h
  exact h.1
/-- What a winner takes from the others. -/
theorem pay_bounds (hp : ∀ b ∈ l, 1 ≤ b.f1) (p : Nat → Bool) (hb : IsBest (fun _ => true) l p) (a : Nat) (ha : a < l.length) (hpa : p a = true) :
    valB l p - prc l a ≤ (searchP (fun b => b.f0 != (l.getD a z45).f0) l).2 ∧ (searchP (fun b => b.f0 != (l.getD a z45).f0) l).2 ≤ valB l p := by
  obtain ⟨q, hq, he⟩ := search_best (fun b => b.f0 != (l.getD a z45).f0) l hp
  rw [he]
  constructor
  · have := hq.max (fun k => p k && k != a) ⟨fun k hk h => by
      simp only [Bool.and_eq_true, bne_iff_ne] at h
      simp only [bne_iff_ne]
      exact cj_bidder (hb.feas.2 k a hk ha h.2 h.1 hpa), fun x y hx hy hxy h1 h2 => by
      simp only [Bool.and_eq_true, bne_iff_ne] at h1 h2
      exact hb.feas.2 x y hx hy hxy h1.1 h2.1⟩
    rw [valB_without p a ha hpa]
    omega
  · exact hb.max q ⟨fun _ _ _ => rfl, hq.feas.2⟩
/-- A bid that conflicts with no other: it wins, and pays nothing. -/
theorem pay_alone (hp : ∀ b ∈ l, 1 ≤ b.f1) (p : Nat → Bool) (hb : IsBest (fun _ => true) l p) (a : Nat) (ha : a < l.length) (hal : ∀ k, k < l.length → k ≠ a → cj l a k = false) :
    p a = true ∧ (searchP (fun b => b.f0 != (l.getD a z45).f0) l).2 = valB l p - prc l a := by
  have hadd : ∀ q, FeasU (fun _ => true) l q → q a = false → valB l q + prc l a ≤ valB l p := by
    intro q hq hqa
    have := hb.max (fun k => q k || k == a) ⟨fun _ _ _ => rfl, fun x y hx hy hxy h1 h2 => by
      simp only [Bool.or_eq_true, beq_iff_eq] at h1 h2
      rcases h1 with h1 | rfl
      · rcases h2 with h2 | rfl
        · exact hq.2 x y hx hy hxy h1 h2
        · rw [cj_comm]; exact hal x hx hxy
      · exact hal y hy (fun e => hxy e.symm)⟩
    rw [valB_or _ _ (fun k _ h1 h2 => by rw [beq_iff_eq] at h2; subst h2; rw [hqa] at h1; cases h1), valB_one a ha] at this
    exact this
  have hpos := prc_pos l hp a ha
  have hpa : p a = true := by
    cases h : p a
    · have := hadd p hb.feas h; omega
    · rfl
  refine ⟨hpa, ?_⟩
  obtain ⟨h1, h2⟩ := pay_bounds hp p hb a ha hpa
  obtain ⟨q, hq, he⟩ := search_best (fun b => b.f0 != (l.getD a z45).f0) l hp
  rw [he] at h1 h2 ⊢
  have h3 := hadd q ⟨fun _ _ _ => rfl, hq.feas.2⟩ (by
    cases h : q a
    · rfl
    · have := hq.feas.1 a ha h
      simp at this)
  simp only at h1 h3 ⊢
  omega
end
/-- The payments, place by place. -/
theorem prices_at (l : List S45) (value : Int) : ∀ (win : List Int) (out : List Int), win.Nodup → (∀ k ∈ win, 0 ≤ k) → out.length = l.length → ∀ i : Nat, i < l.length →
    (win.foldl (setP l value) out).getD i 0 = if (i : Int) ∈ win then wrap64 (wrap64 ((searchP (fun b => b.f0 != (l.getD i z45).f0) l).2 - value) + (l.getD i z45).f1) else out.getD i 0
  | [], out, _, _, _, i, _ => by simp
  | w :: win, out, hn, h0, hl, i, hi => by
    obtain ⟨n1, n2⟩ := List.nodup_cons.1 hn
    have hw := h0 w (by simp)
    rw [List.foldl_cons, prices_at l value win _ n2 (fun k hk => h0 k (by simp [hk])) (by simp [setP, hl]) i hi]
    by_cases hm : (i : Int) ∈ win
    · rw [if_pos hm, if_pos (by simp [hm])]
    · rw [if_neg hm]
      by_cases e : (i : Int) = w
      · have e2 : w.toNat = i := by omega
        rw [if_pos (by simp [e])]
        unfold setP
        rw [e2]
        simp only [List.getD, List.getElem?_set, if_true]
        rw [if_pos (by omega)]
        rfl
      · rw [if_neg (by simp [e, hm])]
        unfold setP
        have : w.toNat ≠ i := by omega
        simp only [List.getD, List.getElem?_set, if_neg this]
/-- A group of one: no other bid conflicts with it. -/
theorem part_alone (l : List S45) (g : List Int) (hg : g ∈ partsP l) (a : Nat) (h : g = [(a : Int)]) : a < l.length ∧ ∀ k, k < l.length → k ≠ a → cj l a k = false := by
  rw [parts_eq] at hg
  obtain ⟨i, hi, e⟩ := List.mem_map.1 hg
  have hil : i < l.length := List.mem_range.1 (List.mem_filter.1 hi).1
  rw [h] at e
  unfold compP at e
  have hmi : (i : Int) ∈ [(a : Int)] := by rw [← e, mem_sel0]; exact ⟨i, hil, by simp [Conn.refl], rfl⟩
  rw [List.mem_singleton] at hmi
  have : i = a := by omega
  subst this
  refine ⟨hil, fun k hk hki => ?_⟩
  cases hc : cj l i k
  · rfl
  · have : (k : Int) ∈ [(i : Int)] := by rw [← e, mem_sel0]; exact ⟨k, hk, by simpa using Conn.one hil hk hc, rfl⟩
    rw [List.mem_singleton] at this
    omega
end Go.Proofs.Ytecbfpcidoilmaa.H

/- ClearMore: the plain statement. -/
namespace Go.Proofs.Ytecbfpcidoilmaa.H
open Go.RowKit Go.Proofs.YtecbfpcidoilmaaW.PrintWords Go.Proofs.YtecbfpcidoilmaaW.PrintLast
set_option linter.unusedVariables false
set_option linter.unusedSimpArgs false
set_option maxRecDepth 100000 in
theorem lives_ok3 : Ev (fun k => worldmintlaw28_lives.f k) true := Ev.of_mono (fun k => worldmintlaw28_lives.mono k) ⟨20, by kernel_rfl⟩
def bestQ (n : Int) (l : List S45) : List Int × Int × Int := if validP n l = 0 then ((searchP (fun _ => true) l).1, (searchP (fun _ => true) l).2, 0) else ([], 0, validP n l)
theorem bestq_f (n : Int) (l : List S45) : clear_Best.f n l = some (bestQ n l) := by
  unfold clear_Best.f bestQ
  split <;> rfl
/-- A good bid, its price raised. -/
def Fine (n : Int) (b : S45) : Prop := 1 ≤ b.f0 ∧ b.f0 ≤ 1073741824 ∧ 1 ≤ b.f1 ∧ b.f1 ≤ 1000 ∧ b.f2.length ≠ 0 ∧ lotsOk n (-1) b.f2 = true
theorem fine_err (n : Int) : ∀ l : List S45, (∀ b ∈ l, Fine n b) → bidsErr n l = 0
  | [], _ => rfl
  | b :: l, h => by
    obtain ⟨h1, h2, h3, h4, h5, h6⟩ := h b (by simp)
    unfold bidsErr
    rw [if_neg (by simp; omega), if_neg (by simp; omega), if_neg (by simpa using h5), h6]
    simpa using fine_err n l (fun x hx => h x (by simp [hx]))
theorem fine_valid (n : Int) (l : List S45) (h1 : 1 ≤ n) (h8 : n ≤ 8) (hl : l.length ≤ 10) (h : ∀ b ∈ l, Fine n b) : validP n l = 0 := by
  unfold validP
  rw [if_neg (by simp; omega), if_neg (by omega)]
  exact fine_err n l h
theorem opt_small (l : List S45) (hp : ∀ b ∈ l, 1 ≤ b.f1 ∧ b.f1 ≤ 1000) : 0 ≤ (searchP (fun _ => true) l).2 ∧ (searchP (fun _ => true) l).2 ≤ l.length * 1000 := by
  rw [search_ext (fun b hb => (hp b hb).1)]
  have h1 := ext_bounds (U := fun _ => true) (l := l) l 0 [] (fun b hb => (hp b hb).1)
  have h2 : ∀ left : List S45, (∀ b ∈ left, 1 ≤ b.f1 ∧ b.f1 ≤ 1000) → restOf (fun _ => true) left ≤ left.length * 1000 := by
    intro left
    induction left with
    | nil => intro _; simp [restOf]
    | cons b left ih =>
      intro h
      have h3 := h b (by simp)
      have h4 := ih (fun x hx => h x (by simp [hx]))
      simp only [restOf, if_true, List.length_cons]
      omega
  have h3 := h2 l hp
  omega
end Go.Proofs.Ytecbfpcidoilmaa.H
namespace Go.Proofs.Ytecbfpcidoilmaa.Pure
end Go.Proofs.Ytecbfpcidoilmaa.Pure

/- ClearPayments: the plain statement. -/
namespace Go.Proofs.Ytecbfpcidoilmaa.H
open Go.RowKit Go.Proofs.YtecbfpcidoilmaaW.PrintWords Go.Proofs.YtecbfpcidoilmaaW.PrintLast
set_option linter.unusedVariables false
set_option linter.unusedSimpArgs false
theorem rdL_mem (P : List (List Int)) (j : Nat) (hj : j < P.length) : P.getD j [] ∈ P := by simp [List.getD, hj]
/-- The loop over the groups. -/
theorem pay_l1 (l : List S45) (win p : List Int) (P : List (List Int)) (i : Nat) (hi : i < p.length) (hpl : p.length ≤ 1000) (hw : win.length ≤ 1000) (hP : P.length ≤ 1000)
    (h : ∀ g ∈ P, g = [(i : Int)] → p.getD i 0 = 0 ∧ (i : Int) ∈ win) (hnext : Ev (fun k => worldmintlaw28_ClearPayments.l0 k l win p P ((i + 1 : Nat) : Int)) true) :
    ∀ (d j : Nat), P.length - j = d → j ≤ P.length → Ev (fun k => worldmintlaw28_ClearPayments.l1 k l win p P (i : Int) (j : Int)) true := by
  have hwi : wrap64 ((i : Int) + 1) = ((i + 1 : Nat) : Int) := by rw [w64 _ (by omega) (by omega)]; omega
  have hi1 : (i : Int) < (p.length : Int) := by omega
  have hi0 : (0 : Int) ≤ (i : Int) := by omega
  intro d
  induction d with
  | zero =>
    intro j hd hj
    have hj1 : ¬ (j : Int) < (P.length : Int) := by omega
    refine Ev.succ ?_
    simp only [worldmintlaw28_ClearPayments.l1, if_neg hj1, hwi]
    exact hnext
  | succ d ih =>
    intro j hd hj
    have hj1 : (j : Int) < (P.length : Int) := by omega
    have hj0 : (0 : Int) ≤ (j : Int) := by omega
    have hwj : wrap64 ((j : Int) + 1) = ((j + 1 : Nat) : Int) := by rw [w64 _ (by omega) (by omega)]; omega
    have hn := ih (j + 1) (by omega) (by omega)
    have hgm := rdL_mem P j (by omega)
    have hrd : rd_L1 P (j : Int) = P.getD j [] := rfl
    refine Ev.succ ?_
    simp only [worldmintlaw28_ClearPayments.l1, if_pos hj1, if_pos hj0, hwj, hrd]
    generalize P.getD j [] = g at *
    by_cases h1 : (g.length : Int) = 1
    · obtain ⟨x, rfl⟩ : ∃ x, g = [x] := List.length_eq_one_iff.1 (by omega)
      have h2 : (0 : Int) < (([x] : List Int).length : Int) := by simp
      have h3 : rd [x] 0 = x := rfl
      simp only [if_pos h1, if_pos h2, h3]
      by_cases e : x = (i : Int)
      · subst e
        obtain ⟨h4, h5⟩ := h _ hgm rfl
        have h6 : rd p (i : Int) = 0 := h4
        simp only [if_true, if_pos hi0, if_pos hi1, h6]
        refine Ev.bind (has_ok win (i : Int) (by omega)) ?_
        have h7 : win.contains (i : Int) = true := by simpa using h5
        simp only [h7, if_true]
        exact hn
      · simp only [if_neg e]
        exact hn
    · simp only [if_neg h1]
      exact hn
/-- The loop over the bids. -/
theorem pay_l0 (l : List S45) (win p : List Int) (P : List (List Int)) (hl : l.length ≤ 1000) (hpl : p.length = l.length) (hw : win.length ≤ 1000) (hP : P.length ≤ 1000)
    (h1 : ∀ i, i < l.length → 0 ≤ p.getD i 0 ∧ p.getD i 0 ≤ prc l i ∧ (¬ (i : Int) ∈ win → p.getD i 0 = 0))
    (h2 : ∀ i : Nat, ∀ g ∈ P, g = [(i : Int)] → p.getD i 0 = 0 ∧ (i : Int) ∈ win) :
    ∀ (d i : Nat), l.length - i = d → i ≤ l.length → Ev (fun k => worldmintlaw28_ClearPayments.l0 k l win p P (i : Int)) true := by
  intro d
  induction d with
  | zero =>
    intro i hd hi
    have hi1 : ¬ (i : Int) < (l.length : Int) := by omega
    refine Ev.succ ?_
    simp only [worldmintlaw28_ClearPayments.l0, if_neg hi1]
    exact Ev.bind lives_ok3 Ev.some_
  | succ d ih =>
    intro i hd hi
    have hi1 : (i : Int) < (l.length : Int) := by omega
    have hi2 : (i : Int) < (p.length : Int) := by omega
    have hi0 : (0 : Int) ≤ (i : Int) := by omega
    have hn := pay_l1 l win p P i (by omega) (by omega) hw hP (h2 i) (ih (i + 1) (by omega) (by omega)) P.length 0 (by omega) (by omega)
    obtain ⟨h3, h4, h5⟩ := h1 i (by omega)
    have hrd : rd p (i : Int) = p.getD i 0 := rfl
    have hrt : (rd_T45 l (i : Int)).f1 = prc l i := rfl
    have h6 : ¬ p.getD i 0 < 0 := by omega
    have h7 : decide (p.getD i 0 > prc l i) = false := decide_eq_false (by omega)
    have hj2 : Ev (fun k => worldmintlaw28_ClearPayments.j2 k l win p P (i : Int) false) true := by
      refine Ev.succ ?_
      simp only [worldmintlaw28_ClearPayments.j2, Bool.false_eq_true, if_false]
      exact hn
    refine Ev.succ ?_
    simp only [worldmintlaw28_ClearPayments.l0, if_pos hi1, if_pos hi0, if_pos hi2, hrd, hrt]
    refine Ev.bind (has_ok win (i : Int) (by omega)) ?_
    by_cases hm : (i : Int) ∈ win
    · have h8 : win.contains (i : Int) = true := by simpa using hm
      simp only [h8, if_true, if_neg h6, h7]
      exact hj2
    · have h8 : win.contains (i : Int) = false := by simpa using hm
      have h9 := h5 hm
      simp only [h8, Bool.false_eq_true, if_false, if_pos h9, if_neg h6, h7]
      exact hj2
theorem ClearPayments_pure : worldmintlaw28_ClearPayments.Pure := by
  intro a0 l1 w0 _ _ w1
  obtain ⟨t, ht, ht0, ht1⟩ := lots_ok a0 w0
  obtain ⟨L, hL, hLl, hLg⟩ := bids_ok t l1 w1 8 ht0 ht1 (by omega) (by omega)
  have hfine : ∀ b ∈ L.map cv, Fine t b ∧ b.f1 ≤ 450 := fun b hb => by
    obtain ⟨y, hy, rfl⟩ := List.mem_map.1 hb
    obtain ⟨g1, g2, g3, g4, g5, g6, g7⟩ := hLg y hy
    exact ⟨⟨g1, by show y.f0 ≤ _; omega, g3, by show y.f1 ≤ _; omega, g5, g6⟩, g4⟩
  have hgiven := given_ok L (by omega)
  have hlen : (L.map cv).length = L.length := List.length_map ..
  generalize L.map cv = l at *
  have hl8 : l.length ≤ 8 := by omega
  have hp : ∀ b ∈ l, 1 ≤ b.f1 := fun b hb => (hfine b hb).1.2.2.1
  have hp2 : ∀ i, i < l.length → 1 ≤ prc l i ∧ prc l i ≤ 450 := fun i hi => ⟨prc_pos l hp i hi, (hfine _ (by simp [List.getD, hi])).2⟩
  have hV : validP t l = 0 := fine_valid t l ht0 ht1 (by omega) (fun b hb => (hfine b hb).1)
  obtain ⟨p, hb, he⟩ := search_best (fun _ => true) l hp
  have hvs := opt_small l (fun b hb => ⟨hp b hb, by have := (hfine b hb).2; omega⟩)
  have hwin : (searchP (fun _ => true) l).1 = sel p l.length 0 := by rw [he]
  have hval : (searchP (fun _ => true) l).2 = valB l p := by rw [he]
  have hrange := search_range (fun _ => true) l hp
  have hprices := prices_ok t l
  have hmw : ∀ i : Nat, i < l.length → ((i : Int) ∈ (searchP (fun _ => true) l).1 ↔ p i = true) := fun i hi => by
    rw [hwin, mem_sel0]
    constructor
    · rintro ⟨k, h1, h2, h3⟩
      have : i = k := by omega
      rw [this]; exact h2
    · intro h; exact ⟨i, hi, h, rfl⟩
  have hpp : (pricesP t l) = ((pricesP t l).1, 0) := by unfold pricesP; rw [if_pos hV]
  have hat : ∀ i : Nat, i < l.length → (pricesP t l).1.getD i 0 = if p i = true then (searchP (fun b => b.f0 != (l.getD i z45).f0) l).2 - valB l p + prc l i else 0 := by
    intro i hi
    have h1 : (pricesP t l).1 = (searchP (fun _ => true) l).1.foldl (setP l (searchP (fun _ => true) l).2) (List.replicate l.length 0) := by unfold pricesP; rw [if_pos hV]
    rw [h1, prices_at l _ _ _ (by rw [hwin]; exact (rise_sel p l.length 0).imp (fun h => by omega)) (fun k hk => (hrange.1 k hk).1) (by simp) i hi]
    cases hpi : p i
    · rw [if_neg (fun h => by rw [(hmw i hi).1 h] at hpi; cases hpi), if_neg (by simp)]
      simp [List.getD, List.getElem?_replicate, hi]
    · rw [if_pos ((hmw i hi).2 hpi), if_pos rfl, hval]
      obtain ⟨h2, h3⟩ := pay_bounds hp p hb i hi hpi
      have h4 := hp2 i hi
      have h5 : (l.getD i z45).f1 = prc l i := rfl
      rw [h5, w64 ((searchP (fun b => b.f0 != (l.getD i z45).f0) l).2 - valB l p) (by omega) (by omega), w64 _ (by omega) (by omega)]
  have hplen : (pricesP t l).1.length = l.length := by
    unfold pricesP
    rw [if_pos hV]
    have : ∀ (win out : List Int), (win.foldl (setP l (searchP (fun _ => true) l).2) out).length = out.length := by
      intro win
      induction win with
      | nil => intro out; rfl
      | cons w win ih => intro out; rw [List.foldl_cons, ih]; simp [setP]
    simp only [this, List.length_replicate]
  have h1 : ∀ i, i < l.length → 0 ≤ (pricesP t l).1.getD i 0 ∧ (pricesP t l).1.getD i 0 ≤ prc l i ∧ (¬ (i : Int) ∈ (searchP (fun _ => true) l).1 → (pricesP t l).1.getD i 0 = 0) := by
    intro i hi
    rw [hat i hi]
    have h4 := hp2 i hi
    cases hpi : p i
    · rw [if_neg (by simp)]; exact ⟨by omega, by omega, fun _ => rfl⟩
    · rw [if_pos rfl]
      obtain ⟨h2, h3⟩ := pay_bounds hp p hb i hi hpi
      exact ⟨by omega, by omega, fun h => absurd ((hmw i hi).2 hpi) h⟩
  have h2 : ∀ i : Nat, ∀ g ∈ partsP l, g = [(i : Int)] → (pricesP t l).1.getD i 0 = 0 ∧ (i : Int) ∈ (searchP (fun _ => true) l).1 := by
    intro i g hg e
    obtain ⟨hi, hal⟩ := part_alone l g hg i e
    obtain ⟨h3, h4⟩ := pay_alone hp p hb i hi hal
    rw [hat i hi, if_pos h3, h4]
    exact ⟨by omega, (hmw i hi).2 h3⟩
  have hPl : (partsP l).length ≤ 1000 := by
    rw [parts_eq, List.length_map]
    have := List.length_filter_le (isMin l) (List.range l.length)
    simp at this
    omega
  have hparts : bids_Parts.f l = some (partsP l) := by unfold bids_Parts.f; rw [if_pos (by omega)]
  have hl0 := pay_l0 l (searchP (fun _ => true) l).1 (pricesP t l).1 (partsP l) (by omega) hplen (by omega) hPl h1 h2 l.length 0 (by omega) (by omega)
  refine Ev.ex ?_
  unfold worldmintlaw28_ClearPayments.f
  simp only [ht, Option.bind_some]
  refine Ev.bind hL ?_
  refine Ev.bind hgiven ?_
  simp only [bestq_f, bestQ, if_pos hV, Option.bind_some]
  refine Ev.bind hprices ?_
  rw [hpp]
  simp only [hparts, Option.bind_some, if_true]
  refine Ev.succ ?_
  have hne : (((pricesP t l).1.length : Int) != (l.length : Int)) = false := by rw [hplen]; simp
  simp only [worldmintlaw28_ClearPayments.j0, hne, Bool.false_eq_true, if_false]
  exact hl0
end Go.Proofs.Ytecbfpcidoilmaa.H
namespace Go.Proofs.Ytecbfpcidoilmaa.Pure
theorem ClearPayments : H.worldmintlaw28_ClearPayments.Pure := H.ClearPayments_pure
end Go.Proofs.Ytecbfpcidoilmaa.Pure
