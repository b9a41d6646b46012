/- Texts of this claim, one behind the other. -/
import Derived.Test.YtecbfpcidoilmaaMClearBoundsc
import Derived.Test.YtecbfpcidoilmaaMClearBoundsb
import Derived.Test.YtecbfpcidoilmaaMClearBoundsd

/- The search's answer: the best choice, and of equals the least. Plain. -/
namespace Go.Proofs.Ytecbfpcidoilmaa.H
open Go.RowKit
set_option linter.unusedVariables false
set_option linter.unusedSimpArgs false
/-- Do places a and b conflict? -/
def cf (l : List S45) (a b : Int) : Bool := conf (l.getD a.toNat z45) (l.getD b.toNat z45)
/-- The places from i on, n of them, whose bit is set. -/
def choiceP : Nat → Nat → Nat → List Int
  | 0, _, _ => []
  | n + 1, bits, i => if bits % 2 = 1 then (i : Int) :: choiceP n (bits / 2) (i + 1) else choiceP n (bits / 2) (i + 1)
/-- Places that go with those taken, and among each other. -/
def okS (U : S45 → Bool) (l : List S45) : List Int → List Int → Bool
  | _, [] => true
  | win, k :: s => U (l.getD k.toNat z45) && !(win.any fun w => cf l w k) && okS U l (win ++ [k]) s
def valP (l : List S45) (s : List Int) : Int := (s.map fun k => (l.getD k.toNat z45).f1).sum
def lessP : List Int → List Int → Bool
  | [], [] => false
  | [], _ :: _ => true
  | _ :: _, [] => false
  | a :: s, b :: t => if a = b then lessP s t else decide (a < b)
/-- The best extension. -/
def ext (U : S45 → Bool) (l : List S45) : List S45 → Nat → List Int → List Int × Int
  | [], _, _ => ([], 0)
  | b :: left, i, win =>
    if U b && !(win.any fun w => conf (l.getD w.toNat z45) b) then
      if (ext U l left (i + 1) (win ++ [(i : Int)])).2 + b.f1 < (ext U l left (i + 1) win).2 then ext U l left (i + 1) win
      else ((i : Int) :: (ext U l left (i + 1) (win ++ [(i : Int)])).1, (ext U l left (i + 1) (win ++ [(i : Int)])).2 + b.f1)
    else ext U l left (i + 1) win
section
variable {U : S45 → Bool} {l : List S45}
theorem ext_bounds : ∀ (left : List S45) (i : Nat) (win : List Int), (∀ b ∈ left, 1 ≤ b.f1) → 0 ≤ (ext U l left i win).2 ∧ (ext U l left i win).2 ≤ restOf U left
  | [], _, _, _ => by simp [ext, restOf]
  | b :: left, i, win, h => by
    have hb := h b (by simp)
    have h1 := ext_bounds left (i + 1) win (fun x hx => h x (by simp [hx]))
    have h2 := ext_bounds left (i + 1) (win ++ [(i : Int)]) (fun x hx => h x (by simp [hx]))
    unfold ext restOf
    cases hU : U b
    · simp only [Bool.false_and, Bool.false_eq_true, if_false]; omega
    · simp only [Bool.true_and, if_true]
      split
      · split
        · constructor <;> omega
        · constructor <;> (simp only; omega)
      · constructor <;> omega
theorem try_ext : ∀ (left : List S45) (i : Nat) (value : Int) (win : List Int) (best : Int) (out : List Int) (val : Int), (∀ b ∈ left, 1 ≤ b.f1) →
    tryP U l left i value win (best, out, val) = if best < value + (ext U l left i win).2 then (value + (ext U l left i win).2, win ++ (ext U l left i win).1, value + (ext U l left i win).2) else (best, out, val)
  | [], i, value, win, best, out, val, _ => by
    simp only [tryP, ext, Int.add_zero, List.append_nil]
    by_cases h : value ≤ best
    · rw [if_pos h, if_neg (by omega)]
    · rw [if_neg h, if_pos (by omega)]
  | b :: left, i, value, win, best, out, val, h => by
    have hl : ∀ x ∈ left, 1 ≤ x.f1 := fun x hx => h x (by simp [hx])
    have hb := h b (by simp)
    have hbd := ext_bounds (U := U) (l := l) (b :: left) i win h
    simp only [tryP]
    by_cases hp : value + restOf U (b :: left) ≤ best
    · rw [if_pos hp, if_neg (by omega)]
    · rw [if_neg hp]
      have ht := try_ext left (i + 1) (value + b.f1) (win ++ [(i : Int)]) best out val hl
      have hs := fun B O V => try_ext left (i + 1) value win B O V hl
      unfold ext
      by_cases hc : (U b && !(win.any fun w => conf (l.getD w.toNat z45) b)) = true
      · rw [if_pos hc, if_pos hc, ht]
        generalize ext U l left (i + 1) (win ++ [(i : Int)]) = T at *
        generalize ext U l left (i + 1) win = S at *
        by_cases h1 : best < value + b.f1 + T.2
        · rw [if_pos h1, hs]
          by_cases h2 : T.2 + b.f1 < S.2
          · rw [if_pos h2, if_pos (by omega), if_pos (by omega)]
          · rw [if_neg h2, if_neg (by omega)]
            simp only
            rw [if_pos (by omega)]
            rw [show value + b.f1 + T.2 = value + (T.2 + b.f1) from by omega]
            simp
        · rw [if_neg h1, hs]
          by_cases h2 : T.2 + b.f1 < S.2
          · rw [if_pos h2]
          · rw [if_neg h2, if_neg (by omega)]
            simp only
            rw [if_neg (by omega)]
      · rw [if_neg hc, if_neg hc, hs]
theorem search_ext (h : ∀ b ∈ l, 1 ≤ b.f1) : searchP U l = ext U l l 0 [] := by
  have hb := ext_bounds (U := U) (l := l) l 0 [] h
  unfold searchP
  rw [try_ext l 0 0 [] (-1) [] 0 h, if_pos (by omega)]
  simp
theorem choice_ge : ∀ (n bits i : Nat), ∀ k ∈ choiceP n bits i, (i : Int) ≤ k ∧ k < (i : Int) + n
  | 0, _, _ => by simp [choiceP]
  | n + 1, bits, i => by
    intro k hk
    have ih := choice_ge n (bits / 2) (i + 1)
    unfold choiceP at hk
    split at hk
    · rcases List.mem_cons.1 hk with rfl | hk
      · constructor <;> omega
      · have := ih k hk; constructor <;> omega
    · have := ih k hk; constructor <;> omega
theorem drop_getD (i : Nat) (b : S45) (left : List S45) (h : l.drop i = b :: left) : l.getD (i : Int).toNat z45 = b ∧ l.drop (i + 1) = left := by
  have h1 : l[i]? = some b := by
    have := congrArg (fun t => t[0]?) h
    simpa using this
  refine ⟨by simp [List.getD, h1], ?_⟩
  have := congrArg List.tail h
  simpa using this
theorem ext_valid : ∀ (left : List S45) (i : Nat) (win : List Int), l.drop i = left →
    okS U l win (ext U l left i win).1 = true ∧ valP l (ext U l left i win).1 = (ext U l left i win).2 ∧ ∃ bits, bits < 2 ^ left.length ∧ choiceP left.length bits i = (ext U l left i win).1
  | [], i, win, _ => ⟨by simp [ext, okS], by simp [ext, valP], 0, by simp, by simp [ext, choiceP]⟩
  | b :: left, i, win, h => by
    obtain ⟨hg, hd⟩ := drop_getD i b left h
    obtain ⟨s1, s2, sb, s3, s4⟩ := ext_valid left (i + 1) win hd
    obtain ⟨t1, t2, tb, t3, t4⟩ := ext_valid left (i + 1) (win ++ [(i : Int)]) hd
    have hskip : okS U l win (ext U l left (i + 1) win).1 = true ∧ valP l (ext U l left (i + 1) win).1 = (ext U l left (i + 1) win).2 ∧ ∃ bits, bits < 2 ^ (b :: left).length ∧ choiceP (b :: left).length bits i = (ext U l left (i + 1) win).1 := by
      refine ⟨s1, s2, 2 * sb, by simp only [List.length_cons, Nat.pow_succ]; omega, ?_⟩
      simp only [List.length_cons, choiceP]
      rw [if_neg (by omega), show 2 * sb / 2 = sb from by omega, s4]
    unfold ext
    by_cases hc : (U b && !(win.any fun w => conf (l.getD w.toNat z45) b)) = true
    · rw [if_pos hc]
      split
      · exact hskip
      · refine ⟨?_, ?_, 2 * tb + 1, by simp only [List.length_cons, Nat.pow_succ]; omega, ?_⟩
        · simp only [okS, cf, hg, t1, Bool.and_true]
          exact hc
        · simp only [valP, List.map_cons, List.sum_cons, hg] at t2 ⊢
          omega
        · simp only [List.length_cons, choiceP]
          rw [if_pos (by omega), show (2 * tb + 1) / 2 = tb from by omega, t4]
    · rw [if_neg hc]
      exact hskip
theorem ext_best : ∀ (left : List S45) (i : Nat) (win : List Int), l.drop i = left → (∀ b ∈ left, 1 ≤ b.f1) → ∀ bits, okS U l win (choiceP left.length bits i) = true →
    valP l (choiceP left.length bits i) ≤ (ext U l left i win).2 ∧ (valP l (choiceP left.length bits i) = (ext U l left i win).2 → choiceP left.length bits i = (ext U l left i win).1 ∨ lessP (ext U l left i win).1 (choiceP left.length bits i) = true)
  | [], i, win, _, _, bits, _ => ⟨by simp [choiceP, ext, valP], fun _ => .inl (by simp [choiceP, ext])⟩
  | b :: left, i, win, h, hp, bits, hok => by
    obtain ⟨hg, hd⟩ := drop_getD i b left h
    have hb := hp b (by simp)
    have hl : ∀ x ∈ left, 1 ≤ x.f1 := fun x hx => hp x (by simp [hx])
    have hs := ext_best left (i + 1) win hd hl (bits / 2)
    have ht := ext_best left (i + 1) (win ++ [(i : Int)]) hd hl (bits / 2)
    have hge := choice_ge left.length (bits / 2) (i + 1)
    have htb := ext_bounds (U := U) (l := l) left (i + 1) (win ++ [(i : Int)]) hl
    simp only [List.length_cons, choiceP] at hok ⊢
    by_cases hbit : bits % 2 = 1
    · rw [if_pos hbit] at hok ⊢
      simp only [okS, cf, hg, Bool.and_eq_true] at hok
      obtain ⟨⟨hU, hnc⟩, hrest⟩ := hok
      obtain ⟨h1, h2⟩ := ht hrest
      unfold ext
      rw [if_pos (by simp only [Bool.and_eq_true]; exact ⟨hU, hnc⟩)]
      have hv : valP l ((i : Int) :: choiceP left.length (bits / 2) (i + 1)) = b.f1 + valP l (choiceP left.length (bits / 2) (i + 1)) := by
        simp only [valP, List.map_cons, List.sum_cons, hg]
      rw [hv]
      split
      · exact ⟨by omega, fun e => by omega⟩
      · refine ⟨by show _ ≤ (_, _).2; simp only; omega, fun e => ?_⟩
        simp only at e ⊢
        rcases h2 (by omega) with h3 | h3
        · exact .inl (by rw [h3])
        · exact .inr (by simp only [lessP, if_true]; exact h3)
    · rw [if_neg hbit] at hok ⊢
      obtain ⟨h1, h2⟩ := hs hok
      unfold ext
      split
      · split
        · exact ⟨h1, h2⟩
        · refine ⟨by show _ ≤ (_, _).2; simp only; omega, fun e => .inr ?_⟩
          simp only at e ⊢
          cases hc : choiceP left.length (bits / 2) (i + 1) with
          | nil =>
            rw [hc] at e
            simp only [valP, List.map_nil, List.sum_nil] at e
            omega
          | cons k s =>
            have := hge k (by rw [hc]; simp)
            simp only [lessP]
            rw [if_neg (by omega)]
            simp
            omega
      · exact ⟨h1, h2⟩
end
end Go.Proofs.Ytecbfpcidoilmaa.H

/- Bound is no less than any feasible choice: plain lemmas. -/
namespace Go.Proofs.Ytecbfpcidoilmaa.H
open Go.RowKit
set_option linter.unusedVariables false
set_option linter.unusedSimpArgs false
theorem feas_ok (l : List S45) : ∀ (s pre : List Int), (∀ k ∈ s, 0 ≤ k ∧ k < l.length) → s.Pairwise (· < ·) → (∀ p, pre.getLast? = some p → ∀ k ∈ s, p < k) → feasP l pre s = okS (fun _ => true) l pre s
  | [], _, _, _, _ => rfl
  | w :: s, pre, h0, hs, hp => by
    obtain ⟨h1, h2⟩ := List.pairwise_cons.1 hs
    obtain ⟨hw0, hw1⟩ := h0 w (by simp)
    have ih := feas_ok l s (pre ++ [w]) (fun k hk => h0 k (by simp [hk])) h2 (fun p e k hk => by
      rw [List.getLast?_append] at e
      simp at e
      subst e
      exact h1 k hk)
    have key : feasP l pre (w :: s) = (if (pre.any fun v => cf l v w) = true then false else feasP l (pre ++ [w]) s) := by
      simp only [feasP]
      cases hl : pre.getLast? with
      | none => rw [if_neg (by simp; omega)]; rfl
      | some p =>
        have := hp p hl w (by simp)
        rw [if_neg (by simp; omega)]
        rfl
    rw [key, ih]
    simp only [okS, Bool.true_and]
    cases pre.any fun v => cf l v w <;> simp
/-- What a sum loses when one place is set to nothing. -/
theorem sum_set0 (ps : List Int) (x : Nat) (hx : x < ps.length) : ps.sum = ps.getD x 0 + (ps.set x 0).sum := by
  induction ps generalizing x with
  | nil => simp at hx
  | cons p ps ih =>
    cases x with
    | zero => simp [List.getD]
    | succ x =>
      have := ih x (by simpa using hx)
      simp only [List.getD, List.getElem?_cons_succ, List.set_cons_succ, List.sum_cons] at this ⊢
      omega
theorem sum_nonneg_ : ∀ ps : List Int, (∀ p ∈ ps, 0 ≤ p) → 0 ≤ ps.sum
  | [], _ => by simp
  | p :: ps, h => by
    have h1 := h p (by simp)
    have h2 := sum_nonneg_ ps (fun x hx => h x (by simp [hx]))
    simp only [List.sum_cons]
    omega
theorem lots_le : ∀ (X : List Int) (ps : List Int), (∀ p ∈ ps, 0 ≤ p) → X.Nodup → (∀ x ∈ X, 0 ≤ x ∧ x < ps.length) → (X.map fun k => ps.getD k.toNat 0).sum ≤ ps.sum
  | [], ps, hp, _, _ => by
    simp only [List.map_nil, List.sum_nil]
    exact sum_nonneg_ ps hp
  | x :: X, ps, hp, hn, hr => by
    obtain ⟨hx0, hx1⟩ := hr x (by simp)
    obtain ⟨n1, n2⟩ := List.nodup_cons.1 hn
    have hxl : x.toNat < ps.length := by omega
    have ih := lots_le X (ps.set x.toNat 0) (fun p hpm => by
      rcases List.mem_or_eq_of_mem_set hpm with h | h
      · exact hp p h
      · omega) n2 (fun y hy => by have := hr y (by simp [hy]); rw [List.length_set]; exact this)
    have he : (X.map fun k => (ps.set x.toNat 0).getD k.toNat 0) = X.map fun k => ps.getD k.toNat 0 := by
      refine List.map_congr_left (fun y hy => ?_)
      have hy0 := (hr y (by simp [hy])).1
      have hne : x.toNat ≠ y.toNat := fun e => n1 (by rw [show x = y from by omega]; exact hy)
      simp only [List.getD, List.getElem?_set, if_neg hne]
    rw [he] at ih
    have := sum_set0 ps x.toNat hxl
    simp only [List.map_cons, List.sum_cons]
    omega
/-- The map without a key. -/
def dropK (m : List (Int × Int)) (k : Int) : List (Int × Int) := m.filter fun e => e.1 != k
theorem look_dropK (k k2 : Int) (h : k2 ≠ k) : ∀ m, lookI (dropK m k) k2 = lookI m k2
  | [] => rfl
  | (j, v) :: m => by
    have ih := look_dropK k k2 h m
    unfold dropK at ih ⊢
    by_cases hj : j = k
    · have : ((j, v).1 != k) = false := by simpa using hj
      rw [List.filter_cons_of_neg (by simp [hj]), ih]
      simp only [lookI]
      rw [if_neg (by omega)]
    · rw [List.filter_cons_of_pos (by simpa using hj)]
      simp only [lookI, ih]
theorem sum_dropK (k v : Int) : ∀ m : List (Int × Int), (∀ e ∈ m, 0 ≤ e.2) → lookI m k = some v → v + ((dropK m k).map (·.2)).sum ≤ (m.map (·.2)).sum
  | [], _, h => by simp [lookI] at h
  | (j, u) :: m, h0, h => by
    have hu := h0 (j, u) (by simp)
    have hm : ∀ e ∈ m, 0 ≤ e.2 := fun e he => h0 e (by simp [he])
    simp only [lookI] at h
    by_cases hj : j = k
    · rw [if_pos hj] at h
      injection h with h
      subst h
      unfold dropK
      rw [List.filter_cons_of_neg (by simp [hj])]
      have : ∀ m : List (Int × Int), (∀ e ∈ m, 0 ≤ e.2) → ((m.filter fun e => e.1 != k).map (·.2)).sum ≤ (m.map (·.2)).sum := by
        intro m
        induction m with
        | nil => intro _; simp
        | cons e m ih =>
          intro h
          have h1 := h e (by simp)
          have h2 := ih (fun x hx => h x (by simp [hx]))
          by_cases c : (e.1 != k) = true
          · rw [List.filter_cons_of_pos (p := fun e : Int × Int => e.1 != k) c]; simp only [List.map_cons, List.sum_cons]; omega
          · rw [List.filter_cons_of_neg (p := fun e : Int × Int => e.1 != k) c]; simp only [List.map_cons, List.sum_cons]; omega
      have := this m hm
      simp only [List.map_cons, List.sum_cons]
      omega
    · rw [if_neg hj] at h
      have ih := sum_dropK k v m hm h
      unfold dropK at ih ⊢
      rw [List.filter_cons_of_pos (by simpa using hj)]
      simp only [List.map_cons, List.sum_cons]
      omega
end Go.Proofs.Ytecbfpcidoilmaa.H

/- Bound is no less than any feasible choice: the joining. -/
namespace Go.Proofs.Ytecbfpcidoilmaa.H
open Go.RowKit
set_option linter.unusedVariables false
set_option linter.unusedSimpArgs false
theorem look_addS_same (k s : Int) : ∀ m, ∃ v, lookI (addS m k s) k = some v ∧ s ≤ v
  | [] => by
    refine ⟨if 0 < s then s else 0, by simp [addS, lookI], ?_⟩
    split <;> omega
  | (j, u) :: m => by
    by_cases h : j = k
    · refine ⟨if u < s then s else u, by simp [addS, lookI, h], ?_⟩
      split <;> omega
    · obtain ⟨v, h1, h2⟩ := look_addS_same k s m
      exact ⟨v, by simp [addS, lookI, h, h1], h2⟩
theorem look_addS_other (k s k2 v : Int) : ∀ m, lookI m k2 = some v → ∃ v', lookI (addS m k s) k2 = some v' ∧ v ≤ v'
  | [], h => by simp [lookI] at h
  | (j, u) :: m, h => by
    simp only [lookI] at h
    by_cases h2 : j = k2
    · rw [if_pos h2] at h
      injection h with h
      subst h
      by_cases hk : j = k
      · refine ⟨if u < s then s else u, ?_, by split <;> omega⟩
        simp only [addS, if_pos hk, lookI]
        rw [if_pos (by omega)]
      · refine ⟨u, ?_, Int.le_refl _⟩
        simp only [addS, if_neg hk, lookI, if_pos h2]
    · rw [if_neg h2] at h
      by_cases hk : j = k
      · refine ⟨v, ?_, Int.le_refl _⟩
        simp only [addS, if_pos hk, lookI]
        rw [if_neg (by omega)]
        exact h
      · obtain ⟨v', e1, e2⟩ := look_addS_other k s k2 v m h
        refine ⟨v', ?_, e2⟩
        simp only [addS, if_neg hk, lookI, if_neg h2]
        exact e1
theorem fold_keeps (ps : List Int) (k2 v : Int) : ∀ (l : List S45) (m : List (Int × Int)), lookI m k2 = some v → ∃ v', lookI (l.foldl (fun m b => addS m b.f0 (surp ps b)) m) k2 = some v' ∧ v ≤ v'
  | [], m, h => ⟨v, h, Int.le_refl _⟩
  | b :: l, m, h => by
    obtain ⟨v1, h1, h2⟩ := look_addS_other b.f0 (surp ps b) k2 v m h
    obtain ⟨v2, h3, h4⟩ := fold_keeps ps k2 v1 l _ h1
    exact ⟨v2, h3, by omega⟩
theorem fold_look (ps : List Int) : ∀ (l : List S45) (m : List (Int × Int)), ∀ b ∈ l, ∃ v, lookI (l.foldl (fun m b => addS m b.f0 (surp ps b)) m) b.f0 = some v ∧ surp ps b ≤ v
  | [], _, b, hb => by simp at hb
  | a :: l, m, b, hb => by
    rcases List.mem_cons.1 hb with rfl | hb
    · obtain ⟨v, h1, h2⟩ := look_addS_same b.f0 (surp ps b) m
      obtain ⟨v', h3, h4⟩ := fold_keeps ps b.f0 v l _ h1
      exact ⟨v', h3, by omega⟩
    · exact fold_look ps l _ b hb
/-- Bids of different bidders: their surpluses together are no more than the map's values. -/
theorem surps_le (ps : List Int) : ∀ (s : List S45) (m : List (Int × Int)), (∀ e ∈ m, 0 ≤ e.2) → s.Pairwise (fun a b => a.f0 ≠ b.f0) → (∀ b ∈ s, ∃ v, lookI m b.f0 = some v ∧ surp ps b ≤ v) → (s.map (surp ps)).sum ≤ (m.map (·.2)).sum
  | [], m, h0, _, _ => by
    simp only [List.map_nil, List.sum_nil]
    exact sum_nonneg_ _ (fun x hx => by obtain ⟨e, he, rfl⟩ := List.mem_map.1 hx; exact h0 e he)
  | b :: s, m, h0, hs, hl => by
    obtain ⟨h1, h2⟩ := List.pairwise_cons.1 hs
    obtain ⟨v, hv, hle⟩ := hl b (by simp)
    have hd := sum_dropK b.f0 v m h0 hv
    have ih := surps_le ps s (dropK m b.f0) (fun e he => h0 e (List.mem_filter.1 he).1) h2 (fun c hc => by
      obtain ⟨u, hu, hle2⟩ := hl c (by simp [hc])
      exact ⟨u, by rw [look_dropK b.f0 c.f0 (fun e => h1 c hc e.symm)]; exact hu, hle2⟩)
    simp only [List.map_cons, List.sum_cons]
    omega
theorem okS_pairs (l : List S45) : ∀ (s win : List Int), okS (fun _ => true) l win s = true → (∀ w ∈ win, ∀ k ∈ s, cf l w k = false) ∧ s.Pairwise (fun a b => cf l a b = false)
  | [], _, _ => ⟨by simp, List.Pairwise.nil⟩
  | k :: s, win, h => by
    simp only [okS, Bool.true_and, Bool.and_eq_true, Bool.not_eq_true'] at h
    obtain ⟨h1, h2⟩ := okS_pairs l s (win ++ [k]) h.2
    have h3 : ∀ w ∈ win, cf l w k = false := fun w hw => by
      have := List.any_eq_false.1 h.1 w hw
      simpa using this
    refine ⟨fun w hw a ha => ?_, List.pairwise_cons.2 ⟨fun a ha => h1 k (by simp) a ha, h2⟩⟩
    rcases List.mem_cons.1 ha with rfl | ha
    · exact h3 w hw
    · exact h1 w (by simp [hw]) a ha
theorem conf_no {a b : S45} (h : conf a b = false) : a.f0 ≠ b.f0 ∧ ∀ x ∈ a.f2, x ∉ b.f2 := by
  simp only [conf, Bool.or_eq_false_iff] at h
  refine ⟨by simpa using h.1, fun x hx hb => ?_⟩
  have := List.any_eq_false.1 h.2 x hb
  simp [hx] at this
theorem lotsOk_nodup (n : Int) : ∀ (ks : List Int) (last : Int), lotsOk n last ks = true → ks.Nodup
  | [], _, _ => List.nodup_nil
  | k :: ks, last, h => by
    simp only [lotsOk] at h
    split at h
    · simp at h
    · refine List.nodup_cons.2 ⟨fun hm => ?_, lotsOk_nodup n ks k h⟩
      have := (lotsOk_len n ks k h).2 k hm
      omega
theorem flat_nodup : ∀ B : List S45, (∀ b ∈ B, b.f2.Nodup) → B.Pairwise (fun a b => conf a b = false) → (B.flatMap (·.f2)).Nodup
  | [], _, _ => by simp
  | b :: B, h, hp => by
    obtain ⟨h1, h2⟩ := List.pairwise_cons.1 hp
    rw [List.flatMap_cons, List.nodup_append]
    refine ⟨h b (by simp), flat_nodup B (fun x hx => h x (by simp [hx])) h2, fun x hx y hy e => ?_⟩
    subst e
    obtain ⟨c, hc, hy⟩ := List.mem_flatMap.1 hy
    exact (conf_no (h1 c hc)).2 x hx hy
theorem split_sum (ps : List Int) : ∀ B : List S45, (B.map (·.f1)).sum = (B.map (surp ps)).sum + ((B.flatMap (·.f2)).map fun k => ps.getD k.toNat 0).sum
  | [] => by simp
  | b :: B => by
    have ih := split_sum ps B
    rw [List.flatMap_cons, List.map_append, List.sum_append]
    simp only [List.map_cons, List.sum_cons]
    have : surp ps b = b.f1 - (b.f2.map fun k => ps.getD k.toNat 0).sum := rfl
    omega
/-- Bound. -/
theorem bound_le (l : List S45) (ps : List Int) (hp : ∀ p ∈ ps, 0 ≤ p ∧ p ≤ 1099511627776) (hf : ∀ b ∈ l, b.f1 ≤ 1099511627776 ∧ lotsOk ps.length (-1) b.f2 = true) (s : List Int) (hs : ∀ k ∈ s, 0 ≤ k ∧ k < l.length) (hok : okS (fun _ => true) l [] s = true) : valP l s ≤ boundP l ps := by
  have hmem : ∀ b ∈ (s.map fun k => l.getD k.toNat z45), b ∈ l := fun b hb => by
    obtain ⟨k, hk, rfl⟩ := List.mem_map.1 hb
    have := hs k hk
    have h2 : k.toNat < l.length := by omega
    simp [List.getD, h2]
  have hpw : (s.map fun k => l.getD k.toNat z45).Pairwise (fun a b => conf a b = false) := by
    rw [List.pairwise_map]
    exact (okS_pairs l s [] hok).2
  have e : valP l s = ((s.map fun k => l.getD k.toNat z45).map (·.f1)).sum := by
    unfold valP
    rw [List.map_map]
    rfl
  rw [e, split_sum ps]
  generalize (s.map fun k => l.getD k.toNat z45) = B at *
  have h1 := surps_le ps B (surpsP l ps) (fun x hx => ((surps_bounds ps hp l (fun b hb => (hf b hb).1)).2 x hx).1) (hpw.imp (fun h => (conf_no h).1)) (fun b hb => fold_look ps l [] b (hmem b hb))
  have h2 := lots_le (B.flatMap (·.f2)) ps (fun p hpm => (hp p hpm).1) (flat_nodup B (fun b hb => lotsOk_nodup _ _ _ (hf b (hmem b hb)).2) hpw) (fun x hx => by
    obtain ⟨b, hb, hx⟩ := List.mem_flatMap.1 hx
    have := (lotsOk_len _ _ _ (hf b (hmem b hb)).2).2 x hx
    omega)
  unfold boundP
  omega
end Go.Proofs.Ytecbfpcidoilmaa.H

/- What a printed function computes with rounds enough: its laws; the generators of the reference. -/
namespace Go.Proofs.Ytecbfpcidoilmaa.H
open Go.RowKit Go.Proofs.YtecbfpcidoilmaaW.PrintWords Go.Proofs.YtecbfpcidoilmaaW.PrintLast
set_option linter.unusedVariables false
set_option linter.unusedSimpArgs false
/-- With rounds enough, f tells a. -/
def Ev {α : Type} (f : Nat → Option α) (a : α) : Prop := ∃ K, ∀ k, K ≤ k → f k = some a
section
variable {α β : Type} {f : Nat → Option α} {a : α}
theorem Ev.succ (h : Ev (fun k => f (k + 1)) a) : Ev f a := by
  obtain ⟨K, h⟩ := h
  refine ⟨K + 1, fun k hk => ?_⟩
  obtain ⟨j, rfl⟩ : ∃ j, k = j + 1 := ⟨k - 1, by omega⟩
  exact h j (by omega)
theorem Ev.bind {g : Nat → α → Option β} {b : β} (hf : Ev f a) (hg : Ev (fun k => g k a) b) : Ev (fun k => (f k).bind (g k)) b := by
  obtain ⟨K, h⟩ := hf
  obtain ⟨K2, h2⟩ := hg
  exact ⟨max K K2, fun k hk => by
    show (f k).bind (g k) = some b
    rw [h k (by omega)]
    exact h2 k (by omega)⟩
theorem Ev.some_ : Ev (fun _ => some a) a := ⟨0, fun _ _ => rfl⟩
theorem Ev.ex (h : Ev f a) : ∃ k, f k = some a := by
  obtain ⟨K, h⟩ := h
  exact ⟨K, h K (Nat.le_refl _)⟩
theorem Ev.of_mono (hm : ∀ k, LeO (f k) (f (k + 1))) (h : ∃ k, f k = some a) : Ev f a := by
  obtain ⟨K, h⟩ := h
  refine ⟨K, fun k hk => ?_⟩
  obtain ⟨d, rfl⟩ := Nat.exists_eq_add_of_le hk
  clear hk
  induction d with
  | zero => exact h
  | succ d ih => exact hm (K + d) _ ih
end
theorem wf_bounds (n : Int) (h : (Lit.int .i64 n).wf = true) : -9223372036854775808 ≤ n ∧ n ≤ 9223372036854775807 := by
  simpa [Lit.wf, IntKind.min, IntKind.max, IntKind.signed, IntKind.bits] using h
theorem w64 (x : Int) (h0 : -9223372036854775808 ≤ x) (h1 : x ≤ 9223372036854775807) : wrap64 x = x := by
  unfold wrap64
  omega
theorem around_ok (n most : Int) (hn : (Lit.int .i64 n).wf = true) (hm : 0 < most) : ∃ r, worldmintref01_Around.f n most = some r ∧ 0 ≤ r ∧ r < most := by
  have hb := wf_bounds n hn
  unfold worldmintref01_Around.f
  by_cases h : n < 0
  · rw [if_pos h, if_neg (by omega), w64 (n + 1) (by omega) (by omega), w64 (-(n + 1)) (by omega) (by omega)]
    exact ⟨_, rfl, Int.tmod_nonneg _ (by omega), Int.tmod_lt_of_pos _ hm⟩
  · rw [if_neg h, if_neg (by omega)]
    exact ⟨_, rfl, Int.tmod_nonneg _ (by omega), Int.tmod_lt_of_pos _ hm⟩
theorem lots_ok (n : Int) (hn : (Lit.int .i64 n).wf = true) : ∃ r, worldmintref27_Lots.f n = some r ∧ 1 ≤ r ∧ r ≤ 8 := by
  obtain ⟨r, h, h0, h1⟩ := around_ok n 8 hn (by omega)
  unfold worldmintref27_Lots.f
  rw [h, Option.bind_some, w64 _ (by omega) (by omega)]
  exact ⟨_, rfl, by omega, by omega⟩
theorem pick_ok (l : List Int) (i most : Int) (hl : ∀ x ∈ l, (Lit.int .i64 x).wf = true) (hm : 0 < most) : ∃ r, worldmintref01_Pick.f l i most = some r ∧ 0 ≤ r ∧ r < most := by
  unfold worldmintref01_Pick.f
  by_cases h : i < 0
  · rw [if_pos h]; exact ⟨0, rfl, by omega, hm⟩
  · rw [if_neg h]
    by_cases h2 : i ≥ (l.length : Int)
    · rw [if_pos h2]; exact ⟨0, rfl, by omega, hm⟩
    · rw [if_neg h2, if_pos (by omega), if_pos (by omega)]
      have hm2 : rd l i ∈ l := by
        have : i.toNat < l.length := by omega
        simp [rd, List.getD, this]
      obtain ⟨r, h3, h4, h5⟩ := around_ok (rd l i) most (hl _ hm2) hm
      exact ⟨r, by rw [h3]; rfl, h4, h5⟩
/-- A bid as the reference draws it. -/
def GoodBid (n : Int) (b : S63) : Prop := 1 ≤ b.f0 ∧ b.f0 ≤ 6 ∧ 1 ≤ b.f1 ∧ b.f1 ≤ 450 ∧ b.f2.length ≠ 0 ∧ lotsOk n (-1) b.f2 = true ∧ b.f2.length ≤ 8
theorem lotsOk_snoc (n j : Int) (hj : j < n) : ∀ (ks : List Int) (last : Int), lotsOk n last ks = true → (∀ k ∈ ks, k < j) → last < j → lotsOk n last (ks ++ [j]) = true
  | [], last, _, _, h => by
    simp only [List.nil_append, lotsOk]
    simp [hj, h]
  | k :: ks, last, h, hk, _ => by
    simp only [List.cons_append, lotsOk] at h ⊢
    split at h
    · simp at h
    · rename_i hc
      rw [if_neg hc]
      exact lotsOk_snoc n j hj ks k h (fun x hx => hk x (by simp [hx])) (hk k (by simp))
set_option maxHeartbeats 1000000 in
theorem bids_l1 (n : Int) (l : List Int) (most : Int) (x7 : List S63) (x8 f0 f1 : Int) (hn1 : 1 ≤ n) (hn8 : n ≤ 8) (hx7 : x7.length < 3518437208883) (L : List S63)
    (hnext : ∀ ks : List Int, ks.length ≠ 0 → lotsOk n (-1) ks = true → ks.length ≤ 8 → ∃ L, Ev (fun k => worldmintref27_Bids.l0 k n l most (x7 ++ [⟨f0, f1, ks⟩]) (wrap64 (x8 + 1))) L ∧ (L.length : Int) ≤ most ∧ ∀ b ∈ L, GoodBid n b) :
    ∀ (d : Nat) (j : Int) (bs : Int) (ks : List Int), (n - j).toNat = d → 0 ≤ j → j ≤ n → lotsOk n (-1) ks = true → (∀ k ∈ ks, k < j) → (ks.length : Int) ≤ j → (j = n → ks.length ≠ 0) →
    ∃ L, Ev (fun k => worldmintref27_Bids.l1 k n l most x7 x8 bs j f0 f1 ks) L ∧ (L.length : Int) ≤ most ∧ ∀ b ∈ L, GoodBid n b
  | 0, j, bs, ks, hd, h0, hjn, hk, hkj, hkl, hne => by
    obtain ⟨L, h1, h2⟩ := hnext ks (hne (by omega)) hk (by omega)
    refine ⟨L, Ev.succ ?_, h2⟩
    simp only [worldmintref27_Bids.l1]
    simp only [if_neg (show ¬ j < n by omega), if_pos hx7]
    exact h1
  | d + 1, j, bs, ks, hd, h0, hjn, hk, hkj, hkl, hne => by
    have hw : wrap64 (j + 1) = j + 1 := w64 _ (by omega) (by omega)
    have hw2 : wrap64 (n - 1) = n - 1 := w64 _ (by omega) (by omega)
    have happ := fun bs' => bids_l1 n l most x7 x8 f0 f1 hn1 hn8 hx7 L hnext d (j + 1) bs' (ks ++ [j]) (by omega) (by omega) (by omega) (lotsOk_snoc n j (by omega) ks (-1) hk hkj (by omega)) (fun k hk' => by
      rcases List.mem_append.1 hk' with h | h
      · have := hkj k h; omega
      · simp at h; omega) (by simp; omega) (fun _ => by simp)
    have hnot := fun bs' (hh : j + 1 = n → ks.length ≠ 0) => bids_l1 n l most x7 x8 f0 f1 hn1 hn8 hx7 L hnext d (j + 1) bs' ks (by omega) (by omega) (by omega) hk (fun k hk' => by have := hkj k hk'; omega) (by omega) hh
    by_cases c1 : Int.tmod bs 2 = 1
    · obtain ⟨L, h1, h2⟩ := happ (wrap64 (Int.tdiv bs 2))
      refine ⟨L, Ev.succ ?_, h2⟩
      simp only [worldmintref27_Bids.l1]
      simp only [if_pos (show j < n by omega), if_pos c1, if_pos (show ks.length < 17592186044416 by omega), hw]
      exact h1
    · by_cases c2 : j = n - 1
      · by_cases c3 : (ks.length : Int) = 0
        · obtain ⟨L, h1, h2⟩ := happ (wrap64 (Int.tdiv bs 2))
          refine ⟨L, Ev.succ ?_, h2⟩
          simp only [worldmintref27_Bids.l1]
          simp only [if_pos (show j < n by omega), if_neg c1, hw2, if_pos c2, if_pos c3, if_pos (show ks.length < 17592186044416 by omega), hw]
          exact h1
        · obtain ⟨L, h1, h2⟩ := hnot (wrap64 (Int.tdiv bs 2)) (fun _ => by omega)
          refine ⟨L, Ev.succ ?_, h2⟩
          simp only [worldmintref27_Bids.l1]
          simp only [if_pos (show j < n by omega), if_neg c1, hw2, if_pos c2, if_neg c3, hw]
          exact h1
      · obtain ⟨L, h1, h2⟩ := hnot (wrap64 (Int.tdiv bs 2)) (fun _ => by omega)
        refine ⟨L, Ev.succ ?_, h2⟩
        simp only [worldmintref27_Bids.l1]
        simp only [if_pos (show j < n by omega), if_neg c1, hw2, if_neg c2, hw]
        exact h1
set_option maxHeartbeats 1000000 in
theorem bids_l0 (n : Int) (l : List Int) (hl : ∀ x ∈ l, (Lit.int .i64 x).wf = true) (most : Int) (hn1 : 1 ≤ n) (hn8 : n ≤ 8) (hm0 : 0 ≤ most) (hm1 : most ≤ 1000) :
    ∀ (d : Nat) (x7 : List S63), (most - x7.length).toNat = d → (x7.length : Int) ≤ most → (∀ b ∈ x7, GoodBid n b) →
    ∃ L, Ev (fun k => worldmintref27_Bids.l0 k n l most x7 x7.length) L ∧ (L.length : Int) ≤ most ∧ ∀ b ∈ L, GoodBid n b := by
  intro d
  induction d with
  | zero =>
    intro x7 hd hx hb
    obtain ⟨r, hr, hr0, hr1⟩ := pick_ok l 0 (most + 1) hl (by omega)
    refine ⟨x7, Ev.succ ?_, hx, hb⟩
    simp only [worldmintref27_Bids.l0, w64 (most + 1) (by omega) (by omega), hr, Option.bind_some]
    simp only [if_neg (show ¬ (x7.length : Int) < r by omega)]
    exact Ev.some_
  | succ d ih =>
    intro x7 hd hx hb
    obtain ⟨r, hr, hr0, hr1⟩ := pick_ok l 0 (most + 1) hl (by omega)
    by_cases hlt : (x7.length : Int) < r
    · obtain ⟨t, ht, ht0, ht1⟩ := pick_ok l (wrap64 (1 + wrap64 (3 * (x7.length : Int)))) 1000000 hl (by omega)
      obtain ⟨u, hu, hu0, hu1⟩ := pick_ok l (wrap64 (2 + wrap64 (3 * (x7.length : Int)))) 255 hl (by omega)
      obtain ⟨v, hv, hv0, hv1⟩ := pick_ok l (wrap64 (3 + wrap64 (3 * (x7.length : Int)))) 255 hl (by omega)
      have e0 : 0 ≤ Int.tmod t 6 ∧ Int.tmod t 6 < 6 := ⟨Int.tmod_nonneg _ ht0, Int.tmod_lt_of_pos _ (by omega)⟩
      have hq : 0 ≤ Int.tdiv t 6 ∧ Int.tdiv t 6 ≤ t := ⟨Int.tdiv_nonneg ht0 (by omega), Int.tdiv_le_self _ ht0⟩
      have hq2 : 0 ≤ Int.tdiv t 216 ∧ Int.tdiv t 216 ≤ t := ⟨Int.tdiv_nonneg ht0 (by omega), Int.tdiv_le_self _ ht0⟩
      have hw1 : wrap64 (Int.tdiv t 6) = Int.tdiv t 6 := w64 _ (by omega) (by omega)
      have hw2 : wrap64 (Int.tdiv t 216) = Int.tdiv t 216 := w64 _ (by omega) (by omega)
      have e1 : 0 ≤ Int.tmod (Int.tdiv t 6) 9 ∧ Int.tmod (Int.tdiv t 6) 9 < 9 := ⟨Int.tmod_nonneg _ hq.1, Int.tmod_lt_of_pos _ (by omega)⟩
      have e2 : 0 ≤ Int.tmod (Int.tdiv t 216) 50 ∧ Int.tmod (Int.tdiv t 216) 50 < 50 := ⟨Int.tmod_nonneg _ hq2.1, Int.tmod_lt_of_pos _ (by omega)⟩
      have g0 : wrap64 (1 + Int.tmod t 6) = 1 + Int.tmod t 6 := w64 _ (by omega) (by omega)
      have g1 : wrap64 (1 + Int.tmod (Int.tdiv t 6) 9) = 1 + Int.tmod (Int.tdiv t 6) 9 := w64 _ (by omega) (by omega)
      have g2 : wrap64 (1 + Int.tmod (Int.tdiv t 216) 50) = 1 + Int.tmod (Int.tdiv t 216) 50 := w64 _ (by omega) (by omega)
      have hpr : ∀ a b : Int, 1 ≤ a → a ≤ 9 → 1 ≤ b → b ≤ 50 → 1 ≤ a * b ∧ a * b ≤ 450 := fun a b a1 a2 b1 b2 => by
        have h1 : 1 * 1 ≤ a * b := Int.mul_le_mul a1 b1 (by omega) (by omega)
        have h2 : a * b ≤ 9 * 50 := Int.mul_le_mul a2 b2 (by omega) (by omega)
        omega
      have hp := hpr (1 + Int.tmod (Int.tdiv t 6) 9) (1 + Int.tmod (Int.tdiv t 216) 50) (by omega) (by omega) (by omega) (by omega)
      have g3 : wrap64 ((1 + Int.tmod (Int.tdiv t 6) 9) * (1 + Int.tmod (Int.tdiv t 216) 50)) = (1 + Int.tmod (Int.tdiv t 6) 9) * (1 + Int.tmod (Int.tdiv t 216) 50) := w64 _ (by omega) (by omega)
      have hstep : ∀ p : Int, 1 ≤ p → p ≤ 450 → ∃ L, Ev (fun k => worldmintref27_Bids.j1 k n l most x7 (x7.length : Int) (1 + Int.tmod t 6) p) L ∧ (L.length : Int) ≤ most ∧ ∀ b ∈ L, GoodBid n b := fun p hp1 hp2 => by
        obtain ⟨L, h1, h2⟩ := bids_l1 n l most x7 (x7.length : Int) (1 + Int.tmod t 6) p hn1 hn8 (by omega) [] (fun ks hk0 hk1 hk2 => by
          obtain ⟨L, h1, h2⟩ := ih (x7 ++ [⟨1 + Int.tmod t 6, p, ks⟩]) (by simp; omega) (by simp; omega) (fun b hb' => by
            rcases List.mem_append.1 hb' with h | h
            · exact hb b h
            · rw [List.mem_singleton] at h; subst h; exact ⟨by show 1 ≤ 1 + _; omega, by show 1 + _ ≤ 6; omega, hp1, hp2, hk0, hk1, hk2⟩)
          refine ⟨L, ?_, h2⟩
          rw [w64 _ (by omega) (by omega)]
          simpa using h1) n.toNat 0 (Go.bits .and .i64 u (Go.bits .or .i64 v 17)) [] (by omega) (by omega) (by omega) rfl (by simp) (by simp) (by omega)
        refine ⟨L, Ev.succ ?_, h2⟩
        simp only [worldmintref27_Bids.j1, hu, hv, Option.bind_some]
        exact h1
      by_cases c : Int.tmod (wrap64 (Int.tdiv t 54)) 4 = 0
      · obtain ⟨L, h1, h2⟩ := hstep _ hp.1 hp.2
        refine ⟨L, Ev.succ ?_, h2⟩
        simp only [worldmintref27_Bids.l0, w64 (most + 1) (by omega) (by omega), hr, ht, Option.bind_some, if_pos hlt, if_pos c, hw1, hw2, g0, g1, g2, g3]
        exact h1
      · obtain ⟨L, h1, h2⟩ := hstep (1 + Int.tmod (Int.tdiv t 6) 9) (by omega) (by omega)
        refine ⟨L, Ev.succ ?_, h2⟩
        simp only [worldmintref27_Bids.l0, w64 (most + 1) (by omega) (by omega), hr, ht, Option.bind_some, if_pos hlt, if_neg c, hw1, g0, g1]
        exact h1
    · refine ⟨x7, Ev.succ ?_, hx, hb⟩
      simp only [worldmintref27_Bids.l0, w64 (most + 1) (by omega) (by omega), hr, Option.bind_some]
      simp only [if_neg hlt]
      exact Ev.some_
theorem bids_ok (n : Int) (l : List Int) (hl : ∀ x ∈ l, (Lit.int .i64 x).wf = true) (most : Int) (hn1 : 1 ≤ n) (hn8 : n ≤ 8) (hm0 : 0 ≤ most) (hm1 : most ≤ 1000) :
    ∃ L, Ev (fun k => worldmintref27_Bids.f k n l most) L ∧ (L.length : Int) ≤ most ∧ ∀ b ∈ L, GoodBid n b := by
  have := bids_l0 n l hl most hn1 hn8 hm0 hm1 _ [] rfl (by simpa using hm0) (by simp)
  simpa [worldmintref27_Bids.f] using this
end Go.Proofs.Ytecbfpcidoilmaa.H

/- What the reference of bids and clear computes: by the same plain words. -/
namespace Go.Proofs.Ytecbfpcidoilmaa.H
open Go.RowKit Go.Proofs.YtecbfpcidoilmaaW.PrintWords Go.Proofs.YtecbfpcidoilmaaW.PrintLast
set_option linter.unusedVariables false
set_option linter.unusedSimpArgs false
/-- A bid of the reference as a bid of the program. -/
def cv (b : S63) : S45 := ⟨b.f0, b.f1, b.f2⟩
theorem drop_cons {α : Type} (l : List α) (p : Nat) (x : α) (d : List α) (h : l.drop p = x :: d) : l[p]? = some x ∧ l.drop (p + 1) = d ∧ p < l.length := by
  have h1 : l[p]? = some x := by
    have := congrArg (fun t => t[0]?) h
    simpa using this
  refine ⟨h1, ?_, ?_⟩
  · have := congrArg List.tail h
    simpa using this
  · have := congrArg List.length h
    simp at this
    omega
theorem drop_nil {α : Type} (l : List α) (p : Nat) (hp : p ≤ l.length) (h : l.drop p = []) : p = l.length := by
  have := congrArg List.length h
  simp at this
  omega
theorem rdR_at (l : List S63) (i : Nat) (x : S63) (h : l[i]? = some x) : rd_T63 l (i : Int) = x := by
  simp [rd_T63, List.getD, h]
/-! ### given -/
theorem given_ok (l : List S63) (hl : l.length < 3518437208883) : Ev (fun k => worldmintlaw28_given.f k l) (l.map cv) := by
  have : ∀ (d : List S63) (p : Nat), l.drop p = d → p ≤ l.length → Ev (fun k => worldmintlaw28_given.l0 k l ((l.take p).map cv) (p : Int)) (l.map cv) := by
    intro d
    induction d with
    | nil =>
      intro p hd hp
      have := drop_nil l p hp hd
      subst this
      refine Ev.succ ?_
      simp only [worldmintlaw28_given.l0, if_neg (show ¬ (l.length : Int) < (l.length : Int) by omega), List.take_length]
      exact Ev.some_
    | cons x d ih =>
      intro p hd hp
      obtain ⟨hx, hd', hlt⟩ := drop_cons l p x d hd
      have hw : wrap64 ((p : Int) + 1) = ((p + 1 : Nat) : Int) := by rw [w64 _ (by omega) (by omega)]; omega
      have h1 := ih (p + 1) hd' (by omega)
      refine Ev.succ ?_
      simp only [worldmintlaw28_given.l0, if_pos (show (p : Int) < (l.length : Int) by omega), if_pos (show (0 : Int) ≤ (p : Int) by omega), rdR_at l p x hx, hw, List.length_map, List.length_take]
      simp only [if_pos (show min p l.length < 3518437208883 by omega)]
      have e : (l.take p).map cv ++ [⟨x.f0, x.f1, x.f2⟩] = (l.take (p + 1)).map cv := by
        have hg : l[p] = x := by
          have := List.getElem?_eq_getElem hlt
          rw [hx] at this
          injection this with this
          exact this.symm
        rw [List.take_succ_eq_append_getElem hlt, List.map_append, hg]
        rfl
      rw [e]
      exact h1
  exact this l 0 rfl (Nat.zero_le _)
theorem choice_ok (n : Nat) (hn : n ≤ 100) : ∀ (d : Nat) (i : Nat) (bits : Nat) (acc : List Int), n - i = d → i ≤ n → acc.length ≤ i → bits ≤ 9223372036854775807 →
    Ev (fun k => worldmintref27_Choice.l0 k (bits : Int) (n : Int) acc (i : Int)) (acc ++ choiceP d bits i)
  | 0, i, bits, acc, hd, hi, hacc, hb => by
    refine Ev.succ ?_
    simp only [worldmintref27_Choice.l0, if_neg (show ¬ (i : Int) < (n : Int) by omega), choiceP, List.append_nil]
    exact Ev.some_
  | d + 1, i, bits, acc, hd, hi, hacc, hb => by
    have hw : wrap64 ((i : Int) + 1) = ((i + 1 : Nat) : Int) := by rw [w64 _ (by omega) (by omega)]; omega
    have ht : Int.tmod (bits : Int) 2 = ((bits % 2 : Nat) : Int) := by rw [Int.tmod_eq_emod_of_nonneg (by omega)]; omega
    have hv : wrap64 (Int.tdiv (bits : Int) 2) = ((bits / 2 : Nat) : Int) := by
      rw [Int.tdiv_eq_ediv_of_nonneg (by omega), w64 _ (by omega) (by omega)]; omega
    refine Ev.succ ?_
    simp only [worldmintref27_Choice.l0, if_pos (show (i : Int) < (n : Int) by omega), ht, hv, hw, choiceP]
    by_cases c : bits % 2 = 1
    · simp only [if_pos (show ((bits % 2 : Nat) : Int) = 1 by omega), if_pos (show acc.length < 17592186044416 by omega), if_pos c]
      have := choice_ok n hn d (i + 1) (bits / 2) (acc ++ [(i : Int)]) (by omega) (by omega) (by simp; omega) (by omega)
      simpa using this
    · simp only [if_neg (show ¬ ((bits % 2 : Nat) : Int) = 1 by omega), if_neg c]
      exact choice_ok n hn d (i + 1) (bits / 2) acc (by omega) (by omega) (by omega) (by omega)
end Go.Proofs.Ytecbfpcidoilmaa.H

/- The reference's feasible choices. -/
namespace Go.Proofs.Ytecbfpcidoilmaa.H
open Go.RowKit Go.Proofs.YtecbfpcidoilmaaW.PrintWords Go.Proofs.YtecbfpcidoilmaaW.PrintLast
set_option linter.unusedVariables false
set_option linter.unusedSimpArgs false
theorem choice_rising : ∀ (n bits i : Nat), (choiceP n bits i).Pairwise (· < ·)
  | 0, _, _ => by simp [choiceP]
  | n + 1, bits, i => by
    unfold choiceP
    split
    · refine List.pairwise_cons.2 ⟨fun k hk => ?_, choice_rising n (bits / 2) (i + 1)⟩
      have := choice_ge n (bits / 2) (i + 1) k hk
      omega
    · exact choice_rising n (bits / 2) (i + 1)
theorem choice_len : ∀ (n bits i : Nat), (choiceP n bits i).length ≤ n
  | 0, _, _ => by simp [choiceP]
  | n + 1, bits, i => by
    have := choice_len n (bits / 2) (i + 1)
    unfold choiceP
    split
    · simp; omega
    · omega
end Go.Proofs.Ytecbfpcidoilmaa.H

/- The reference's best choice is the search's. -/
namespace Go.Proofs.Ytecbfpcidoilmaa.H
open Go.RowKit Go.Proofs.YtecbfpcidoilmaaW.PrintWords Go.Proofs.YtecbfpcidoilmaaW.PrintLast
set_option linter.unusedVariables false
set_option linter.unusedSimpArgs false
end Go.Proofs.Ytecbfpcidoilmaa.H

/- ClearPrices: the program's prices are the reference's. -/
namespace Go.Proofs.Ytecbfpcidoilmaa.H
open Go.RowKit Go.Proofs.YtecbfpcidoilmaaW.PrintWords Go.Proofs.YtecbfpcidoilmaaW.PrintLast
set_option linter.unusedVariables false
set_option linter.unusedSimpArgs false
end Go.Proofs.Ytecbfpcidoilmaa.H

/- ClearMore: the plain statement. -/
namespace Go.Proofs.Ytecbfpcidoilmaa.H
open Go.RowKit Go.Proofs.YtecbfpcidoilmaaW.PrintWords Go.Proofs.YtecbfpcidoilmaaW.PrintLast
set_option linter.unusedVariables false
set_option linter.unusedSimpArgs false
set_option maxRecDepth 100000 in
theorem lives_ok3 : Ev (fun k => worldmintlaw28_lives.f k) true := Ev.of_mono (fun k => worldmintlaw28_lives.mono k) ⟨20, by kernel_rfl⟩
def bestQ (n : Int) (l : List S45) : List Int × Int × Int := if validP n l = 0 then ((searchP (fun _ => true) l).1, (searchP (fun _ => true) l).2, 0) else ([], 0, validP n l)
theorem bestq_f (n : Int) (l : List S45) : clear_Best.f n l = some (bestQ n l) := by
  unfold clear_Best.f bestQ
  split <;> rfl
/-- A good bid, its price raised. -/
def Fine (n : Int) (b : S45) : Prop := 1 ≤ b.f0 ∧ b.f0 ≤ 1073741824 ∧ 1 ≤ b.f1 ∧ b.f1 ≤ 1000 ∧ b.f2.length ≠ 0 ∧ lotsOk n (-1) b.f2 = true
theorem fine_err (n : Int) : ∀ l : List S45, (∀ b ∈ l, Fine n b) → bidsErr n l = 0
  | [], _ => rfl
  | b :: l, h => by
    obtain ⟨h1, h2, h3, h4, h5, h6⟩ := h b (by simp)
    unfold bidsErr
    rw [if_neg (by simp; omega), if_neg (by simp; omega), if_neg (by simpa using h5), h6]
    simpa using fine_err n l (fun x hx => h x (by simp [hx]))
theorem fine_valid (n : Int) (l : List S45) (h1 : 1 ≤ n) (h8 : n ≤ 8) (hl : l.length ≤ 10) (h : ∀ b ∈ l, Fine n b) : validP n l = 0 := by
  unfold validP
  rw [if_neg (by simp; omega), if_neg (by omega)]
  exact fine_err n l h
theorem opt_at (l : List S45) (hp : ∀ b ∈ l, 1 ≤ b.f1) : ∃ bits, bits < 2 ^ l.length ∧ okS (fun _ => true) l [] (choiceP l.length bits 0) = true ∧ valP l (choiceP l.length bits 0) = (searchP (fun _ => true) l).2 := by
  rw [search_ext hp]
  obtain ⟨h1, h2, b, h3, h4⟩ := ext_valid (U := fun _ => true) (l := l) l 0 [] rfl
  exact ⟨b, h3, by rw [h4]; exact h1, by rw [h4]; exact h2⟩
theorem opt_le (l : List S45) (hp : ∀ b ∈ l, 1 ≤ b.f1) (bits : Nat) (h : okS (fun _ => true) l [] (choiceP l.length bits 0) = true) : valP l (choiceP l.length bits 0) ≤ (searchP (fun _ => true) l).2 := by
  rw [search_ext hp]
  exact (ext_best (U := fun _ => true) (l := l) l 0 [] rfl hp bits h).1
end Go.Proofs.Ytecbfpcidoilmaa.H
namespace Go.Proofs.Ytecbfpcidoilmaa.Pure
end Go.Proofs.Ytecbfpcidoilmaa.Pure

/- What a bidder gains. -/

namespace Go.Proofs.Ytecbfpcidoilmaa.H
open Go.RowKit Go.Proofs.YtecbfpcidoilmaaW.PrintWords Go.Proofs.YtecbfpcidoilmaaW.PrintLast
set_option linter.unusedVariables false
set_option linter.unusedSimpArgs false
end Go.Proofs.Ytecbfpcidoilmaa.H

/- ClearBounds: the plain statement. -/
namespace Go.Proofs.Ytecbfpcidoilmaa.H
open Go.RowKit Go.Proofs.YtecbfpcidoilmaaW.PrintWords Go.Proofs.YtecbfpcidoilmaaW.PrintLast
set_option linter.unusedVariables false
set_option linter.unusedSimpArgs false
theorem value_ok (l : List S45) (c : List Int) (hc : ∀ k ∈ c, 0 ≤ k ∧ k < l.length) (hl : c.length ≤ 1000) (hp : ∀ b ∈ l, 0 ≤ b.f1 ∧ b.f1 ≤ 1099511627776) : Ev (fun k => bids_Value.f k l c) (valP l c) := by
  have : ∀ (d : List Int) (p : Nat) (s : Int), c.drop p = d → p ≤ c.length → 0 ≤ s → s ≤ p * 1099511627776 → Ev (fun k => bids_Value.l0 k l s c (c.length : Int) (p : Int)) (s + valP l d) := by
    intro d
    induction d with
    | nil =>
      intro p s hd hpl hs0 hs1
      have := drop_nil c p hpl hd
      refine Ev.succ ?_
      simp only [bids_Value.l0, if_neg (show ¬ (p : Int) < (c.length : Int) by omega), valP, List.map_nil, List.sum_nil, Int.add_zero]
      exact Ev.some_
    | cons y d ih =>
      intro p s hd hpl hs0 hs1
      obtain ⟨hx, hd', hlt⟩ := drop_cons c p y d hd
      obtain ⟨hy0, hy1⟩ := hc y (List.mem_of_getElem? hx)
      have hw : wrap64 ((p : Int) + 1) = ((p + 1 : Nat) : Int) := by rw [w64 _ (by omega) (by omega)]; omega
      have hyl : y.toNat < l.length := by omega
      have hm : l.getD y.toNat z45 ∈ l := by simp [List.getD, hyl]
      have hb := hp _ hm
      have hrd : rd_T45 l y = l.getD y.toNat z45 := rfl
      have hw2 : wrap64 (s + (l.getD y.toNat z45).f1) = s + (l.getD y.toNat z45).f1 := w64 _ (by omega) (by omega)
      have h1 := ih (p + 1) (s + (l.getD y.toNat z45).f1) hd' (by omega) (by omega) (by omega)
      refine Ev.succ ?_
      simp only [bids_Value.l0, if_pos (show (p : Int) < (c.length : Int) by omega), if_pos (show (0 : Int) ≤ (p : Int) by omega), rd_at c p y hx, hw, if_pos (show y ≥ 0 by omega), if_pos (show y < (l.length : Int) by omega), if_pos (show (0 : Int) ≤ y by omega), hrd, hw2]
      have e : s + valP l (y :: d) = s + (l.getD y.toNat z45).f1 + valP l d := by
        simp only [valP, List.map_cons, List.sum_cons]
        omega
      rw [e]
      exact h1
  have h := this c 0 0 rfl (Nat.zero_le _) (by omega) (by omega)
  simpa [bids_Value.f] using h
theorem rlots_ok (n : Int) (m : List Int) (hm : ∀ x ∈ m, (Lit.int .i64 x).wf = true) (hn0 : 0 ≤ n) (hn8 : n ≤ 8) : ∃ ps, Ev (fun k => worldmintref28_Lots.f k n m) ps ∧ (ps.length : Int) = n ∧ ∀ p ∈ ps, 0 ≤ p ∧ p < 12 := by
  have : ∀ (d : Nat) (acc : List Int), (n - acc.length).toNat = d → (acc.length : Int) ≤ n → (∀ p ∈ acc, 0 ≤ p ∧ p < 12) → ∃ ps, Ev (fun k => worldmintref28_Lots.l0 k n m acc (acc.length : Int)) ps ∧ (ps.length : Int) = n ∧ ∀ p ∈ ps, 0 ≤ p ∧ p < 12 := by
    intro d
    induction d with
    | zero =>
      intro acc hd hl ha
      refine ⟨acc, Ev.succ ?_, by omega, ha⟩
      simp only [worldmintref28_Lots.l0, if_neg (show ¬ (acc.length : Int) < n by omega)]
      exact Ev.some_
    | succ d ih =>
      intro acc hd hl ha
      obtain ⟨r, hr, hr0, hr1⟩ := pick_ok m (acc.length : Int) 12 hm (by omega)
      have hw : wrap64 ((acc.length : Int) + 1) = ((acc ++ [r]).length : Int) := by rw [w64 _ (by omega) (by omega)]; simp
      obtain ⟨ps, h1, h2⟩ := ih (acc ++ [r]) (by simp; omega) (by simp; omega) (fun p hp => by
        rcases List.mem_append.1 hp with h | h
        · exact ha p h
        · rw [List.mem_singleton] at h; subst h; exact ⟨hr0, hr1⟩)
      refine ⟨ps, Ev.succ ?_, h2⟩
      simp only [worldmintref28_Lots.l0, if_pos (show (acc.length : Int) < n by omega), hr, Option.bind_some, if_pos (show acc.length < 17592186044416 by omega), hw]
      exact h1
  simpa [worldmintref28_Lots.f] using this _ [] rfl (by simpa using hn0) (by simp)
/-- One round of the loop over the choices. -/
theorem bounds_round (l : List S45) (hl : l.length ≤ 100) (hp : ∀ b ∈ l, 1 ≤ b.f1 ∧ b.f1 ≤ 1099511627776) (B V : Int) (c : Nat) (hc : c < 256)
    (hB : ∀ s : List Int, (∀ k ∈ s, 0 ≤ k ∧ k < l.length) → okS (fun _ => true) l [] s = true → valP l s ≤ B) (hV : okS (fun _ => true) l [] (choiceP l.length c 0) = true → valP l (choiceP l.length c 0) ≤ V)
    (hnext : Ev (fun k => worldmintlaw28_ClearBounds.l0 k l B V ((c + 1 : Nat) : Int)) true) : Ev (fun k => worldmintlaw28_ClearBounds.l0 k l B V (c : Int)) true := by
  have hrange : ∀ k ∈ choiceP l.length c 0, 0 ≤ k ∧ k < l.length := fun k hk => by have := choice_ge l.length c 0 k hk; omega
  have hlen : (choiceP l.length c 0).length ≤ 1000 := by have := choice_len l.length c 0; omega
  have hw : wrap64 ((c : Int) + 1) = ((c + 1 : Nat) : Int) := by rw [w64 _ (by omega) (by omega)]; omega
  have hc0 : (c : Int) < 256 := by omega
  have hch := choice_ok l.length hl l.length 0 c [] (Nat.sub_zero _) (Nat.zero_le _) (Nat.le_refl _) (Nat.le_trans (Nat.le_of_lt hc) (by simp))
  rw [List.nil_append] at hch
  have hval := value_ok l (choiceP l.length c 0) hrange hlen (fun b hb => ⟨Int.le_trans (by decide) (hp b hb).1, (hp b hb).2⟩)
  have hfe := feas_ok l (choiceP l.length c 0) [] hrange (choice_rising _ _ _) (by simp)
  refine Ev.succ ?_
  simp only [worldmintlaw28_ClearBounds.l0, if_pos hc0, hw]
  refine Ev.bind (a := choiceP l.length c 0) hch ?_
  simp only [bids_Feasible.f, Option.bind_some, hfe]
  cases hok : okS (fun _ => true) l [] (choiceP l.length c 0)
  · simp only [Bool.false_eq_true, if_false]
    exact hnext
  · have h1 : ¬ valP l (choiceP l.length c 0) > B := Int.not_lt.2 (hB _ hrange hok)
    have h2 : ¬ valP l (choiceP l.length c 0) > V := Int.not_lt.2 (hV hok)
    simp only [if_true]
    refine Ev.bind hval ?_
    simp only [if_neg h1]
    refine Ev.bind hval ?_
    simp only [if_neg h2]
    exact hnext
theorem ClearBounds_pure : worldmintlaw28_ClearBounds.Pure := by
  intro a0 l1 l2 w0 _ _ w1 _ _ w2
  obtain ⟨t, ht, ht0, ht1⟩ := lots_ok a0 w0
  obtain ⟨L, hL, hLl, hLg⟩ := bids_ok t l1 w1 8 ht0 ht1 (by omega) (by omega)
  obtain ⟨ps, hps, hpl, hpr⟩ := rlots_ok t l2 w2 (by omega) ht1
  have hfine : ∀ b ∈ L.map cv, Fine t b ∧ b.f1 ≤ 450 := fun b hb => by
    obtain ⟨y, hy, rfl⟩ := List.mem_map.1 hb
    obtain ⟨g1, g2, g3, g4, g5, g6, g7⟩ := hLg y hy
    exact ⟨⟨g1, by show y.f0 ≤ _; omega, g3, by show y.f1 ≤ _; omega, g5, g6⟩, g4⟩
  have hgiven := given_ok L (by omega)
  have hlen : (L.map cv).length = L.length := List.length_map ..
  generalize L.map cv = l at *
  have hp : ∀ b ∈ l, 1 ≤ b.f1 := fun b hb => (hfine b hb).1.2.2.1
  have hV : validP t l = 0 := fine_valid t l ht0 ht1 (by omega) (fun b hb => (hfine b hb).1)
  have hbl := fun s hs hok => bound_le l ps (fun p hpm => by have := hpr p hpm; omega) (fun b hb => ⟨by have := (hfine b hb).2; omega, by rw [hpl]; exact (hfine b hb).1.2.2.2.2.2⟩) s hs hok
  have hrange : ∀ (bits : Nat), ∀ k ∈ choiceP l.length bits 0, 0 ≤ k ∧ k < l.length := fun b k hk => by have := choice_ge l.length b 0 k hk; omega
  have hbound : clear_Bound.f t l ps = some (boundP l ps, 0) := by
    have h1 : ¬ ((ps.length : Int) ≠ t ∨ ps.any (fun p => decide (p < 0) || decide (1099511627776 < p)) = true) := by
      intro h
      rcases h with h | h
      · exact h hpl
      · obtain ⟨p, hpm, h⟩ := List.any_eq_true.1 h
        have := hpr p hpm
        simp at h
        omega
    unfold clear_Bound.f
    rw [if_pos hV, if_neg (by simpa using h1)]
  have hvb : (searchP (fun _ => true) l).2 ≤ boundP l ps := by
    obtain ⟨bits, _, h2, h3⟩ := opt_at l hp
    have := hbl _ (hrange bits) h2
    omega
  have hl100 : l.length ≤ 100 := by omega
  have hpp : ∀ b ∈ l, 1 ≤ b.f1 ∧ b.f1 ≤ 1099511627776 := fun b hb => ⟨hp b hb, by have := (hfine b hb).2; omega⟩
  have hloop : ∀ (d c : Nat), 256 - c = d → c ≤ 256 → Ev (fun k => worldmintlaw28_ClearBounds.l0 k l (boundP l ps) (searchP (fun _ => true) l).2 (c : Int)) true := by
    intro d
    induction d with
    | zero =>
      intro c hd hc
      obtain rfl : c = 256 := by omega
      refine Ev.succ ?_
      simp only [worldmintlaw28_ClearBounds.l0, if_neg (show ¬ ((256 : Nat) : Int) < 256 by omega)]
      exact Ev.bind lives_ok3 Ev.some_
    | succ d ih =>
      intro c hd hc
      exact bounds_round l hl100 hpp _ _ c (by omega) hbl (fun hok => opt_le l hp c hok) (ih (c + 1) (by omega) (by omega))
  refine Ev.ex ?_
  unfold worldmintlaw28_ClearBounds.f
  simp only [ht, Option.bind_some]
  refine Ev.bind hL ?_
  refine Ev.bind hgiven ?_
  refine Ev.bind hps ?_
  simp only [hbound, bestq_f, bestQ, if_pos hV, Option.bind_some, if_true]
  refine Ev.succ ?_
  simp only [worldmintlaw28_ClearBounds.j0, decide_eq_false (show ¬ (searchP (fun _ => true) l).2 > boundP l ps by omega), Bool.false_eq_true, if_false]
  exact hloop 256 0 rfl (by omega)
end Go.Proofs.Ytecbfpcidoilmaa.H
namespace Go.Proofs.Ytecbfpcidoilmaa.Pure
theorem ClearBounds : H.worldmintlaw28_ClearBounds.Pure := H.ClearBounds_pure
end Go.Proofs.Ytecbfpcidoilmaa.Pure
