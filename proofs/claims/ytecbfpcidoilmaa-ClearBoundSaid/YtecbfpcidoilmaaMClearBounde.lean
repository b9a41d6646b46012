/- Texts of this claim, one behind the other. -/
import Derived.Test.YtecbfpcidoilmaaMClearBoundc
import Derived.Test.YtecbfpcidoilmaaMClearBoundb
import Derived.Test.YtecbfpcidoilmaaMClearBoundd

/- The sum of a map of greatest surpluses, as the references reckon it: for each first bid of a bidder the greatest one. Plain. -/
namespace Go.Proofs.Ytecbfpcidoilmaa.H
open Go.RowKit
set_option linter.unusedVariables false
set_option linter.unusedSimpArgs false
/-- The map, entry by entry. -/
def spG (can : Nat → Bool) (key sv : Nat → Int) (m : Nat) : List (Int × Int) := (List.range m).foldl (fun s i => if can i then addS s (key i) (sv i) else s) []
/-- The greatest one of a bidder. -/
def gS (can : Nat → Bool) (key sv : Nat → Int) (x : Int) (m : Nat) : Int := (List.range m).foldl (fun t k => if can k = true ∧ key k = x ∧ t < sv k then sv k else t) 0
def firstB (key : Nat → Int) (i : Nat) : Bool := (List.range i).all fun k => decide (key k ≠ key i)
/-- What the references add. -/
def sumG (G : Int → Int) (key : Nat → Int) (m : Nat) : Int := ((List.range m).map fun i => if firstB key i then G (key i) else 0).sum
theorem spG_succ (can : Nat → Bool) (key sv : Nat → Int) (m : Nat) : spG can key sv (m + 1) = if can m then addS (spG can key sv m) (key m) (sv m) else spG can key sv m := by
  unfold spG; rw [List.range_succ, List.foldl_append]; rfl
theorem gS_succ (can : Nat → Bool) (key sv : Nat → Int) (x : Int) (m : Nat) : gS can key sv x (m + 1) = if can m = true ∧ key m = x ∧ gS can key sv x m < sv m then sv m else gS can key sv x m := by
  unfold gS; rw [List.range_succ, List.foldl_append]; rfl
theorem sumG_succ (G : Int → Int) (key : Nat → Int) (m : Nat) : sumG G key (m + 1) = sumG G key m + if firstB key m then G (key m) else 0 := by
  unfold sumG; rw [List.range_succ, List.map_append, List.sum_append]; simp
theorem look_addS (k s x : Int) : ∀ M : List (Int × Int), lookI (addS M k s) x = if x = k then some (if (lookI M k).getD 0 < s then s else (lookI M k).getD 0) else lookI M x
  | [] => by
    by_cases h : x = k
    · subst h
      simp only [addS, lookI, if_true, Option.getD_none]
      first | rfl | (by_cases g : 0 < s <;> simp [g])
    · rw [if_neg h]
      simp only [addS, lookI]
      rw [if_neg (fun e => h e.symm)]
  | (j, v) :: M => by
    have ih := look_addS k s x M
    by_cases hj : j = k
    · subst hj
      simp only [addS, if_true, lookI]
      by_cases h : j = x
      · subst h; simp
      · rw [if_neg h, if_neg (fun e => h e.symm), if_neg h]
    · simp only [addS, if_neg hj, lookI]
      by_cases h : j = x
      · subst h
        rw [if_pos rfl, if_neg hj, if_pos rfl]
      · rw [if_neg h, ih, if_neg h]
theorem keys_addS (k s : Int) : ∀ M : List (Int × Int), ∀ y, y ∈ (addS M k s).map (·.1) ↔ y = k ∨ y ∈ M.map (·.1)
  | [], y => by simp [addS]
  | (j, v) :: M, y => by
    have ih := keys_addS k s M y
    by_cases hj : j = k
    · subst hj; simp [addS]
    · simp only [addS, if_neg hj, List.map_cons, List.mem_cons, ih]
      constructor
      · rintro (h | h | h)
        · exact .inr (.inl h)
        · exact .inl h
        · exact .inr (.inr h)
      · rintro (h | h | h)
        · exact .inr (.inl h)
        · exact .inl h
        · exact .inr (.inr h)
theorem nodup_addS (k s : Int) : ∀ M : List (Int × Int), (M.map (·.1)).Nodup → ((addS M k s).map (·.1)).Nodup
  | [], _ => by simp [addS]
  | (j, v) :: M, h => by
    simp only [List.map_cons, List.nodup_cons] at h
    by_cases hj : j = k
    · subst hj; simpa [addS] using h
    · simp only [addS, if_neg hj, List.map_cons, List.nodup_cons]
      refine ⟨fun hm => ?_, nodup_addS k s M h.2⟩
      rcases (keys_addS k s M j).1 hm with e | e
      · exact hj e
      · exact h.1 e
theorem spG_nodup (can : Nat → Bool) (key sv : Nat → Int) : ∀ m, ((spG can key sv m).map (·.1)).Nodup
  | 0 => by simp [spG]
  | m + 1 => by
    rw [spG_succ]
    split
    · exact nodup_addS _ _ _ (spG_nodup can key sv m)
    · exact spG_nodup can key sv m
theorem spG_look (can : Nat → Bool) (key sv : Nat → Int) (x : Int) : ∀ m, (lookI (spG can key sv m) x).getD 0 = gS can key sv x m
  | 0 => rfl
  | m + 1 => by
    have ih := spG_look can key sv x m
    rw [spG_succ, gS_succ]
    by_cases hc : can m = true
    · rw [if_pos hc, look_addS]
      by_cases hx : x = key m
      · subst hx
        rw [if_pos rfl, ih]
        by_cases hlt : gS can key sv (key m) m < sv m
        · rw [if_pos hlt, if_pos ⟨hc, rfl, hlt⟩]; rfl
        · rw [if_neg hlt, if_neg (fun h => hlt h.2.2)]; rfl
      · rw [if_neg hx, ih, if_neg (fun h => hx h.2.1.symm)]
    · rw [if_neg hc, ih, if_neg (fun h => hc h.1)]
theorem spG_keys (can : Nat → Bool) (key sv : Nat → Int) : ∀ m y, y ∈ (spG can key sv m).map (·.1) → ∃ k, k < m ∧ key k = y
  | 0, y, h => by simp [spG] at h
  | m + 1, y, h => by
    rw [spG_succ] at h
    split at h
    · rcases (keys_addS _ _ _ y).1 h with e | e
      · exact ⟨m, by omega, e.symm⟩
      · obtain ⟨k, hk, e⟩ := spG_keys can key sv m y e
        exact ⟨k, by omega, e⟩
    · obtain ⟨k, hk, e⟩ := spG_keys can key sv m y h
      exact ⟨k, by omega, e⟩
theorem look_none (x : Int) : ∀ M : List (Int × Int), ¬ x ∈ M.map (·.1) → lookI M x = none
  | [], _ => rfl
  | (j, v) :: M, h => by
    simp only [List.map_cons, List.mem_cons, not_or] at h
    simp only [lookI, if_neg (fun e : j = x => h.1 e.symm)]
    exact look_none x M h.2
theorem vals_sum : ∀ M : List (Int × Int), (M.map (·.1)).Nodup → (M.map (·.2)).sum = ((M.map (·.1)).map fun x => (lookI M x).getD 0).sum
  | [], _ => rfl
  | (j, v) :: M, h => by
    simp only [List.map_cons, List.nodup_cons] at h
    have ih := vals_sum M h.2
    simp only [List.map_cons, List.sum_cons, lookI, if_true, Option.getD_some]
    rw [ih]
    congr 2
    refine List.map_congr_left (fun x hx => ?_)
    rw [if_neg (fun e : j = x => h.1 (e ▸ hx))]
theorem sum_erase (G : Int → Int) (a : Int) : ∀ K : List Int, a ∈ K → (K.map G).sum = G a + ((K.erase a).map G).sum
  | [], h => by cases h
  | b :: K, h => by
    by_cases e : b = a
    · subst e; simp
    · have h2 : a ∈ K := by
        rcases List.mem_cons.1 h with h | h
        · exact absurd h.symm e
        · exact h
      rw [List.erase_cons_tail (by simpa using e)]
      simp only [List.map_cons, List.sum_cons]
      rw [sum_erase G a K h2]; omega
theorem sumG_congr (G G' : Int → Int) (key : Nat → Int) : ∀ m, (∀ i, i < m → G (key i) = G' (key i)) → sumG G key m = sumG G' key m
  | 0, _ => rfl
  | m + 1, h => by rw [sumG_succ, sumG_succ, sumG_congr G G' key m (fun i hi => h i (by omega)), h m (by omega)]
theorem first_sum (key : Nat → Int) : ∀ (m : Nat) (G : Int → Int) (K : List Int), K.Nodup → (∀ x ∈ K, ∃ k, k < m ∧ key k = x) → (∀ x, ¬ x ∈ K → G x = 0) → sumG G key m = (K.map G).sum
  | 0, G, K, _, hk, _ => by
    have : K = [] := by
      cases K with
      | nil => rfl
      | cons x K => obtain ⟨k, hk, _⟩ := hk x (by simp); omega
    subst this; rfl
  | m + 1, G, K, hn, hk, hz => by
    rw [sumG_succ]
    cases hf : firstB key m
    · obtain ⟨q, hq, he⟩ : ∃ q, q < m ∧ key q = key m := by
        unfold firstB at hf
        obtain ⟨q, hq, h⟩ := List.all_eq_false.1 hf
        exact ⟨q, List.mem_range.1 hq, by simpa using h⟩
      simp only [Bool.false_eq_true, if_false, Int.add_zero]
      refine first_sum key m G K hn (fun x hx => ?_) hz
      obtain ⟨k, hk1, e⟩ := hk x hx
      rcases Nat.lt_succ_iff_lt_or_eq.1 hk1 with h | rfl
      · exact ⟨k, h, e⟩
      · exact ⟨q, hq, he.trans e⟩
    · have hne : ∀ q, q < m → key q ≠ key m := fun q hq => by
        unfold firstB at hf
        simpa using List.all_eq_true.1 hf q (List.mem_range.2 hq)
      simp only [if_true]
      by_cases hm : key m ∈ K
      · rw [sum_erase G (key m) K hm]
        have h1 := first_sum key m (fun x => if x = key m then 0 else G x) (K.erase (key m)) (hn.erase _) (fun x hx => by
          obtain ⟨k, hk1, e⟩ := hk x (List.mem_of_mem_erase hx)
          rcases Nat.lt_succ_iff_lt_or_eq.1 hk1 with h | rfl
          · exact ⟨k, h, e⟩
          · exact absurd e.symm ((List.Nodup.mem_erase_iff hn).1 hx).1) (fun x hx => by
          by_cases e : x = key m
          · simp [e]
          · simp only [if_neg e]
            exact hz x (fun h => hx ((List.Nodup.mem_erase_iff hn).2 ⟨e, h⟩)))
        have h2 : sumG G key m = sumG (fun x => if x = key m then 0 else G x) key m := sumG_congr _ _ key m (fun i hi => by simp [hne i hi])
        have h3 : ((K.erase (key m)).map fun x => if x = key m then 0 else G x) = (K.erase (key m)).map G := List.map_congr_left (fun x hx => if_neg ((List.Nodup.mem_erase_iff hn).1 hx).1)
        rw [h2, h1, h3]; omega
      · rw [hz _ hm, Int.add_zero]
        refine first_sum key m G K hn (fun x hx => ?_) hz
        obtain ⟨k, hk1, e⟩ := hk x hx
        rcases Nat.lt_succ_iff_lt_or_eq.1 hk1 with h | rfl
        · exact ⟨k, h, e⟩
        · exact absurd (e ▸ hx) hm
/-- The sum of the map's values. -/
theorem spG_sum (can : Nat → Bool) (key sv : Nat → Int) (m : Nat) : ((spG can key sv m).map (·.2)).sum = sumG (fun x => gS can key sv x m) key m := by
  rw [vals_sum _ (spG_nodup can key sv m)]
  have h : (fun x => (lookI (spG can key sv m) x).getD 0) = fun x => gS can key sv x m := funext fun x => spG_look can key sv x m
  rw [h]
  refine (first_sum key m _ _ (spG_nodup can key sv m) (fun x hx => spG_keys can key sv m x hx) (fun x hx => ?_)).symm
  rw [← spG_look, look_none x _ hx]; rfl
end Go.Proofs.Ytecbfpcidoilmaa.H

/- What a printed function computes with rounds enough: its laws; the generators of the reference. -/
namespace Go.Proofs.Ytecbfpcidoilmaa.H
open Go.RowKit Go.Proofs.YtecbfpcidoilmaaW.PrintWords Go.Proofs.YtecbfpcidoilmaaW.PrintLast
set_option linter.unusedVariables false
set_option linter.unusedSimpArgs false
/-- With rounds enough, f tells a. -/
def Ev {α : Type} (f : Nat → Option α) (a : α) : Prop := ∃ K, ∀ k, K ≤ k → f k = some a
section
variable {α β : Type} {f : Nat → Option α} {a : α}
theorem Ev.succ (h : Ev (fun k => f (k + 1)) a) : Ev f a := by
  obtain ⟨K, h⟩ := h
  refine ⟨K + 1, fun k hk => ?_⟩
  obtain ⟨j, rfl⟩ : ∃ j, k = j + 1 := ⟨k - 1, by omega⟩
  exact h j (by omega)
theorem Ev.bind {g : Nat → α → Option β} {b : β} (hf : Ev f a) (hg : Ev (fun k => g k a) b) : Ev (fun k => (f k).bind (g k)) b := by
  obtain ⟨K, h⟩ := hf
  obtain ⟨K2, h2⟩ := hg
  exact ⟨max K K2, fun k hk => by
    show (f k).bind (g k) = some b
    rw [h k (by omega)]
    exact h2 k (by omega)⟩
theorem Ev.some_ : Ev (fun _ => some a) a := ⟨0, fun _ _ => rfl⟩
theorem Ev.ex (h : Ev f a) : ∃ k, f k = some a := by
  obtain ⟨K, h⟩ := h
  exact ⟨K, h K (Nat.le_refl _)⟩
theorem Ev.of_mono (hm : ∀ k, LeO (f k) (f (k + 1))) (h : ∃ k, f k = some a) : Ev f a := by
  obtain ⟨K, h⟩ := h
  refine ⟨K, fun k hk => ?_⟩
  obtain ⟨d, rfl⟩ := Nat.exists_eq_add_of_le hk
  clear hk
  induction d with
  | zero => exact h
  | succ d ih => exact hm (K + d) _ ih
end
theorem wf_bounds (n : Int) (h : (Lit.int .i64 n).wf = true) : -9223372036854775808 ≤ n ∧ n ≤ 9223372036854775807 := by
  simpa [Lit.wf, IntKind.min, IntKind.max, IntKind.signed, IntKind.bits] using h
theorem w64 (x : Int) (h0 : -9223372036854775808 ≤ x) (h1 : x ≤ 9223372036854775807) : wrap64 x = x := by
  unfold wrap64
  omega
theorem around_ok (n most : Int) (hn : (Lit.int .i64 n).wf = true) (hm : 0 < most) : ∃ r, worldmintref01_Around.f n most = some r ∧ 0 ≤ r ∧ r < most := by
  have hb := wf_bounds n hn
  unfold worldmintref01_Around.f
  by_cases h : n < 0
  · rw [if_pos h, if_neg (by omega), w64 (n + 1) (by omega) (by omega), w64 (-(n + 1)) (by omega) (by omega)]
    exact ⟨_, rfl, Int.tmod_nonneg _ (by omega), Int.tmod_lt_of_pos _ hm⟩
  · rw [if_neg h, if_neg (by omega)]
    exact ⟨_, rfl, Int.tmod_nonneg _ (by omega), Int.tmod_lt_of_pos _ hm⟩
theorem lots_ok (n : Int) (hn : (Lit.int .i64 n).wf = true) : ∃ r, worldmintref27_Lots.f n = some r ∧ 1 ≤ r ∧ r ≤ 8 := by
  obtain ⟨r, h, h0, h1⟩ := around_ok n 8 hn (by omega)
  unfold worldmintref27_Lots.f
  rw [h, Option.bind_some, w64 _ (by omega) (by omega)]
  exact ⟨_, rfl, by omega, by omega⟩
theorem pick_ok (l : List Int) (i most : Int) (hl : ∀ x ∈ l, (Lit.int .i64 x).wf = true) (hm : 0 < most) : ∃ r, worldmintref01_Pick.f l i most = some r ∧ 0 ≤ r ∧ r < most := by
  unfold worldmintref01_Pick.f
  by_cases h : i < 0
  · rw [if_pos h]; exact ⟨0, rfl, by omega, hm⟩
  · rw [if_neg h]
    by_cases h2 : i ≥ (l.length : Int)
    · rw [if_pos h2]; exact ⟨0, rfl, by omega, hm⟩
    · rw [if_neg h2, if_pos (by omega), if_pos (by omega)]
      have hm2 : rd l i ∈ l := by
        have : i.toNat < l.length := by omega
        simp [rd, List.getD, this]
      obtain ⟨r, h3, h4, h5⟩ := around_ok (rd l i) most (hl _ hm2) hm
      exact ⟨r, by rw [h3]; rfl, h4, h5⟩
/-- A bid as the reference draws it. -/
def GoodBid (n : Int) (b : S63) : Prop := 1 ≤ b.f0 ∧ b.f0 ≤ 6 ∧ 1 ≤ b.f1 ∧ b.f1 ≤ 450 ∧ b.f2.length ≠ 0 ∧ lotsOk n (-1) b.f2 = true ∧ b.f2.length ≤ 8
theorem lotsOk_snoc (n j : Int) (hj : j < n) : ∀ (ks : List Int) (last : Int), lotsOk n last ks = true → (∀ k ∈ ks, k < j) → last < j → lotsOk n last (ks ++ [j]) = true
  | [], last, _, _, h => by
    simp only [List.nil_append, lotsOk]
    simp [hj, h]
  | k :: ks, last, h, hk, _ => by
    simp only [List.cons_append, lotsOk] at h ⊢
    split at h
    · simp at h
    · rename_i hc
      rw [if_neg hc]
      exact lotsOk_snoc n j hj ks k h (fun x hx => hk x (by simp [hx])) (hk k (by simp))
set_option maxHeartbeats 1000000 in
theorem bids_l1 (n : Int) (l : List Int) (most : Int) (x7 : List S63) (x8 f0 f1 : Int) (hn1 : 1 ≤ n) (hn8 : n ≤ 8) (hx7 : x7.length < 3518437208883) (L : List S63)
    (hnext : ∀ ks : List Int, ks.length ≠ 0 → lotsOk n (-1) ks = true → ks.length ≤ 8 → ∃ L, Ev (fun k => worldmintref27_Bids.l0 k n l most (x7 ++ [⟨f0, f1, ks⟩]) (wrap64 (x8 + 1))) L ∧ (L.length : Int) ≤ most ∧ ∀ b ∈ L, GoodBid n b) :
    ∀ (d : Nat) (j : Int) (bs : Int) (ks : List Int), (n - j).toNat = d → 0 ≤ j → j ≤ n → lotsOk n (-1) ks = true → (∀ k ∈ ks, k < j) → (ks.length : Int) ≤ j → (j = n → ks.length ≠ 0) →
    ∃ L, Ev (fun k => worldmintref27_Bids.l1 k n l most x7 x8 bs j f0 f1 ks) L ∧ (L.length : Int) ≤ most ∧ ∀ b ∈ L, GoodBid n b
  | 0, j, bs, ks, hd, h0, hjn, hk, hkj, hkl, hne => by
    obtain ⟨L, h1, h2⟩ := hnext ks (hne (by omega)) hk (by omega)
    refine ⟨L, Ev.succ ?_, h2⟩
    simp only [worldmintref27_Bids.l1]
    simp only [if_neg (show ¬ j < n by omega), if_pos hx7]
    exact h1
  | d + 1, j, bs, ks, hd, h0, hjn, hk, hkj, hkl, hne => by
    have hw : wrap64 (j + 1) = j + 1 := w64 _ (by omega) (by omega)
    have hw2 : wrap64 (n - 1) = n - 1 := w64 _ (by omega) (by omega)
    have happ := fun bs' => bids_l1 n l most x7 x8 f0 f1 hn1 hn8 hx7 L hnext d (j + 1) bs' (ks ++ [j]) (by omega) (by omega) (by omega) (lotsOk_snoc n j (by omega) ks (-1) hk hkj (by omega)) (fun k hk' => by
      rcases List.mem_append.1 hk' with h | h
      · have := hkj k h; omega
      · simp at h; omega) (by simp; omega) (fun _ => by simp)
    have hnot := fun bs' (hh : j + 1 = n → ks.length ≠ 0) => bids_l1 n l most x7 x8 f0 f1 hn1 hn8 hx7 L hnext d (j + 1) bs' ks (by omega) (by omega) (by omega) hk (fun k hk' => by have := hkj k hk'; omega) (by omega) hh
    by_cases c1 : Int.tmod bs 2 = 1
    · obtain ⟨L, h1, h2⟩ := happ (wrap64 (Int.tdiv bs 2))
      refine ⟨L, Ev.succ ?_, h2⟩
      simp only [worldmintref27_Bids.l1]
      simp only [if_pos (show j < n by omega), if_pos c1, if_pos (show ks.length < 17592186044416 by omega), hw]
      exact h1
    · by_cases c2 : j = n - 1
      · by_cases c3 : (ks.length : Int) = 0
        · obtain ⟨L, h1, h2⟩ := happ (wrap64 (Int.tdiv bs 2))
          refine ⟨L, Ev.succ ?_, h2⟩
          simp only [worldmintref27_Bids.l1]
          simp only [if_pos (show j < n by omega), if_neg c1, hw2, if_pos c2, if_pos c3, if_pos (show ks.length < 17592186044416 by omega), hw]
          exact h1
        · obtain ⟨L, h1, h2⟩ := hnot (wrap64 (Int.tdiv bs 2)) (fun _ => by omega)
          refine ⟨L, Ev.succ ?_, h2⟩
          simp only [worldmintref27_Bids.l1]
          simp only [if_pos (show j < n by omega), if_neg c1, hw2, if_pos c2, if_neg c3, hw]
          exact h1
      · obtain ⟨L, h1, h2⟩ := hnot (wrap64 (Int.tdiv bs 2)) (fun _ => by omega)
        refine ⟨L, Ev.succ ?_, h2⟩
        simp only [worldmintref27_Bids.l1]
        simp only [if_pos (show j < n by omega), if_neg c1, hw2, if_neg c2, hw]
        exact h1
set_option maxHeartbeats 1000000 in
theorem bids_l0 (n : Int) (l : List Int) (hl : ∀ x ∈ l, (Lit.int .i64 x).wf = true) (most : Int) (hn1 : 1 ≤ n) (hn8 : n ≤ 8) (hm0 : 0 ≤ most) (hm1 : most ≤ 1000) :
    ∀ (d : Nat) (x7 : List S63), (most - x7.length).toNat = d → (x7.length : Int) ≤ most → (∀ b ∈ x7, GoodBid n b) →
    ∃ L, Ev (fun k => worldmintref27_Bids.l0 k n l most x7 x7.length) L ∧ (L.length : Int) ≤ most ∧ ∀ b ∈ L, GoodBid n b := by
  intro d
  induction d with
  | zero =>
    intro x7 hd hx hb
    obtain ⟨r, hr, hr0, hr1⟩ := pick_ok l 0 (most + 1) hl (by omega)
    refine ⟨x7, Ev.succ ?_, hx, hb⟩
    simp only [worldmintref27_Bids.l0, w64 (most + 1) (by omega) (by omega), hr, Option.bind_some]
    simp only [if_neg (show ¬ (x7.length : Int) < r by omega)]
    exact Ev.some_
  | succ d ih =>
    intro x7 hd hx hb
    obtain ⟨r, hr, hr0, hr1⟩ := pick_ok l 0 (most + 1) hl (by omega)
    by_cases hlt : (x7.length : Int) < r
    · obtain ⟨t, ht, ht0, ht1⟩ := pick_ok l (wrap64 (1 + wrap64 (3 * (x7.length : Int)))) 1000000 hl (by omega)
      obtain ⟨u, hu, hu0, hu1⟩ := pick_ok l (wrap64 (2 + wrap64 (3 * (x7.length : Int)))) 255 hl (by omega)
      obtain ⟨v, hv, hv0, hv1⟩ := pick_ok l (wrap64 (3 + wrap64 (3 * (x7.length : Int)))) 255 hl (by omega)
      have e0 : 0 ≤ Int.tmod t 6 ∧ Int.tmod t 6 < 6 := ⟨Int.tmod_nonneg _ ht0, Int.tmod_lt_of_pos _ (by omega)⟩
      have hq : 0 ≤ Int.tdiv t 6 ∧ Int.tdiv t 6 ≤ t := ⟨Int.tdiv_nonneg ht0 (by omega), Int.tdiv_le_self _ ht0⟩
      have hq2 : 0 ≤ Int.tdiv t 216 ∧ Int.tdiv t 216 ≤ t := ⟨Int.tdiv_nonneg ht0 (by omega), Int.tdiv_le_self _ ht0⟩
      have hw1 : wrap64 (Int.tdiv t 6) = Int.tdiv t 6 := w64 _ (by omega) (by omega)
      have hw2 : wrap64 (Int.tdiv t 216) = Int.tdiv t 216 := w64 _ (by omega) (by omega)
      have e1 : 0 ≤ Int.tmod (Int.tdiv t 6) 9 ∧ Int.tmod (Int.tdiv t 6) 9 < 9 := ⟨Int.tmod_nonneg _ hq.1, Int.tmod_lt_of_pos _ (by omega)⟩
      have e2 : 0 ≤ Int.tmod (Int.tdiv t 216) 50 ∧ Int.tmod (Int.tdiv t 216) 50 < 50 := ⟨Int.tmod_nonneg _ hq2.1, Int.tmod_lt_of_pos _ (by omega)⟩
      have g0 : wrap64 (1 + Int.tmod t 6) = 1 + Int.tmod t 6 := w64 _ (by omega) (by omega)
      have g1 : wrap64 (1 + Int.tmod (Int.tdiv t 6) 9) = 1 + Int.tmod (Int.tdiv t 6) 9 := w64 _ (by omega) (by omega)
      have g2 : wrap64 (1 + Int.tmod (Int.tdiv t 216) 50) = 1 + Int.tmod (Int.tdiv t 216) 50 := w64 _ (by omega) (by omega)
      have hpr : ∀ a b : Int, 1 ≤ a → a ≤ 9 → 1 ≤ b → b ≤ 50 → 1 ≤ a * b ∧ a * b ≤ 450 := fun a b a1 a2 b1 b2 => by
        have h1 : 1 * 1 ≤ a * b := Int.mul_le_mul a1 b1 (by omega) (by omega)
        have h2 : a * b ≤ 9 * 50 := Int.mul_le_mul a2 b2 (by omega) (by omega)
        omega
      have hp := hpr (1 + Int.tmod (Int.tdiv t 6) 9) (1 + Int.tmod (Int.tdiv t 216) 50) (by omega) (by omega) (by omega) (by omega)
      have g3 : wrap64 ((1 + Int.tmod (Int.tdiv t 6) 9) * (1 + Int.tmod (Int.tdiv t 216) 50)) = (1 + Int.tmod (Int.tdiv t 6) 9) * (1 + Int.tmod (Int.tdiv t 216) 50) := w64 _ (by omega) (by omega)
      have hstep : ∀ p : Int, 1 ≤ p → p ≤ 450 → ∃ L, Ev (fun k => worldmintref27_Bids.j1 k n l most x7 (x7.length : Int) (1 + Int.tmod t 6) p) L ∧ (L.length : Int) ≤ most ∧ ∀ b ∈ L, GoodBid n b := fun p hp1 hp2 => by
        obtain ⟨L, h1, h2⟩ := bids_l1 n l most x7 (x7.length : Int) (1 + Int.tmod t 6) p hn1 hn8 (by omega) [] (fun ks hk0 hk1 hk2 => by
          obtain ⟨L, h1, h2⟩ := ih (x7 ++ [⟨1 + Int.tmod t 6, p, ks⟩]) (by simp; omega) (by simp; omega) (fun b hb' => by
            rcases List.mem_append.1 hb' with h | h
            · exact hb b h
            · rw [List.mem_singleton] at h; subst h; exact ⟨by show 1 ≤ 1 + _; omega, by show 1 + _ ≤ 6; omega, hp1, hp2, hk0, hk1, hk2⟩)
          refine ⟨L, ?_, h2⟩
          rw [w64 _ (by omega) (by omega)]
          simpa using h1) n.toNat 0 (Go.bits .and .i64 u (Go.bits .or .i64 v 17)) [] (by omega) (by omega) (by omega) rfl (by simp) (by simp) (by omega)
        refine ⟨L, Ev.succ ?_, h2⟩
        simp only [worldmintref27_Bids.j1, hu, hv, Option.bind_some]
        exact h1
      by_cases c : Int.tmod (wrap64 (Int.tdiv t 54)) 4 = 0
      · obtain ⟨L, h1, h2⟩ := hstep _ hp.1 hp.2
        refine ⟨L, Ev.succ ?_, h2⟩
        simp only [worldmintref27_Bids.l0, w64 (most + 1) (by omega) (by omega), hr, ht, Option.bind_some, if_pos hlt, if_pos c, hw1, hw2, g0, g1, g2, g3]
        exact h1
      · obtain ⟨L, h1, h2⟩ := hstep (1 + Int.tmod (Int.tdiv t 6) 9) (by omega) (by omega)
        refine ⟨L, Ev.succ ?_, h2⟩
        simp only [worldmintref27_Bids.l0, w64 (most + 1) (by omega) (by omega), hr, ht, Option.bind_some, if_pos hlt, if_neg c, hw1, g0, g1]
        exact h1
    · refine ⟨x7, Ev.succ ?_, hx, hb⟩
      simp only [worldmintref27_Bids.l0, w64 (most + 1) (by omega) (by omega), hr, Option.bind_some]
      simp only [if_neg hlt]
      exact Ev.some_
theorem bids_ok (n : Int) (l : List Int) (hl : ∀ x ∈ l, (Lit.int .i64 x).wf = true) (most : Int) (hn1 : 1 ≤ n) (hn8 : n ≤ 8) (hm0 : 0 ≤ most) (hm1 : most ≤ 1000) :
    ∃ L, Ev (fun k => worldmintref27_Bids.f k n l most) L ∧ (L.length : Int) ≤ most ∧ ∀ b ∈ L, GoodBid n b := by
  have := bids_l0 n l hl most hn1 hn8 hm0 hm1 _ [] rfl (by simpa using hm0) (by simp)
  simpa [worldmintref27_Bids.f] using this
end Go.Proofs.Ytecbfpcidoilmaa.H

/- The search's answer: the best choice, and of equals the least. Plain. -/
namespace Go.Proofs.Ytecbfpcidoilmaa.H
open Go.RowKit
set_option linter.unusedVariables false
set_option linter.unusedSimpArgs false
/-- The best extension. -/
def ext (U : S45 → Bool) (l : List S45) : List S45 → Nat → List Int → List Int × Int
  | [], _, _ => ([], 0)
  | b :: left, i, win =>
    if U b && !(win.any fun w => conf (l.getD w.toNat z45) b) then
      if (ext U l left (i + 1) (win ++ [(i : Int)])).2 + b.f1 < (ext U l left (i + 1) win).2 then ext U l left (i + 1) win
      else ((i : Int) :: (ext U l left (i + 1) (win ++ [(i : Int)])).1, (ext U l left (i + 1) (win ++ [(i : Int)])).2 + b.f1)
    else ext U l left (i + 1) win
section
variable {U : S45 → Bool} {l : List S45}
end
end Go.Proofs.Ytecbfpcidoilmaa.H

/- What the reference of bids computes: by the same plain words. -/
namespace Go.Proofs.Ytecbfpcidoilmaa.H
open Go.RowKit Go.Proofs.YtecbfpcidoilmaaW.PrintWords Go.Proofs.YtecbfpcidoilmaaW.PrintLast
set_option linter.unusedVariables false
set_option linter.unusedSimpArgs false
/-- A bid of the reference as a bid of the program. -/
def cv (b : S63) : S45 := ⟨b.f0, b.f1, b.f2⟩
theorem drop_cons {α : Type} (l : List α) (p : Nat) (x : α) (d : List α) (h : l.drop p = x :: d) : l[p]? = some x ∧ l.drop (p + 1) = d ∧ p < l.length := by
  have h1 : l[p]? = some x := by
    have := congrArg (fun t => t[0]?) h
    simpa using this
  refine ⟨h1, ?_, ?_⟩
  · have := congrArg List.tail h
    simpa using this
  · have := congrArg List.length h
    simp at this
    omega
theorem drop_nil {α : Type} (l : List α) (p : Nat) (hp : p ≤ l.length) (h : l.drop p = []) : p = l.length := by
  have := congrArg List.length h
  simp at this
  omega
theorem rdR_at (l : List S63) (i : Nat) (x : S63) (h : l[i]? = some x) : rd_T63 l (i : Int) = x := by
  simp [rd_T63, List.getD, h]
/-! ### Valid -/
theorem rvalid_l1 (n : Int) (l : List S63) (i f0 f1 : Int) (ks : List Int) (hk : ks.length ≤ 9223372036854775807) (r : Int) (hr : Ev (fun k => worldmintref27_Valid.l0 k n l (wrap64 (i + 1))) r) :
    ∀ (d : List Int) (p : Nat) (last : Int), ks.drop p = d → p ≤ ks.length → -1 ≤ last → (p = 0 → last = -1) → (∀ q, p = q + 1 → rd ks q = last) →
    Ev (fun k => worldmintref27_Valid.l1 k n l i (p : Int) f0 f1 ks) (if lotsOk n last d then r else 1)
  | [], p, last, hd, hp, hl, hz, hq => by
    have := drop_nil ks p hp hd
    refine Ev.succ ?_
    simp only [worldmintref27_Valid.l1, if_neg (show ¬ (p : Int) < (ks.length : Int) by omega), lotsOk, if_true]
    exact hr
  | x :: d, p, last, hd, hp, hl, hz, hq => by
    obtain ⟨hx, hd', hlt⟩ := drop_cons ks p x d hd
    have ih := fun h0 => rvalid_l1 n l i f0 f1 ks hk r hr d (p + 1) x hd' (by omega) h0 (by omega) (fun q e => by
      have : q = p := by omega
      subst this
      exact rd_at ks q x hx)
    have hw : wrap64 ((p : Int) + 1) = ((p + 1 : Nat) : Int) := by rw [w64 _ (by omega) (by omega)]; omega
    have hF : x ≤ last ∨ n ≤ x → lotsOk n last (x :: d) = false := fun h => by
      simp only [lotsOk]
      rw [if_pos (by simpa using h)]
    have hT : ¬ x ≤ last → ¬ n ≤ x → lotsOk n last (x :: d) = lotsOk n x d := fun h1 h2 => by
      simp only [lotsOk]
      rw [if_neg (by simp; omega)]
    refine Ev.succ ?_
    simp only [worldmintref27_Valid.l1, if_pos (show (p : Int) < (ks.length : Int) by omega), if_pos (show (0 : Int) ≤ (p : Int) by omega), rd_at ks p x hx, hw]
    by_cases c1 : x < 0
    · simp only [if_pos c1]
      rw [hF (by omega)]
      simpa using Ev.some_
    · simp only [if_neg c1]
      by_cases c2 : x ≥ n
      · simp only [if_pos c2]
        rw [hF (by omega)]
        simpa using Ev.some_
      · simp only [if_neg c2]
        cases p with
        | zero =>
          have hl1 := hz rfl
          simp only [if_neg (show ¬ ((0 : Nat) : Int) > 0 by omega)]
          rw [hT (by omega) (by omega)]
          exact ih (by omega)
        | succ q =>
          have hw2 : wrap64 (((q + 1 : Nat) : Int) - 1) = (q : Int) := by rw [w64 _ (by omega) (by omega)]; omega
          simp only [if_pos (show ((q + 1 : Nat) : Int) > 0 by omega), hw2, if_pos (show (0 : Int) ≤ (q : Int) by omega), if_pos (show (q : Int) < (ks.length : Int) by omega), hq q rfl]
          by_cases c3 : x ≤ last
          · simp only [if_pos c3]
            rw [hF (by omega)]
            simpa using Ev.some_
          · simp only [if_neg c3]
            rw [hT (by omega) (by omega)]
            exact ih (by omega)
theorem rvalid_l0 (n : Int) (l : List S63) (hl : l.length ≤ 10) (hb : ∀ b ∈ l, b.f2.length ≤ 9223372036854775807) : ∀ (d : List S63) (p : Nat), l.drop p = d → p ≤ l.length →
    Ev (fun k => worldmintref27_Valid.l0 k n l (p : Int)) (bidsErr n (d.map cv))
  | [], p, hd, hp => by
    have := drop_nil l p hp hd
    refine Ev.succ ?_
    simp only [worldmintref27_Valid.l0, if_neg (show ¬ (p : Int) < (l.length : Int) by omega)]
    exact Ev.some_
  | x :: d, p, hd, hp => by
    obtain ⟨hx, hd', hlt⟩ := drop_cons l p x d hd
    have ih := rvalid_l0 n l hl hb d (p + 1) hd' (by omega)
    have hw : wrap64 ((p : Int) + 1) = ((p + 1 : Nat) : Int) := by rw [w64 _ (by omega) (by omega)]; omega
    have h1 := rvalid_l1 n l p x.f0 x.f1 x.f2 (hb x (List.mem_of_getElem? hx)) _ (by rw [hw]; exact ih) x.f2 0 (-1) rfl (Nat.zero_le _) (by omega) (fun _ => rfl) (fun q e => by omega)
    refine Ev.succ ?_
    simp only [worldmintref27_Valid.l0, if_pos (show (p : Int) < (l.length : Int) by omega), if_pos (show (0 : Int) ≤ (p : Int) by omega), rdR_at l p x hx, List.map_cons, bidsErr, cv]
    have hj : ∀ v : Bool, Ev (fun k => worldmintref27_Valid.j2 k n l (p : Int) v x.f0 x.f1 x.f2) (if v then 1 else if x.f1 < 1 || 1099511627776 < x.f1 then 5 else if x.f2.length == 0 then 1 else if !lotsOk n (-1) x.f2 then 1 else bidsErr n (d.map cv)) := fun v => by
      refine Ev.succ ?_
      cases v
      · have hj3 : ∀ u : Bool, Ev (fun k => worldmintref27_Valid.j3 k n l (p : Int) u x.f0 x.f1 x.f2) (if u then 5 else if x.f2.length == 0 then 1 else if !lotsOk n (-1) x.f2 then 1 else bidsErr n (d.map cv)) := fun u => by
          refine Ev.succ ?_
          cases u
          · simp only [worldmintref27_Valid.j3, Bool.false_eq_true, if_false]
            by_cases c : (x.f2.length : Int) = 0
            · simp only [if_pos c]
              rw [if_pos (by simpa using c)]
              exact Ev.some_
            · simp only [if_neg c]
              rw [if_neg (by simpa using c)]
              cases hk : lotsOk n (-1) x.f2
              · simpa [hk] using h1
              · simpa [hk] using h1
          · simp only [worldmintref27_Valid.j3, if_true]
            exact Ev.some_
        simp only [worldmintref27_Valid.j2, Bool.false_eq_true, if_false]
        by_cases c : x.f1 < 1
        · simp only [if_pos c]
          have := hj3 true
          simpa [c] using this
        · simp only [if_neg c]
          have := hj3 (decide (x.f1 > 1099511627776))
          simpa [c] using this
      · simp only [worldmintref27_Valid.j2, if_true]
        exact Ev.some_
    by_cases c : x.f0 < 1
    · simp only [if_pos c]
      have := hj true
      simpa [c] using this
    · simp only [if_neg c]
      have := hj (decide (x.f0 > 1073741824))
      simpa [c] using this
theorem rvalid_ok (n : Int) (l : List S63) (hb : ∀ b ∈ l, b.f2.length ≤ 9223372036854775807) : Ev (fun k => worldmintref27_Valid.f k n l) (validP n (l.map cv)) := by
  have hj : ∀ v : Bool, Ev (fun k => worldmintref27_Valid.j0 k n l v) (if v then 5 else if 10 < l.length then 4 else bidsErr n (l.map cv)) := fun v => by
    refine Ev.succ ?_
    cases v
    · simp only [worldmintref27_Valid.j0, Bool.false_eq_true, if_false]
      by_cases c : (l.length : Int) > 10
      · simp only [if_pos c]
        rw [if_pos (by omega)]
        exact Ev.some_
      · simp only [if_neg c]
        rw [if_neg (by omega)]
        exact rvalid_l0 n l (by omega) hb l 0 rfl (Nat.zero_le _)
    · simp only [worldmintref27_Valid.j0, if_true]
      exact Ev.some_
  unfold worldmintref27_Valid.f validP
  by_cases c : n < 1
  · simp only [if_pos c]
    have := hj true
    simpa [c] using this
  · simp only [if_neg c]
    have := hj (decide (n > 8))
    simpa [c] using this
/-! ### given -/
theorem given_ok (l : List S63) (hl : l.length < 3518437208883) : Ev (fun k => worldmintlaw28_given.f k l) (l.map cv) := by
  have : ∀ (d : List S63) (p : Nat), l.drop p = d → p ≤ l.length → Ev (fun k => worldmintlaw28_given.l0 k l ((l.take p).map cv) (p : Int)) (l.map cv) := by
    intro d
    induction d with
    | nil =>
      intro p hd hp
      have := drop_nil l p hp hd
      subst this
      refine Ev.succ ?_
      simp only [worldmintlaw28_given.l0, if_neg (show ¬ (l.length : Int) < (l.length : Int) by omega), List.take_length]
      exact Ev.some_
    | cons x d ih =>
      intro p hd hp
      obtain ⟨hx, hd', hlt⟩ := drop_cons l p x d hd
      have hw : wrap64 ((p : Int) + 1) = ((p + 1 : Nat) : Int) := by rw [w64 _ (by omega) (by omega)]; omega
      have h1 := ih (p + 1) hd' (by omega)
      refine Ev.succ ?_
      simp only [worldmintlaw28_given.l0, if_pos (show (p : Int) < (l.length : Int) by omega), if_pos (show (0 : Int) ≤ (p : Int) by omega), rdR_at l p x hx, hw, List.length_map, List.length_take]
      simp only [if_pos (show min p l.length < 3518437208883 by omega)]
      have e : (l.take p).map cv ++ [⟨x.f0, x.f1, x.f2⟩] = (l.take (p + 1)).map cv := by
        have hg : l[p] = x := by
          have := List.getElem?_eq_getElem hlt
          rw [hx] at this
          injection this with this
          exact this.symm
        rw [List.take_succ_eq_append_getElem hlt, List.map_append, hg]
        rfl
      rw [e]
      exact h1
  exact this l 0 rfl (Nat.zero_le _)
end Go.Proofs.Ytecbfpcidoilmaa.H

/- The reference's Bound is the program's. Plain. -/
namespace Go.Proofs.Ytecbfpcidoilmaa.H
open Go.RowKit Go.Proofs.YtecbfpcidoilmaaW.PrintWords Go.Proofs.YtecbfpcidoilmaaW.PrintLast
set_option linter.unusedVariables false
set_option linter.unusedSimpArgs false
def keyB (L : List S63) (i : Nat) : Int := (L.getD i z63).f0
def svB (L : List S63) (ps : List Int) (i : Nat) : Int := surp ps (cv (L.getD i z63))
/-- What is known of the bids and the prices. -/
structure BOk (L : List S63) (ps : List Int) : Prop where
  l10 : L.length ≤ 10
  p8 : ps.length ≤ 8
  pr : ∀ x ∈ ps, 0 ≤ x ∧ x ≤ 1099511627776
  f1 : ∀ b ∈ L, 1 ≤ b.f1 ∧ b.f1 ≤ 1099511627776
  f2 : ∀ b ∈ L, b.f2.length ≤ 8 ∧ ∀ k ∈ b.f2, 0 ≤ k ∧ k < ps.length
theorem surp_hi {L : List S63} {ps : List Int} (ok : BOk L ps) (b : S63) (hb : b ∈ L) : surp ps (cv b) ≤ 1099511627776 := by
  have h1 := lots_sum ps ok.pr b.f2
  have h2 := ok.f1 b hb
  unfold surp
  show b.f1 - (b.f2.map fun k => ps.getD k.toNat 0).sum ≤ _
  omega
theorem svB_hi {L : List S63} {ps : List Int} (ok : BOk L ps) (i : Nat) (hi : i < L.length) : svB L ps i ≤ 1099511627776 := by
  unfold svB
  refine surp_hi ok _ ?_
  simp [List.getD, hi]
theorem gS_bounds {L : List S63} {ps : List Int} (ok : BOk L ps) (x : Int) : ∀ m, m ≤ L.length → 0 ≤ gS (fun _ => true) (keyB L) (svB L ps) x m ∧ gS (fun _ => true) (keyB L) (svB L ps) x m ≤ 1099511627776
  | 0, _ => by simp [gS]
  | m + 1, h => by
    have ih := gS_bounds ok x m (by omega)
    have hs := svB_hi ok m (by omega)
    rw [gS_succ]
    split
    · rename_i hc; omega
    · exact ih
theorem rs_len (ks d : List Int) (y : Int) (p : Nat) (hd : ks.drop p = y :: d) (hlt : p < ks.length) (h8 : ks.length ≤ 8) : wrap64 ((p : Int) + 1) = ((p + 1 : Nat) : Int) ∧ d.length ≤ 8 ∧ (ks.take p).length ≤ 8 ∧ (0 : Int) ≤ (p : Int) ∧ (p : Int) < (ks.length : Int) := by
  have h1 := congrArg List.length hd
  simp only [List.length_drop, List.length_cons] at h1
  refine ⟨by rw [w64 _ (by omega) (by omega)]; omega, by omega, by rw [List.length_take]; omega, by omega, by omega⟩
theorem lots_le8 {L : List S63} {ps : List Int} (ok : BOk L ps) (ks : List Int) (h : ks.length ≤ 8) : 0 ≤ (ks.map fun k => ps.getD k.toNat 0).sum ∧ (ks.map fun k => ps.getD k.toNat 0).sum ≤ 8796093022208 := by
  have h1 := lots_sum ps ok.pr ks
  generalize (ks.map fun k => ps.getD k.toNat 0).sum = s at *
  generalize ks.length = n at *
  omega
theorem rs_step (s g a b c f v : Int) (hs : s = v + (g + a)) (hsum : c = b + (g + a)) (hsp : v = f - c) (hb1 : 0 ≤ b ∧ b ≤ 8796093022208) (hb2 : 0 ≤ a ∧ a ≤ 8796093022208) (hb3 : 1 ≤ f ∧ f ≤ 1099511627776) (hb4 : 0 ≤ c ∧ c ≤ 8796093022208) : wrap64 (s - g) = v + a := by
  rw [w64 _ (by omega) (by omega)]; omega
theorem rsurp_l1 {L : List S63} {ps : List Int} (ok : BOk L ps) (x : Int) (i : Nat) (b : S63) (hb : L[i]? = some b) (out r : Int)
    (hnext : Ev (fun k => worldmintref28_surplus.l0 k L x ps (if b.f0 = x ∧ out < surp ps (cv b) then surp ps (cv b) else out) ((i + 1 : Nat) : Int)) r) :
    ∀ (d : List Int) (p : Nat) (s : Int), b.f2.drop p = d → p ≤ b.f2.length → s = surp ps (cv b) + (d.map fun k => ps.getD k.toNat 0).sum → Ev (fun k => worldmintref28_surplus.l1 k L x ps out (i : Int) s (p : Int)) r := by
  obtain ⟨hi, hbm⟩ := List.getElem?_eq_some_iff.1 hb
  have hmem : b ∈ L := by rw [← hbm]; exact List.getElem_mem hi
  have h10 := ok.l10
  have hrd := rdR_at L i b hb
  have hf2 := ok.f2 b hmem
  have hwi : wrap64 ((i : Int) + 1) = ((i + 1 : Nat) : Int) := by rw [w64 _ (by omega) (by omega)]; omega
  intro d
  induction d with
  | nil =>
    intro p s hd hp hs
    have hpe := drop_nil b.f2 p hp hd
    simp only [List.map_nil, List.sum_nil, Int.add_zero] at hs
    subst hs
    refine Ev.succ ?_
    simp only [worldmintref28_surplus.l1, hrd, if_pos (show (0 : Int) ≤ (i : Int) by omega), if_pos (show (i : Int) < (L.length : Int) by omega), if_neg (show ¬ (p : Int) < (b.f2.length : Int) by omega), hwi]
    by_cases h1 : b.f0 = x
    · simp only [if_pos h1]
      by_cases h2 : out < surp ps (cv b)
      · rw [if_pos ⟨h1, h2⟩] at hnext
        simp only [if_pos (show surp ps (cv b) > out from h2)]
        exact hnext
      · rw [if_neg (fun h => h2 h.2)] at hnext
        simp only [if_neg (show ¬ surp ps (cv b) > out from h2)]
        exact hnext
    · rw [if_neg (fun h => h1 h.1)] at hnext
      simp only [if_neg h1]
      exact hnext
  | cons y d ih =>
    intro p s hd hp hs
    obtain ⟨hy, hd', hlt⟩ := drop_cons b.f2 p y d hd
    obtain ⟨hy0, hy1⟩ := hf2.2 y (List.mem_of_getElem? hy)
    obtain ⟨hwp, hdl, hbt, hpp, hpi⟩ := rs_len b.f2 d y p hd hlt hf2.1
    have hrp : rd ps y = ps.getD y.toNat 0 := rfl
    have hsum : (b.f2.map fun k => ps.getD k.toNat 0).sum = ((b.f2.take p).map fun k => ps.getD k.toNat 0).sum + ((y :: d).map fun k => ps.getD k.toNat 0).sum := by
      rw [← hd, ← List.sum_append, ← List.map_append, List.take_append_drop]
    have hb1 := lots_le8 ok (b.f2.take p) hbt
    have hb2 := lots_le8 ok d hdl
    have hb3 := ok.f1 b hmem
    have hsp : surp ps (cv b) = b.f1 - (b.f2.map fun k => ps.getD k.toNat 0).sum := rfl
    simp only [List.map_cons, List.sum_cons] at hs hsum
    have hw2 : wrap64 (s - ps.getD y.toNat 0) = surp ps (cv b) + (d.map fun k => ps.getD k.toNat 0).sum := rs_step _ _ _ _ _ _ _ hs hsum hsp hb1 hb2 hb3 (lots_le8 ok b.f2 hf2.1)
    refine Ev.succ ?_
    simp only [worldmintref28_surplus.l1, hrd, if_pos (show (0 : Int) ≤ (i : Int) by omega), if_pos (show (i : Int) < (L.length : Int) by omega), if_pos hpi, if_pos hpp, rd_at b.f2 p y hy, if_pos hy0, if_pos hy1, hrp, hw2, hwp]
    exact ih (p + 1) _ hd' hlt rfl
theorem rsurplus_ok {L : List S63} {ps : List Int} (ok : BOk L ps) (x : Int) : Ev (fun k => worldmintref28_surplus.f k L x ps) (gS (fun _ => true) (keyB L) (svB L ps) x L.length) := by
  have h10 := ok.l10
  have : ∀ (d i : Nat), L.length - i = d → i ≤ L.length → Ev (fun k => worldmintref28_surplus.l0 k L x ps (gS (fun _ => true) (keyB L) (svB L ps) x i) (i : Int)) (gS (fun _ => true) (keyB L) (svB L ps) x L.length) := by
    intro d
    induction d with
    | zero =>
      intro i hd hi
      obtain rfl : i = L.length := by omega
      refine Ev.succ ?_
      simp only [worldmintref28_surplus.l0, if_neg (show ¬ (L.length : Int) < (L.length : Int) by omega)]
      exact Ev.some_
    | succ d ih =>
      intro i hd hi
      have hil : i < L.length := by omega
      have hb : L[i]? = some L[i] := List.getElem?_eq_getElem hil
      have hgd : L.getD i z63 = L[i] := by simp [List.getD, hb]
      have hn := ih (i + 1) (by omega) (by omega)
      have hk : keyB L i = L[i].f0 := by unfold keyB; rw [hgd]
      have hv : svB L ps i = surp ps (cv L[i]) := by unfold svB; rw [hgd]
      rw [gS_succ, hk, hv] at hn
      simp only [true_and] at hn
      have hin := rsurp_l1 ok x i L[i] hb _ _ hn L[i].f2 0 L[i].f1 rfl (Nat.zero_le _) (by
        show L[i].f1 = L[i].f1 - (L[i].f2.map fun k => ps.getD k.toNat 0).sum + _
        omega)
      refine Ev.succ ?_
      simp only [worldmintref28_surplus.l0, if_pos (show (i : Int) < (L.length : Int) by omega), if_pos (show (0 : Int) ≤ (i : Int) by omega), rdR_at L i _ hb]
      exact hin
  exact this _ 0 rfl (Nat.zero_le _)
theorem sumG_bounds {L : List S63} {ps : List Int} (ok : BOk L ps) : ∀ m, m ≤ L.length → 0 ≤ sumG (fun x => gS (fun _ => true) (keyB L) (svB L ps) x L.length) (keyB L) m ∧ sumG (fun x => gS (fun _ => true) (keyB L) (svB L ps) x L.length) (keyB L) m ≤ m * 1099511627776
  | 0, _ => by simp [sumG]
  | m + 1, h => by
    have ih := sumG_bounds ok m (by omega)
    have hg := gS_bounds ok (keyB L m) L.length (Nat.le_refl _)
    rw [sumG_succ]
    split <;> omega
theorem all_range_succ (f : Nat → Bool) (m : Nat) : (List.range (m + 1)).all f = ((List.range m).all f && f m) := by
  rw [List.range_succ, List.all_append]; simp
theorem rb_len (i p d n : Nat) (hd : i - p = d + 1) (hp : p ≤ i) (hi : i < n) (h : n ≤ 10) : p < n ∧ wrap64 ((p : Int) + 1) = ((p + 1 : Nat) : Int) ∧ i - (p + 1) = d ∧ p + 1 ≤ i ∧ (p : Int) < (i : Int) ∧ (p : Int) < (n : Int) := by
  refine ⟨by omega, by rw [w64 _ (by omega) (by omega)]; omega, by omega, by omega, by omega, by omega⟩
theorem rbound_l2 {L : List S63} {ps : List Int} (ok : BOk L ps) (i : Nat) (hi : i < L.length) (acc : Int) (r : Int × Int) (hnext : Ev (fun k => if firstB (keyB L) i = true then (worldmintref28_surplus.f k L (keyB L i) ps).bind fun t => worldmintref28_Bound.l1 k L ps (wrap64 (acc + t)) ((i + 1 : Nat) : Int) else worldmintref28_Bound.l1 k L ps acc ((i + 1 : Nat) : Int)) r) :
    ∀ (d p : Nat), i - p = d → p ≤ i → Ev (fun k => worldmintref28_Bound.l2 k L ps acc (i : Int) ((List.range p).all fun k => decide (keyB L k ≠ keyB L i)) (p : Int)) r := by
  have h10 := ok.l10
  have hb : L[i]? = some L[i] := List.getElem?_eq_getElem hi
  have hgd : L.getD i z63 = L[i] := by simp [List.getD, hb]
  have hk : keyB L i = L[i].f0 := by unfold keyB; rw [hgd]
  have hwi : wrap64 ((i : Int) + 1) = ((i + 1 : Nat) : Int) := by rw [w64 _ (by omega) (by omega)]; omega
  intro d
  induction d with
  | zero =>
    intro p hd hp
    obtain rfl : p = i := by omega
    refine Ev.succ ?_
    have hfb : ((List.range p).all fun k => decide (keyB L k ≠ keyB L p)) = firstB (keyB L) p := rfl
    simp only [worldmintref28_Bound.l2, if_neg (show ¬ (p : Int) < (p : Int) by omega), hfb]
    cases hf : firstB (keyB L) p
    · rw [hf] at hnext
      simp only [Bool.false_eq_true, if_false] at hnext ⊢
      rw [hwi]
      exact hnext
    · rw [hf] at hnext
      simp only [if_true, if_pos (show (0 : Int) ≤ (p : Int) by omega), if_pos (show (p : Int) < (L.length : Int) by omega), rdR_at L p _ hb, hwi] at hnext ⊢
      rw [← hk]
      exact hnext
  | succ d ih =>
    intro p hd hp
    obtain ⟨hpl, hwp, e1, e2, e3, e4⟩ := rb_len i p d L.length hd hp hi h10
    have hbp : L[p]? = some L[p] := List.getElem?_eq_getElem hpl
    have hkp : keyB L p = L[p].f0 := by unfold keyB; simp [List.getD, hbp]
    have hn := ih (p + 1) e1 e2
    rw [all_range_succ] at hn
    refine Ev.succ ?_
    simp only [worldmintref28_Bound.l2, if_pos e3]
    cases hf : (List.range p).all fun k => decide (keyB L k ≠ keyB L i)
    · rw [hf] at hn
      simp only [Bool.false_and] at hn
      simp only [Bool.false_eq_true, if_false, hwp]
      exact hn
    · rw [hf] at hn
      simp only [Bool.true_and] at hn
      have hd2 : decide (keyB L p ≠ keyB L i) = (L[p].f0 != L[i].f0) := by rw [hkp, hk]; by_cases h : L[p].f0 = L[i].f0 <;> simp [h]
      rw [hd2] at hn
      simp only [if_true, if_pos (Int.natCast_nonneg p), if_pos (Int.natCast_nonneg i), if_pos e4, if_pos (Int.ofNat_lt.2 hi), rdR_at L p _ hbp, rdR_at L i _ hb, hwp]
      exact hn
theorem rbound_l1 {L : List S63} {ps : List Int} (ok : BOk L ps) (s : Int) (hs0 : 0 ≤ s) (hs1 : s ≤ 8 * 1099511627776) : Ev (fun k => worldmintref28_Bound.l1 k L ps s 0) (s + sumG (fun x => gS (fun _ => true) (keyB L) (svB L ps) x L.length) (keyB L) L.length, 0) := by
  have h10 := ok.l10
  have : ∀ (d i : Nat), L.length - i = d → i ≤ L.length → Ev (fun k => worldmintref28_Bound.l1 k L ps (s + sumG (fun x => gS (fun _ => true) (keyB L) (svB L ps) x L.length) (keyB L) i) (i : Int)) (s + sumG (fun x => gS (fun _ => true) (keyB L) (svB L ps) x L.length) (keyB L) L.length, 0) := by
    intro d
    induction d with
    | zero =>
      intro i hd hi
      obtain rfl : i = L.length := by omega
      refine Ev.succ ?_
      simp only [worldmintref28_Bound.l1, if_neg (show ¬ (L.length : Int) < (L.length : Int) by omega)]
      exact Ev.some_
    | succ d ih =>
      intro i hd hi
      have hil : i < L.length := by omega
      have hn := ih (i + 1) (by omega) (by omega)
      have hsb := sumG_bounds ok i (by omega)
      have hg := gS_bounds ok (keyB L i) L.length (Nat.le_refl _)
      rw [sumG_succ] at hn
      have h2 := rbound_l2 ok i hil (s + sumG (fun x => gS (fun _ => true) (keyB L) (svB L ps) x L.length) (keyB L) i) (s + sumG (fun x => gS (fun _ => true) (keyB L) (svB L ps) x L.length) (keyB L) L.length, 0) (by
        cases hf : firstB (keyB L) i
        · rw [hf] at hn
          simp only [Bool.false_eq_true, if_false, Int.add_zero] at hn ⊢
          exact hn
        · rw [hf] at hn
          simp only [if_true] at hn ⊢
          refine Ev.bind (rsurplus_ok ok _) ?_
          rw [w64 _ (by omega) (by omega), Int.add_assoc]
          exact hn) i 0 (by omega) (Nat.zero_le _)
      refine Ev.succ ?_
      simp only [worldmintref28_Bound.l1, if_pos (show (i : Int) < (L.length : Int) by omega)]
      exact h2
  have h := this _ 0 rfl (Nat.zero_le _)
  simpa [sumG] using h
theorem rbound_l0 {L : List S63} {ps : List Int} (h8 : ps.length ≤ 8) (n : Int) (hn : (ps.length : Int) = n) (R : Int × Int) (hR : ps.any (fun p => decide (p < 0) || decide (1099511627776 < p)) = false → Ev (fun k => worldmintref28_Bound.l1 k L ps ps.sum 0) R) :
    ∀ (d : List Int) (p : Nat), ps.drop p = d → p ≤ ps.length → (∀ x ∈ ps.take p, 0 ≤ x ∧ x ≤ 1099511627776) → Ev (fun k => worldmintref28_Bound.l0 k n L ps (ps.take p).sum (p : Int)) (if ps.any (fun p => decide (p < 0) || decide (1099511627776 < p)) = true then (0, 1) else R) := by
  intro d
  induction d with
  | nil =>
    intro p hd hp hb
    have := drop_nil ps p hp hd
    subst this
    rw [List.take_length] at hb ⊢
    have hany : ps.any (fun p => decide (p < 0) || decide (1099511627776 < p)) = false := by
      rw [List.any_eq_false]
      intro x hx
      have := hb x hx
      simp only [Bool.or_eq_true, decide_eq_true_eq, not_or]
      omega
    refine Ev.succ ?_
    simp only [worldmintref28_Bound.l0, if_neg (show ¬ (ps.length : Int) < n by omega), hany, Bool.false_eq_true, if_false]
    exact hR hany
  | cons y d ih =>
    intro p hd hp hb
    obtain ⟨hy, hd', hlt⟩ := drop_cons ps p y d hd
    have hym : y ∈ ps := List.mem_of_getElem? hy
    have hwp : wrap64 ((p : Int) + 1) = ((p + 1 : Nat) : Int) := by rw [w64 _ (by omega) (by omega)]; omega
    refine Ev.succ ?_
    simp only [worldmintref28_Bound.l0, if_pos (show (p : Int) < n by omega), if_pos (show (0 : Int) ≤ (p : Int) by omega), if_pos (show (p : Int) < (ps.length : Int) by omega), rd_at ps p y hy, hwp]
    by_cases c1 : y < 0
    · have hany : ps.any (fun p => decide (p < 0) || decide (1099511627776 < p)) = true := List.any_eq_true.2 ⟨y, hym, by simp [c1]⟩
      simp only [if_pos c1, hany, if_true]
      exact Ev.some_
    · by_cases c2 : y > 1099511627776
      · have hany : ps.any (fun p => decide (p < 0) || decide (1099511627776 < p)) = true := List.any_eq_true.2 ⟨y, hym, by simp [show 1099511627776 < y from c2]⟩
        simp only [if_neg c1, if_pos c2, hany, if_true]
        exact Ev.some_
      · have ht : ps.take (p + 1) = ps.take p ++ [y] := by
          rw [List.take_succ_eq_append_getElem hlt]
          obtain ⟨_, e⟩ := List.getElem?_eq_some_iff.1 hy
          rw [e]
        have hsb := sum_bounds (ps.take p) hb
        have htl : (ps.take p).length ≤ 8 := by rw [List.length_take]; omega
        have hn2 := ih (p + 1) hd' (by omega) (by
          rw [ht]
          intro x hx
          rcases List.mem_append.1 hx with h | h
          · exact hb x h
          · rw [List.mem_singleton] at h; omega)
        rw [ht, List.sum_append, List.sum_singleton] at hn2
        simp only [if_neg c1, if_neg c2, w64 ((ps.take p).sum + y) (by omega) (by omega)]
        exact hn2
theorem foldl_range {α β : Type} (f : β → α → β) (z : α) (l : List α) (b : β) : ∀ m, m ≤ l.length → (l.take m).foldl f b = (List.range m).foldl (fun s i => f s (l.getD i z)) b
  | 0, _ => rfl
  | m + 1, h => by
    rw [List.take_succ_eq_append_getElem (by omega), List.foldl_append, foldl_range f z l b m (by omega), List.range_succ, List.foldl_append]
    simp [List.getD, List.getElem?_eq_getElem (show m < l.length by omega)]
theorem surps_spG (L : List S63) (ps : List Int) : surpsP (L.map cv) ps = spG (fun _ => true) (keyB L) (svB L ps) L.length := by
  unfold surpsP
  have h := foldl_range (fun m (b : S45) => addS m b.f0 (surp ps b)) z45 (L.map cv) [] L.length (by simp)
  rw [show (L.map cv).take L.length = L.map cv by rw [← List.length_map (f := cv), List.take_length]] at h
  rw [h]
  unfold spG
  congr 1
  funext s i
  have hg : (L.map cv).getD i z45 = cv (L.getD i z63) := by
    simp only [List.getD, List.getElem?_map]
    cases L[i]? <;> rfl
  rw [hg]
  rfl
theorem rbound_ok (n : Int) (L : List S63) (ps : List Int) (hf : ∀ b ∈ L, b.f2.length ≤ 9223372036854775807) : ∃ u, clear_Bound.f n (L.map cv) ps = some u ∧ Ev (fun k => worldmintref28_Bound.f k n L ps) u := by
  have hv := rvalid_ok n L hf
  by_cases hz : validP n (L.map cv) = 0
  · obtain ⟨hn1, hn2, hl10, hbb⟩ := validP_bids n (L.map cv) hz
    rw [List.length_map] at hl10
    by_cases hn : (ps.length : Int) = n
    · refine ⟨if ps.any (fun p => decide (p < 0) || decide (1099511627776 < p)) = true then (0, 1) else (boundP (L.map cv) ps, 0), ?_, ?_⟩
      · unfold clear_Bound.f
        rw [if_pos hz]
        cases ps.any (fun p => decide (p < 0) || decide (1099511627776 < p)) <;> simp [hn]
      · have hR : ps.any (fun p => decide (p < 0) || decide (1099511627776 < p)) = false → Ev (fun k => worldmintref28_Bound.l1 k L ps ps.sum 0) (boundP (L.map cv) ps, 0) := by
          intro hany
          have ok : BOk L ps := by
            refine ⟨hl10, by omega, fun x hx => ?_, fun b hb => (hbb _ (List.mem_map_of_mem (f := cv) hb)).1, fun b hb => ?_⟩
            · have := List.any_eq_false.1 hany x hx
              simp only [Bool.or_eq_true, decide_eq_true_eq, not_or] at this
              omega
            · have h := (hbb _ (List.mem_map_of_mem (f := cv) hb)).2
              refine ⟨h.1, fun k hk => ?_⟩
              have := h.2 k hk
              omega
          have hsb := sum_bounds ps ok.pr
          have h := rbound_l1 ok ps.sum hsb.1 (by have := ok.p8; omega)
          unfold boundP
          rw [surps_spG, spG_sum]
          exact h
        have h := rbound_l0 (by omega) n hn _ hR ps 0 rfl (Nat.zero_le _) (by simp)
        unfold worldmintref28_Bound.f
        refine Ev.bind hv ?_
        simp only [if_pos hz, if_pos hn]
        simpa using h
    · refine ⟨(0, 1), ?_, ?_⟩
      · simp [clear_Bound.f, hz, hn]
      · unfold worldmintref28_Bound.f
        refine Ev.bind hv ?_
        simp only [if_pos hz, if_neg hn]
        exact Ev.some_
  · refine ⟨(0, validP n (L.map cv)), by simp [clear_Bound.f, hz], ?_⟩
    unfold worldmintref28_Bound.f
    refine Ev.bind hv ?_
    simp only [if_neg hz]
    exact Ev.some_
end Go.Proofs.Ytecbfpcidoilmaa.H

/- The drawn prices. Plain. -/
namespace Go.Proofs.Ytecbfpcidoilmaa.H
open Go.RowKit Go.Proofs.YtecbfpcidoilmaaW.PrintWords Go.Proofs.YtecbfpcidoilmaaW.PrintLast
set_option linter.unusedVariables false
set_option linter.unusedSimpArgs false
theorem rlots_ok (n : Int) (m : List Int) (hm : ∀ x ∈ m, (Lit.int .i64 x).wf = true) (hn0 : 0 ≤ n) (hn8 : n ≤ 8) : ∃ ps, Ev (fun k => worldmintref28_Lots.f k n m) ps ∧ (ps.length : Int) = n ∧ ∀ p ∈ ps, 0 ≤ p ∧ p < 12 := by
  have : ∀ (d : Nat) (acc : List Int), (n - acc.length).toNat = d → (acc.length : Int) ≤ n → (∀ p ∈ acc, 0 ≤ p ∧ p < 12) → ∃ ps, Ev (fun k => worldmintref28_Lots.l0 k n m acc (acc.length : Int)) ps ∧ (ps.length : Int) = n ∧ ∀ p ∈ ps, 0 ≤ p ∧ p < 12 := by
    intro d
    induction d with
    | zero =>
      intro acc hd hl ha
      refine ⟨acc, Ev.succ ?_, by omega, ha⟩
      simp only [worldmintref28_Lots.l0, if_neg (show ¬ (acc.length : Int) < n by omega)]
      exact Ev.some_
    | succ d ih =>
      intro acc hd hl ha
      obtain ⟨r, hr, hr0, hr1⟩ := pick_ok m (acc.length : Int) 12 hm (by omega)
      have hw : wrap64 ((acc.length : Int) + 1) = ((acc ++ [r]).length : Int) := by rw [w64 _ (by omega) (by omega)]; simp
      obtain ⟨ps, h1, h2⟩ := ih (acc ++ [r]) (by simp; omega) (by simp; omega) (fun p hp => by
        rcases List.mem_append.1 hp with h | h
        · exact ha p h
        · rw [List.mem_singleton] at h; subst h; exact ⟨hr0, hr1⟩)
      refine ⟨ps, Ev.succ ?_, h2⟩
      simp only [worldmintref28_Lots.l0, if_pos (show (acc.length : Int) < n by omega), hr, Option.bind_some, if_pos (show acc.length < 17592186044416 by omega), hw]
      exact h1
  simpa [worldmintref28_Lots.f] using this _ [] rfl (by simpa using hn0) (by simp)
end Go.Proofs.Ytecbfpcidoilmaa.H

/- ClearBound: the plain statement. -/
namespace Go.Proofs.Ytecbfpcidoilmaa.H
open Go.RowKit Go.Proofs.YtecbfpcidoilmaaW.PrintWords Go.Proofs.YtecbfpcidoilmaaW.PrintLast
set_option linter.unusedVariables false
set_option linter.unusedSimpArgs false
set_option maxRecDepth 100000 in
theorem lives_okB : Ev (fun k => worldmintlaw28_lives.f k) true := Ev.of_mono (fun k => worldmintlaw28_lives.mono k) ⟨20, by kernel_rfl⟩
theorem cbGo_ok (t : Int) (L : List S63) (hl : L.length ≤ 1000) (hb : ∀ b ∈ L, b.f2.length ≤ 9223372036854775807) : ∀ rows : List (List Int), Ev (fun k => cbGo k t L rows) true
  | [] => Ev.some_
  | x :: xs => by
    obtain ⟨u, hu, hr⟩ := rbound_ok t L x hb
    simp only [cbGo]
    refine Ev.bind (given_ok L (by omega)) ?_
    simp only [hu, Option.bind_some]
    refine Ev.bind hr ?_
    simp only [if_true]
    exact cbGo_ok t L hl hb xs
theorem ClearBound_pure : worldmintlaw28_ClearBound.Pure := by
  intro a0 l1 l2 a3 a4 w0 _ _ w1 _ _ w2 w3 w4
  obtain ⟨t, ht, ht0, ht1⟩ := lots_ok a0 w0
  obtain ⟨L, hL, hLl, hLg⟩ := bids_ok t l1 w1 11 ht0 ht1 (by omega) (by omega)
  obtain ⟨ps, hps, hpl, hpr⟩ := rlots_ok t l2 w2 (by omega) ht1
  obtain ⟨j, hj, hj0, hj1⟩ := around_ok a3 t w3 (by omega)
  refine Ev.ex ?_
  unfold worldmintlaw28_ClearBound.f
  simp only [ht, Option.bind_some]
  refine Ev.bind hL ?_
  refine Ev.bind hps ?_
  simp only [hj, Option.bind_some]
  have hg : 0 ≤ j ∧ j < (ps.length : Int) ∧ (ps.length : Int) = t ∧ t ≤ 8 := ⟨hj0, by omega, hpl, ht1⟩
  simp only [if_pos hg]
  refine Ev.bind (cbGo_ok t L (by omega) (fun b hb => by have := (hLg b hb).2.2.2.2.2.2; omega) _) ?_
  simp only [if_true]
  exact lives_okB
end Go.Proofs.Ytecbfpcidoilmaa.H
namespace Go.Proofs.Ytecbfpcidoilmaa.Pure
theorem ClearBound : H.worldmintlaw28_ClearBound.Pure := H.ClearBound_pure
end Go.Proofs.Ytecbfpcidoilmaa.Pure
