/- Texts of this claim, one behind the other. -/
import Derived.Test.YtdamibblnjeooaaMProofCheckse
import Derived.Test.YtdamibblnjeooaaMProofChecksg
import Derived.Test.YtdamibblnjeooaaMProofChecksd

/- The checker's walk over a certificate: each node once, against the count of parents. Plain. -/
namespace Go.Proofs.Ytdamibblnjeooaa.H
open Go.RowKit
set_option linter.unusedVariables false
set_option linter.unusedSimpArgs false
section
variable (n : Int) (l : List S82) (v : Int) (nodes : List S55)
def stepR (go : Nat → List Int → Bool) (len i : Nat) (dec : List Int) (b : Nat) (k d : Int) : Bool := if (i : Int) < k ∧ k < len then go k.toNat (dec.set b d) else false
def stepV (go : Nat → List Nat) (len i : Nat) (k : Int) : List Nat := if (i : Int) < k ∧ k < len then go k.toNat else []
/-- Is the certificate right from node i on? -/
def rightP : Nat → Nat → List Int → Bool
 | 0, _, _ => false
 | f + 1, i, dec =>
  if (nodes.getD i z55).f0 = -1 then leafP n l v dec (nodes.getD i z55) else
  if (nodes.getD i z55).f0 < 0 ∨ (l.length : Int) ≤ (nodes.getD i z55).f0 ∨ possP l dec (nodes.getD i z55).f0.toNat = false ∨ 0 < (nodes.getD i z55).f3.length then false else
  stepR (rightP f) nodes.length i dec (nodes.getD i z55).f0.toNat (nodes.getD i z55).f1 1 && stepR (rightP f) nodes.length i dec (nodes.getD i z55).f0.toNat (nodes.getD i z55).f2 2
/-- The nodes that are met from node i on. -/
def visP : Nat → Nat → List Nat
 | 0, _ => []
 | f + 1, i => i :: (if (nodes.getD i z55).f0 = -1 then [] else stepV (visP f) nodes.length i (nodes.getD i z55).f1 ++ stepV (visP f) nodes.length i (nodes.getD i z55).f2)
end
section
variable {n : Int} {l : List S82} {v : Int} {nodes : List S55}
theorem getD_set_true (st : List Bool) (i j : Nat) : (st.set i true).getD j true = (st.getD j true || decide (j = i)) := by
 simp only [List.getD, List.getElem?_set]
 by_cases h : i = j
 ·subst h
  by_cases h2 : i < st.length <;> simp [h2]
 ·rw [if_neg h]
  simp [show ¬ j = i from fun e => h e.symm]
def NR (n : Int) (l : List S82) (v : Int) (nodes : List S55) (f : Nat) : Prop := ∀ i dec st,
 ((nodeP n l v nodes f i dec st).1 = true ↔ rightP n l v nodes f i dec = true ∧ (visP nodes f i).Nodup ∧ ∀ j ∈ visP nodes f i, st.getD j true = false) ∧
 ((nodeP n l v nodes f i dec st).1 = true → ∀ j, (nodeP n l v nodes f i dec st).2.getD j true = (st.getD j true || decide (j ∈ visP nodes f i)))
theorem step_right {f : Nat} (ih : NR n l v nodes f) (i : Nat) (dec : List Int) (b : Nat) (k d : Int) (st : List Bool) :
  ((stepP (nodeP n l v nodes f) nodes.length i dec b k d st).1 = true ↔ stepR (rightP n l v nodes f) nodes.length i dec b k d = true ∧ (stepV (visP nodes f) nodes.length i k).Nodup ∧ ∀ j ∈ stepV (visP nodes f) nodes.length i k, st.getD j true = false) ∧
  ((stepP (nodeP n l v nodes f) nodes.length i dec b k d st).1 = true → ∀ j, (stepP (nodeP n l v nodes f) nodes.length i dec b k d st).2.getD j true = (st.getD j true || decide (j ∈ stepV (visP nodes f) nodes.length i k))) := by
 unfold stepP stepR stepV
 by_cases h : (i : Int) < k ∧ k < (nodes.length : Int)
 ·simp only [if_pos h]
  exact ih _ _ _
 ·simp only [if_neg h]
  simp
theorem node_right : ∀ f, NR n l v nodes f
 | 0 => by intro i dec st; simp [nodeP, rightP]
 | f + 1 => by
  have ih := node_right f
  intro i dec st
  unfold nodeP rightP visP
  by_cases h0 : st.getD i true = true
  ·simp only [if_pos h0]
   constructor
   ·constructor
    ·intro h; simp at h
    ·rintro ⟨_, _, h⟩
     have := h i (by simp)
     rw [h0] at this
     cases this
   ·intro h; simp at h
  ·have h0' : st.getD i true = false := by simpa using h0
   simp only [if_neg h0]
   by_cases h1 : (nodes.getD i z55).f0 = -1
   ·simp only [if_pos h1]
    constructor
    ·constructor
     ·intro h; exact ⟨h, by simp, by simpa using h0'⟩
     ·intro h; exact h.1
    ·intro _ j
     rw [getD_set_true]
     simp
   ·simp only [if_neg h1]
    by_cases h2 : (nodes.getD i z55).f0 < 0 ∨ (l.length : Int) ≤ (nodes.getD i z55).f0 ∨ possP l dec (nodes.getD i z55).f0.toNat = false ∨ 0 < (nodes.getD i z55).f3.length
    ·simp only [if_pos h2]
     simp
    ·simp only [if_neg h2]
     generalize nodes.getD i z55 = x at *
     obtain ⟨a1, a2⟩ := step_right ih i dec x.f0.toNat x.f1 1 (st.set i true)
     unfold bothP
     generalize stepP (nodeP n l v nodes f) nodes.length i dec x.f0.toNat x.f1 1 (st.set i true) = A at *
     obtain ⟨b1, b2⟩ := step_right ih i dec x.f0.toNat x.f2 2 A.2
     generalize stepP (nodeP n l v nodes f) nodes.length i dec x.f0.toNat x.f2 2 A.2 = B at *
     generalize stepR (rightP n l v nodes f) nodes.length i dec x.f0.toNat x.f1 1 = r1 at *
     generalize stepR (rightP n l v nodes f) nodes.length i dec x.f0.toNat x.f2 2 = r2 at *
     generalize stepV (visP nodes f) nodes.length i x.f1 = va at *
     generalize stepV (visP nodes f) nodes.length i x.f2 = vb at *
     have hset : ∀ j, (st.set i true).getD j true = false ↔ st.getD j true = false ∧ j ≠ i := by
      intro j
      rw [getD_set_true]
      simp
     cases hA : A.1
     ·simp only [Bool.false_eq_true, if_false, hA]
      constructor
      ·constructor
       ·intro h; cases h
       ·rintro ⟨h3, h4, h5⟩
        simp only [Bool.and_eq_true] at h3
        rw [List.nodup_cons, List.nodup_append] at h4
        have : A.1 = true := a1.2 ⟨h3.1, h4.2.1, fun j hj => (hset j).2 ⟨h5 j (by simp [hj]), fun e => h4.1 (by rw [← e]; simp [hj])⟩⟩
        rw [hA] at this
        cases this
      ·intro h; cases h
     ·simp only [if_true]
      have ha := a1.1 hA
      have hA2 := a2 hA
      have hA2' : ∀ j, A.2.getD j true = false ↔ st.getD j true = false ∧ j ≠ i ∧ ¬ j ∈ va := by
       intro j
       rw [hA2 j]
       simp only [Bool.or_eq_false_iff, decide_eq_false_iff_not, hset j, and_assoc]
      constructor
      ·rw [b1]
       simp only [Bool.and_eq_true, List.nodup_cons, List.nodup_append, List.mem_append, List.mem_cons, not_or]
       constructor
       ·rintro ⟨h3, h4, h5⟩
        refine ⟨⟨ha.1, h3⟩, ⟨⟨fun h => ((hset i).1 (ha.2.2 i h)).2 rfl, fun h => ((hA2' i).1 (h5 i h)).2.1 rfl⟩, ha.2.1, h4, fun a h6 b h7 e => ((hA2' b).1 (h5 b h7)).2.2 (e ▸ h6)⟩, ?_⟩
        rintro j (rfl | h | h)
        ·exact h0'
        ·exact ((hset j).1 (ha.2.2 j h)).1
        ·exact ((hA2' j).1 (h5 j h)).1
       ·rintro ⟨⟨h3, h4⟩, ⟨⟨h5, h6⟩, h7, h8, h9⟩, h10⟩
        exact ⟨h4, h8, fun j hj => (hA2' j).2 ⟨h10 j (.inr (.inr hj)), fun e => h6 (e ▸ hj), fun h => h9 j h j hj rfl⟩⟩
      ·intro hB j
       rw [b2 hB j, hA2 j, getD_set_true]
       simp only [List.mem_cons, List.mem_append]
       by_cases e1 : j = i <;> by_cases e2 : j ∈ va <;> by_cases e3 : j ∈ vb <;> simp [e1, e2, e3]
/-- How many times node k names node j as one below it. -/
def ptrP (nodes : List S55) (j k : Nat) : Nat := if (nodes.getD k z55).f0 = -1 then 0 else (if (nodes.getD k z55).f1 = (j : Int) then 1 else 0) + (if (nodes.getD k z55).f2 = (j : Int) then 1 else 0)
def parP (nodes : List S55) (j : Nat) : Nat := ((List.range nodes.length).map (ptrP nodes j)).sum
theorem stepR_true {go : Nat → List Int → Bool} {len i : Nat} {dec : List Int} {b : Nat} {k d : Int} (h : stepR go len i dec b k d = true) : (i : Int) < k ∧ k < len ∧ go k.toNat (dec.set b d) = true := by
 unfold stepR at h
 split at h
 ·rename_i c; exact ⟨c.1, c.2, h⟩
 ·cases h
theorem vis_count (j : Nat) : ∀ f i dec, rightP n l v nodes f i dec = true → (visP nodes f i).count j = (if j = i then 1 else 0) + ((visP nodes f i).map (ptrP nodes j)).sum
 | 0, _, _, h => by simp [rightP] at h
 | f + 1, i, dec, h => by
  unfold rightP at h
  unfold visP
  by_cases h1 : (nodes.getD i z55).f0 = -1
  ·simp only [if_pos h1]
   have hp : ptrP nodes j i = 0 := by unfold ptrP; rw [if_pos h1]
   simp only [List.map_cons, List.map_nil, List.sum_cons, List.sum_nil, hp, List.count_cons, List.count_nil]
   by_cases e : j = i
   ·simp [e]
   ·simp [e, show ¬ i = j from fun x => e x.symm]
  ·simp only [if_neg h1] at h ⊢
   split at h
   ·cases h
   ·simp only [Bool.and_eq_true] at h
    obtain ⟨ha0, ha1, ha⟩ := stepR_true h.1
    obtain ⟨hb0, hb1, hb⟩ := stepR_true h.2
    have iha := vis_count j f _ _ ha
    have ihb := vis_count j f _ _ hb
    have hp : ptrP nodes j i = (if j = (nodes.getD i z55).f1.toNat then 1 else 0) + (if j = (nodes.getD i z55).f2.toNat then 1 else 0) := by
     unfold ptrP
     rw [if_neg h1]
     congr 1
     ·by_cases e : j = (nodes.getD i z55).f1.toNat
      ·rw [if_pos e, if_pos (by omega)]
      ·rw [if_neg e, if_neg (by omega)]
     ·by_cases e : j = (nodes.getD i z55).f2.toNat
      ·rw [if_pos e, if_pos (by omega)]
      ·rw [if_neg e, if_neg (by omega)]
    unfold stepV
    rw [if_pos ⟨ha0, ha1⟩, if_pos ⟨hb0, hb1⟩]
    simp only [List.count_cons, List.count_append, List.map_cons, List.sum_cons, List.map_append, List.sum_append, hp, iha, ihb]
    have hbe : (if (i == j) = true then 1 else 0) = (if j = i then 1 else 0) := by
     by_cases e : j = i
     ·simp [e]
     ·simp [e, show ¬ i = j from fun x => e x.symm]
    rw [hbe]
    omega
theorem vis_lt : ∀ f i dec, i < nodes.length → rightP n l v nodes f i dec = true → ∀ k ∈ visP nodes f i, k < nodes.length ∧ ((nodes.getD k z55).f0 ≠ -1 → (k : Int) < (nodes.getD k z55).f1 ∧ (k : Int) < (nodes.getD k z55).f2)
 | 0, _, _, _, h => by simp [rightP] at h
 | f + 1, i, dec, hi, h => by
  unfold rightP at h
  unfold visP
  by_cases h1 : (nodes.getD i z55).f0 = -1
  ·simp only [if_pos h1]
   intro k hk
   rw [List.mem_singleton] at hk
   subst hk
   exact ⟨hi, fun e => absurd h1 e⟩
  ·simp only [if_neg h1] at h ⊢
   split at h
   ·cases h
   ·simp only [Bool.and_eq_true] at h
    obtain ⟨ha0, ha1, ha⟩ := stepR_true h.1
    obtain ⟨hb0, hb1, hb⟩ := stepR_true h.2
    have iha := vis_lt f _ _ (by omega) ha
    have ihb := vis_lt f _ _ (by omega) hb
    unfold stepV
    rw [if_pos ⟨ha0, ha1⟩, if_pos ⟨hb0, hb1⟩]
    intro k hk
    rcases List.mem_cons.1 hk with rfl | hk
    ·exact ⟨hi, fun _ => ⟨ha0, hb0⟩⟩
    ·rcases List.mem_append.1 hk with hk | hk
     ·exact iha k hk
     ·exact ihb k hk
theorem sum_map_add (g h : Nat → Nat) : ∀ L : List Nat, (L.map fun k => g k + h k).sum = (L.map g).sum + (L.map h).sum
 | [] => rfl
 | x :: L => by simp only [List.map_cons, List.sum_cons, sum_map_add g h L]; omega
theorem sum_one (g : Nat → Nat) (a : Nat) : ∀ m, ((List.range m).map fun k => (if k = a then 1 else 0) * g k).sum = if a < m then g a else 0
 | 0 => by simp
 | m + 1 => by
  rw [List.range_succ, List.map_append, List.sum_append, sum_one g a m]
  simp only [List.map_cons, List.map_nil, List.sum_cons, List.sum_nil]
  by_cases h : m = a
  ·subst h; simp
  ·by_cases h2 : a < m
   ·have h3 : a < m + 1 := by omega
    simp [h2, h, h3]
   ·have h3 : ¬ a < m + 1 := by omega
    simp [h2, h, h3]
/-- A sum over what is met, as a sum over all nodes. -/
theorem sum_count (g : Nat → Nat) (m : Nat) : ∀ L : List Nat, (∀ k ∈ L, k < m) → (L.map g).sum = ((List.range m).map fun k => L.count k * g k).sum
 | [], _ => by
  have : ∀ L : List Nat, (L.map fun k => ([] : List Nat).count k * g k).sum = 0 := by
   intro L
   induction L with
   | nil => rfl
   | cons x L ih => simp only [List.map_cons, List.sum_cons, ih]; simp
  rw [this]; rfl
 | x :: L, h => by
  have ih := sum_count g m L (fun k hk => h k (by simp [hk]))
  have hx := h x (by simp)
  have e : (fun k => (x :: L).count k * g k) = fun k => (if k = x then 1 else 0) * g k + L.count k * g k := by
   funext k
   rw [List.count_cons, Nat.add_mul, Nat.add_comm]
   congr 2
   by_cases e : k = x
   ·simp [e]
   ·simp [e, show ¬ x = k from fun y => e y.symm]
  rw [List.map_cons, List.sum_cons, ih, e, sum_map_add, sum_one, if_pos hx]
theorem sum_le_of (g h : Nat → Nat) : ∀ L : List Nat, (∀ k ∈ L, g k ≤ h k) → (L.map g).sum ≤ (L.map h).sum
 | [], _ => by simp
 | x :: L, hh => by
  have h1 := sum_le_of g h L (fun k hk => hh k (by simp [hk]))
  have h2 := hh x (by simp)
  simp only [List.map_cons, List.sum_cons]
  omega
theorem sum_ge_of (g : Nat → Nat) : ∀ (L : List Nat) (a : Nat), a ∈ L → g a ≤ (L.map g).sum
 | x :: L, a, h => by
  simp only [List.map_cons, List.sum_cons]
  rcases List.mem_cons.1 h with rfl | h
  ·omega
  ·have := sum_ge_of g L a h; omega
theorem sum_pos (g : Nat → Nat) : ∀ (L : List Nat), 0 < (L.map g).sum → ∃ a ∈ L, 0 < g a
 | [], h => by simp at h
 | x :: L, h => by
  simp only [List.map_cons, List.sum_cons] at h
  by_cases hx : 0 < g x
  ·exact ⟨x, by simp, hx⟩
  ·obtain ⟨a, ha, h2⟩ := sum_pos g L (by omega)
   exact ⟨a, by simp [ha], h2⟩
theorem ptr_pos {j k : Nat} (h : 0 < ptrP nodes j k) : (nodes.getD k z55).f0 ≠ -1 ∧ ((nodes.getD k z55).f1 = (j : Int) ∨ (nodes.getD k z55).f2 = (j : Int)) := by
 unfold ptrP at h
 split at h
 ·omega
 ·rename_i c
  refine ⟨c, ?_⟩
  by_cases e1 : (nodes.getD k z55).f1 = (j : Int)
  ·exact .inl e1
  ·by_cases e2 : (nodes.getD k z55).f2 = (j : Int)
   ·exact .inr e2
   ·rw [if_neg e1, if_neg e2] at h; omega
/-- The reference's two looks ahead: each node but the first has one parent, and names later nodes. -/
def OnePar (nodes : List S55) : Prop := ∀ j, j < nodes.length → parP nodes j = if j = 0 then 0 else 1
def Later (nodes : List S55) : Prop := ∀ k, k < nodes.length → (nodes.getD k z55).f0 ≠ -1 → (k : Int) < (nodes.getD k z55).f1 ∧ (k : Int) < (nodes.getD k z55).f2
theorem count_eq (f : Nat) (dec : List Int) (h0 : 0 < nodes.length) (h : rightP n l v nodes f 0 dec = true) (j : Nat) : (visP nodes f 0).count j = (if j = 0 then 1 else 0) + ((List.range nodes.length).map fun k => (visP nodes f 0).count k * ptrP nodes j k).sum := by
 rw [vis_count j f 0 dec h, sum_count (ptrP nodes j) nodes.length _ (fun k hk => (vis_lt f 0 dec h0 h k hk).1)]
theorem tree_of_seen (f : Nat) (dec : List Int) (h0 : 0 < nodes.length) (h : rightP n l v nodes f 0 dec = true) (hn : (visP nodes f 0).Nodup) (ha : ∀ j, j < nodes.length → j ∈ visP nodes f 0) : OnePar nodes ∧ Later nodes := by
 refine ⟨fun j hj => ?_, fun k hk => (vis_lt f 0 dec h0 h k (ha k hk)).2⟩
 have hc : ∀ k, k < nodes.length → (visP nodes f 0).count k = 1 := fun k hk => by rw [hn.count, if_pos (ha k hk)]
 have he := count_eq f dec h0 h j
 have e : (List.range nodes.length).map (fun k => (visP nodes f 0).count k * ptrP nodes j k) = (List.range nodes.length).map (ptrP nodes j) := List.map_congr_left (fun k hk => by rw [hc k (List.mem_range.1 hk), Nat.one_mul])
 rw [e, hc j hj] at he
 unfold parP
 by_cases e : j = 0
 ·rw [if_pos e] at he ⊢; omega
 ·rw [if_neg e] at he ⊢; omega
theorem seen_of_tree (f : Nat) (dec : List Int) (h0 : 0 < nodes.length) (h : rightP n l v nodes f 0 dec = true) (hp : OnePar nodes) (hl : Later nodes) : (visP nodes f 0).Nodup ∧ ∀ j, j < nodes.length → j ∈ visP nodes f 0 := by
 have hlt : ∀ j k, k < nodes.length → 0 < ptrP nodes j k → k < j := by
  intro j k hk hpos
  obtain ⟨h1, h2⟩ := ptr_pos hpos
  have h3 := hl k hk h1
  omega
 have hle : ∀ j, j < nodes.length → (visP nodes f 0).count j ≤ 1 := by
  intro j
  induction j using Nat.strongRecOn with
  | _ j ih =>
   intro hj
   have he := count_eq f dec h0 h j
   have hs : ((List.range nodes.length).map fun k => (visP nodes f 0).count k * ptrP nodes j k).sum ≤ parP nodes j := by
    refine sum_le_of _ _ _ (fun k hk => ?_)
    have hk := List.mem_range.1 hk
    by_cases hz : 0 < ptrP nodes j k
    ·have := ih k (hlt j k hk hz) hk
     have h1 : (visP nodes f 0).count k * ptrP nodes j k ≤ 1 * ptrP nodes j k := Nat.mul_le_mul_right _ this
     omega
    ·rw [show ptrP nodes j k = 0 by omega]; simp
   rw [hp j hj] at hs
   by_cases e : j = 0
   ·rw [if_pos e] at he hs; omega
   ·rw [if_neg e] at he hs; omega
 have hge : ∀ j, j < nodes.length → 1 ≤ (visP nodes f 0).count j := by
  intro j
  induction j using Nat.strongRecOn with
  | _ j ih =>
   intro hj
   have he := count_eq f dec h0 h j
   by_cases e : j = 0
   ·rw [if_pos e] at he; omega
   ·have h1 := hp j hj
    rw [if_neg e] at h1
    obtain ⟨k, hk, hk2⟩ := sum_pos (ptrP nodes j) (List.range nodes.length) (by unfold parP at h1; omega)
    have hkl := List.mem_range.1 hk
    have h3 := ih k (hlt j k hkl hk2) hkl
    have h4 := sum_ge_of (fun k => (visP nodes f 0).count k * ptrP nodes j k) (List.range nodes.length) k hk
    have h5 : 1 * 1 ≤ (visP nodes f 0).count k * ptrP nodes j k := Nat.mul_le_mul h3 hk2
    have h6 : (visP nodes f 0).count k * ptrP nodes j k ≤ ((List.range nodes.length).map fun k => (visP nodes f 0).count k * ptrP nodes j k).sum := h4
    omega
 refine ⟨?_, fun j hj => List.count_pos_iff.1 (hge j hj)⟩
 rw [List.nodup_iff_count]
 intro a
 by_cases ha : a ∈ visP nodes f 0
 ·exact hle a (vis_lt f 0 dec h0 h a ha).1
 ·rw [List.count_eq_zero_of_not_mem ha]; omega
/-- The checker accepts exactly where the reference does. -/
theorem root_tree (f : Nat) (dec : List Int) (h0 : 0 < nodes.length) :
  ((nodeP n l v nodes f 0 dec (List.replicate nodes.length false)).1 = true ∧ (nodeP n l v nodes f 0 dec (List.replicate nodes.length false)).2.all id = true) ↔ (OnePar nodes ∧ Later nodes ∧ rightP n l v nodes f 0 dec = true) := by
 obtain ⟨h1, h2⟩ := node_right (n := n) (l := l) (v := v) (nodes := nodes) f 0 dec (List.replicate nodes.length false)
 have hlen := nodeP_len n l v nodes f 0 dec (List.replicate nodes.length false)
 rw [List.length_replicate] at hlen
 have hrep : ∀ j, j < nodes.length → (List.replicate nodes.length false).getD j true = false := by
  intro j hj
  simp [List.getD, List.getElem?_replicate, hj]
 constructor
 ·rintro ⟨ha, hb⟩
  obtain ⟨h3, h4, h5⟩ := h1.1 ha
  have h6 := h2 ha
  obtain ⟨t1, t2⟩ := tree_of_seen f dec h0 h3 h4 (fun j hj => by
   have h7 := h6 j
   rw [hrep j hj, Bool.false_or] at h7
   have h8 : (nodeP n l v nodes f 0 dec (List.replicate nodes.length false)).2.getD j true = true := by
    rw [List.all_eq_true] at hb
    have hjl : j < (nodeP n l v nodes f 0 dec (List.replicate nodes.length false)).2.length := by omega
    rw [List.getD, List.getElem?_eq_getElem hjl]
    exact hb _ (List.getElem_mem hjl)
   rw [h8] at h7
   exact of_decide_eq_true h7.symm)
  exact ⟨t1, t2, h3⟩
 ·rintro ⟨hp, hl, hr⟩
  obtain ⟨h3, h4⟩ := seen_of_tree f dec h0 hr hp hl
  have ha := h1.2 ⟨hr, h3, fun j hj => hrep j (vis_lt f 0 dec h0 hr j hj).1⟩
  refine ⟨ha, ?_⟩
  rw [List.all_eq_true]
  intro x hx
  obtain ⟨j, hj, rfl⟩ := List.mem_iff_getElem.1 hx
  have h6 := h2 ha j
  rw [List.getD, List.getElem?_eq_getElem hj, Option.getD_some] at h6
  rw [h6, decide_eq_true (h4 j (by omega))]
  simp
end
end Go.Proofs.Ytdamibblnjeooaa.H

/- The reference's Feasible, of whatever places. Plain. -/
namespace Go.Proofs.Ytdamibblnjeooaa.H
open Go.RowKit Go.Proofs.YtdamibblnjeooaaW.PrintWords Go.Proofs.YtdamibblnjeooaaW.PrintLast
set_option linter.unusedVariables false
set_option linter.unusedSimpArgs false
/-- Do the places rise, in range? -/
def okR (n : Int) : Option Int → List Int → Bool
 | _, [] => true
 | none, x :: d => if x < 0 || n ≤ x then false else okR n (some x) d
 | some q, x :: d => if x < 0 || n ≤ x || x ≤ q then false else okR n (some x) d
theorem okR_rise (n : Int) : ∀ (d : List Int) (q : Option Int), okR n q d = true → (∀ k ∈ d, 0 ≤ k ∧ k < n) ∧ d.Pairwise (· < ·) ∧ ∀ p, q = some p → ∀ k ∈ d, p < k
 | [], q, _ => by simp
 | x :: d, none, h => by
  unfold okR at h
  split at h
  ·simp at h
  ·rename_i c
   simp only [Bool.or_eq_true, decide_eq_true_eq, not_or] at c
   obtain ⟨h1, h2, h3⟩ := okR_rise n d (some x) h
   refine ⟨fun k hk => ?_, List.pairwise_cons.2 ⟨fun k hk => h3 x rfl k hk, h2⟩, by simp⟩
   rcases List.mem_cons.1 hk with rfl | hk
   ·omega
   ·exact h1 k hk
 | x :: d, some q, h => by
  unfold okR at h
  split at h
  ·simp at h
  ·rename_i c
   simp only [Bool.or_eq_true, decide_eq_true_eq, not_or] at c
   obtain ⟨h1, h2, h3⟩ := okR_rise n d (some x) h
   refine ⟨fun k hk => ?_, List.pairwise_cons.2 ⟨fun k hk => h3 x rfl k hk, h2⟩, fun p hp k hk => ?_⟩
   ·rcases List.mem_cons.1 hk with rfl | hk
    ·omega
    ·exact h1 k hk
   ·injection hp with hp
    rcases List.mem_cons.1 hk with rfl | hk
    ·omega
    ·have := h3 x rfl k hk; omega
theorem feasP_okR (l : List S82) : ∀ (d pre : List Int), okR l.length pre.getLast? d = false → feasP l pre d = false
 | [], pre, h => by cases hp : pre.getLast? <;> rw [hp] at h <;> simp [okR] at h
 | x :: d, pre, h => by
  have ih := feasP_okR l d (pre ++ [x])
  rw [List.getLast?_append] at ih
  have e : ([x].getLast?.or pre.getLast?) = some x := rfl
  rw [e] at ih
  unfold feasP
  cases hp : pre.getLast? with
  | none =>
   rw [hp] at h
   unfold okR at h
   by_cases c : (x < 0 || (l.length : Int) ≤ x) = true
   ·rw [if_pos (by simpa using c)]
   ·rw [if_neg c] at h
    rw [if_neg (by simpa using c), ih h]
    split <;> rfl
  | some q =>
   rw [hp] at h
   unfold okR at h
   by_cases c : (x < 0 || (l.length : Int) ≤ x || x ≤ q) = true
   ·rw [if_pos (by simpa using c)]
   ·rw [if_neg c] at h
    rw [if_neg (by simpa using c), ih h]
    split <;> rfl
def feasQ (l : List S82) (c : List Int) : Bool := okR l.length none c && okS (fun _ => true) l [] c
theorem feas_any (l : List S82) (c : List Int) : feasP l [] c = feasQ l c := by
 unfold feasQ
 cases h : okR l.length none c
 ·rw [feasP_okR l c [] (by simpa using h), Bool.false_and]
 ·obtain ⟨h1, h2, _⟩ := okR_rise _ c none h
  rw [feas_ok l c [] h1 h2 (by simp), Bool.true_and]
section
variable (L : List S85) (hb : ∀ b ∈ L, b.f2.length ≤ 9223372036854775807)
include hb in
theorem rfeas_any (c : List Int) (hl : c.length ≤ 1000) : Ev (fun k => worldmintref27_Feasible.f k L c) (feasQ (L.map cv) c) := by
 have h1 : okR L.length none c = true → Ev (fun k => worldmintref27_Feasible.l1 k L c 0) (okS (fun _ => true) (L.map cv) [] c) := fun h => rfeas_l1 L hb c (okR_rise _ c none h).1 hl c 0 rfl (Nat.zero_le _)
 have h0 : ∀ (d : List Int) (p : Nat) (prev : Option Int), c.drop p = d → p ≤ c.length → (p = 0 → prev = none) → (∀ q, p = q + 1 → ∃ y, c[q]? = some y ∧ prev = some y) → (okR L.length prev d = true → okR L.length none c = true) →
   Ev (fun k => worldmintref27_Feasible.l0 k L c (p : Int)) (okR L.length prev d && okS (fun _ => true) (L.map cv) [] c) := by
  intro d
  induction d with
  | nil =>
   intro p prev hd hp hp0 hp1 hok
   have := drop_nil c p hp hd
   have hlt : ¬ (p : Int) < (c.length : Int) := by omega
   have ho : okR L.length prev [] = true := by cases prev <;> rfl
   refine Ev.succ ?_
   simp only [worldmintref27_Feasible.l0, if_neg hlt, ho, Bool.true_and]
   exact h1 (hok ho)
  | cons x d ih =>
   intro p prev hd hp hp0 hp1 hok
   obtain ⟨hx, hd', hlt⟩ := drop_cons c p x d hd
   have hlt1 : (p : Int) < (c.length : Int) := by omega
   have hge : (0 : Int) ≤ (p : Int) := by omega
   have hw : wrap64 ((p : Int) + 1) = ((p + 1 : Nat) : Int) := by rw [w64 _ (by omega) (by omega)]; omega
   have hih : okR L.length prev (x :: d) = okR L.length (some x) d → Ev (fun k => worldmintref27_Feasible.l0 k L c ((p + 1 : Nat) : Int)) (okR L.length prev (x :: d) && okS (fun _ => true) (L.map cv) [] c) := fun e => by
    rw [e]
    exact ih (p + 1) (some x) hd' (by omega) (by omega) (fun q hq => by
     obtain rfl : p = q := by omega
     exact ⟨x, hx, rfl⟩) (fun h => hok (by rw [e]; exact h))
   refine Ev.succ ?_
   simp only [worldmintref27_Feasible.l0, if_pos hlt1, if_pos hge, rd_at c p x hx, hw]
   by_cases c1 : x < 0
   ·have e : okR L.length prev (x :: d) = false := by cases prev <;> simp [okR, c1]
    simp only [if_pos c1, e, Bool.false_and]
    exact Ev.some_
   ·by_cases c2 : x ≥ (L.length : Int)
    ·have c2' : (L.length : Int) ≤ x := c2
     have e : okR L.length prev (x :: d) = false := by cases prev <;> simp [okR, c2']
     simp only [if_neg c1, if_pos c2, e, Bool.false_and]
     exact Ev.some_
    ·have c2' : ¬ (L.length : Int) ≤ x := c2
     simp only [if_neg c1, if_neg c2]
     cases p with
     | zero =>
      obtain rfl := hp0 rfl
      have hz : ¬ ((0 : Nat) : Int) > 0 := by omega
      simp only [if_neg hz]
      exact hih (by simp [okR, c1, c2'])
     | succ q =>
      obtain ⟨y, hy, rfl⟩ := hp1 q rfl
      have hz : ((q + 1 : Nat) : Int) > 0 := by omega
      have hw2 : wrap64 (((q + 1 : Nat) : Int) - 1) = (q : Int) := by rw [w64 _ (by omega) (by omega)]; omega
      have hq0 : (0 : Int) ≤ (q : Int) := by omega
      have hq1 : (q : Int) < (c.length : Int) := by omega
      simp only [if_pos hz, hw2, if_pos hq0, if_pos hq1, rd_at c q y hy]
      by_cases c3 : x ≤ y
      ·have e : okR L.length (some y) (x :: d) = false := by simp [okR, c3]
       simp only [if_pos c3, e, Bool.false_and]
       exact Ev.some_
      ·simp only [if_neg c3]
       exact hih (by simp [okR, c1, c2', c3])
 have h := h0 c 0 none rfl (Nat.zero_le _) (fun _ => rfl) (fun q hq => by omega) (fun h => h)
 unfold feasQ
 rw [List.length_map]
 exact h
end
end Go.Proofs.Ytdamibblnjeooaa.H

/- The reference's right and Check (chapter 29) are the checker's. Plain. -/
namespace Go.Proofs.Ytdamibblnjeooaa.H
open Go.RowKit Go.Proofs.YtdamibblnjeooaaW.PrintWords Go.Proofs.YtdamibblnjeooaaW.PrintLast
set_option linter.unusedVariables false
set_option linter.unusedSimpArgs false
def cn (x : S34) : S55 := ⟨x.f0, x.f1, x.f2, x.f3⟩
theorem rdN_at (l : List S34) (i : Nat) (x : S34) (h : l[i]? = some x) : rd_T34 l (i : Int) = x := by
 simp [rd_T34, List.getD, h]
theorem mapN_getD (l : List S34) (i : Nat) (x : S34) (h : l[i]? = some x) : (l.map cn).getD i z55 = cn x := by
 simp [List.getD, h]
/-- Decisions as a row and as two lists without repeats. -/
structure DN (m : Nat) (dec ins outs : List Int) : Prop where
 r : DecR m dec ins outs
 ro : ∀ k ∈ outs, 0 ≤ k ∧ k < (m : Int)
 nd : (ins ++ outs).Nodup
theorem nd_len (m : Nat) : ∀ s : List Int, (∀ k ∈ s, 0 ≤ k ∧ k < (m : Int)) → s.Nodup → s.length ≤ m := by
 induction m with
 | zero =>
  intro s h _
  cases s with
  | nil => simp
  | cons x s => have := h x (by simp); omega
 | succ m ih =>
  intro s h hn
  have h1 := ih (s.erase (m : Int)) (fun k hk => by
   have h2 := h k (List.mem_of_mem_erase hk)
   have h3 := ((List.Nodup.mem_erase_iff hn).1 hk).1
   omega) (hn.erase _)
  by_cases hm : (m : Int) ∈ s
  ·have := List.length_erase_of_mem hm
   have : 0 < s.length := List.length_pos_of_mem hm
   omega
  ·rw [List.erase_of_not_mem hm] at h1; omega
theorem DN.len {m : Nat} {dec ins outs : List Int} (h : DN m dec ins outs) : ins.length + outs.length ≤ m := by
 have := nd_len m (ins ++ outs) (fun k hk => by
  rcases List.mem_append.1 hk with x | x
  ·exact h.r.ri k x
  ·exact h.ro k x) h.nd
 rwa [List.length_append] at this
theorem DN.zero (m : Nat) : DN m (List.replicate m 0) [] [] := by
 refine ⟨⟨List.length_replicate, by simp, by simp, by simp, fun k hk => ?_, fun k hk => ?_⟩, by simp, by simp⟩
 ·simp [List.getD, List.getElem?_replicate, hk]
 ·simp [List.getD, List.getElem?_replicate, hk]
theorem DN.take {m : Nat} {dec ins outs : List Int} (hm : m ≤ 100) (h : DN m dec ins outs) (b : Nat) (hb : b < m) (h0 : dec.getD b 0 = 0) :
  DN m (dec.set b 1) (ins ++ [(b : Int)]) outs ∧ DN m (dec.set b 2) ins (outs ++ [(b : Int)]) := by
 have hl := h.len
 obtain ⟨n1, n2⟩ := (h.r.i0 b hb).1 h0
 have hlen := h.r.len
 have hg : ∀ (d : Int) (k : Nat), (dec.set b d).getD k 0 = if k = b then d else dec.getD k 0 := by
  intro d k
  simp only [List.getD, List.getElem?_set]
  by_cases e : b = k
  ·subst e; simp [hlen, hb]
  ·rw [if_neg e, if_neg (fun x => e x.symm)]
 constructor
 ·refine ⟨⟨by simpa using hlen, by simp; omega, by omega, fun k hk => ?_, fun k hk => ?_, fun k hk => ?_⟩, h.ro, ?_⟩
  ·rcases List.mem_append.1 hk with x | x
   ·exact h.r.ri k x
   ·rw [List.mem_singleton] at x; omega
  ·rw [hg, List.mem_append, List.mem_singleton]
   by_cases e : k = b
   ·simp [e]
   ·rw [if_neg e, h.r.i1 k hk]
    constructor
    ·exact .inl
    ·rintro (x | x)
     ·exact x
     ·omega
  ·rw [hg, List.mem_append, List.mem_singleton]
   by_cases e : k = b
   ·simp [e]
   ·rw [if_neg e, h.r.i0 k hk]
    constructor
    ·rintro ⟨x, y⟩
     exact ⟨fun z => z.elim x (fun w => e (by omega)), y⟩
    ·rintro ⟨x, y⟩
     exact ⟨fun z => x (.inl z), y⟩
  ·have := h.nd
   rw [List.nodup_append] at this ⊢
   refine ⟨?_, this.2.1, ?_⟩
   ·rw [List.nodup_append]
    refine ⟨this.1, by simp, ?_⟩
    intro a ha c hc e
    rw [List.mem_singleton] at hc
    subst hc; subst e
    exact n1 ha
   ·intro a ha c hc e
    rcases List.mem_append.1 ha with x | x
    ·exact this.2.2 a x c hc e
    ·rw [List.mem_singleton] at x
     subst x; subst e
     exact n2 hc
 ·refine ⟨⟨by simpa using hlen, by omega, by simp; omega, h.r.ri, fun k hk => ?_, fun k hk => ?_⟩, fun k hk => ?_, ?_⟩
  ·rw [hg]
   by_cases e : k = b
   ·subst e
    simp [n1]
   ·rw [if_neg e, h.r.i1 k hk]
  ·rw [hg, List.mem_append, List.mem_singleton]
   by_cases e : k = b
   ·simp [e]
   ·rw [if_neg e, h.r.i0 k hk]
    constructor
    ·rintro ⟨x, y⟩
     exact ⟨x, fun z => z.elim y (fun w => e (by omega))⟩
    ·rintro ⟨x, y⟩
     exact ⟨x, fun z => y (.inl z)⟩
  ·rcases List.mem_append.1 hk with x | x
   ·exact h.ro k x
   ·rw [List.mem_singleton] at x; omega
  ·have := h.nd
   rw [← List.append_assoc, List.nodup_append]
   refine ⟨this, by simp, ?_⟩
   intro a ha c hc e
   rw [List.mem_singleton] at hc
   subst hc; subst e
   rcases List.mem_append.1 ha with x | x
   ·exact n1 x
   ·exact n2 x
theorem poss_open {l : List S82} {dec : List Int} {b : Nat} (h : possP l dec b = true) : dec.getD b 0 = 0 := by
 unfold possP at h
 simp only [Bool.and_eq_true, decide_eq_true_eq] at h
 exact h.1
/-- What is known where Valid found nothing. -/
structure VOk (n : Int) (L : List S85) : Prop where
 n8 : 1 ≤ n ∧ n ≤ 8
 l10 : L.length ≤ 10
 f1 : ∀ b ∈ L, 1 ≤ b.f1 ∧ b.f1 ≤ 1099511627776
 f2 : ∀ b ∈ L, b.f2.length ≤ 8 ∧ ∀ k ∈ b.f2, 0 ≤ k ∧ k < n
theorem VOk.of {n : Int} {L : List S85} (h : validP n (L.map cv) = 0) : VOk n L := by
 obtain ⟨hn1, hn2, hl10, hbb⟩ := validP_bids n (L.map cv) h
 rw [List.length_map] at hl10
 exact ⟨⟨hn1, hn2⟩, hl10, fun b hb => (hbb _ (List.mem_map_of_mem (f := cv) hb)).1, fun b hb => (hbb _ (List.mem_map_of_mem (f := cv) hb)).2⟩
theorem VOk.bok {n : Int} {L : List S85} (h : VOk n L) {ps : List Int} (hp : (ps.length : Int) = n) (hr : ∀ x ∈ ps, 0 ≤ x ∧ x ≤ 1099511627776) : BOk L ps :=
 ⟨h.l10, by have := h.n8; omega, hr, h.f1, fun b hb => ⟨(h.f2 b hb).1, fun k hk => by have := (h.f2 b hb).2 k hk; omega⟩⟩
section
variable {n : Int} {L : List S85} (ok : VOk n L) (v : Int) (NS : List S34)
include ok
theorem right_leaf (dec ins outs : List Int) (hd : DN L.length dec ins outs) (f0 f1 f2 : Int) (ps : List Int) (hl : (ps.length : Int) = n) : Ev (fun k => worldmintref29_right.l0 k n L ins outs 0 v NS f0 f1 f2 ps) (!ps.any badPrice && decide (boundD (L.map cv) dec ps ≤ v)) := by
 have h8 := ok.n8
 have : ∀ (d : List Int) (p : Nat), ps.drop p = d → p ≤ ps.length → (∀ x ∈ ps.take p, badPrice x = false) → Ev (fun k => worldmintref29_right.l0 k n L ins outs (p : Int) v NS f0 f1 f2 ps) (!ps.any badPrice && decide (boundD (L.map cv) dec ps ≤ v)) := by
  intro d
  induction d with
  | nil =>
   intro p hd2 hp hb
   have := drop_nil ps p hp hd2
   subst this
   rw [List.take_length] at hb
   have hany : ps.any badPrice = false := by
    rw [List.any_eq_false]
    intro x hx
    rw [hb x hx]; simp
   have hbo := rbound9_ok (ok.bok hl (fun x hx => by
    have h := hb x hx
    unfold badPrice at h
    simp only [Bool.or_eq_false_iff, decide_eq_false_iff_not] at h
    omega)) dec ins outs hd.r (List.nodup_append.1 hd.nd).1 (by have := hd.len; have := ok.l10; omega)
   refine Ev.succ ?_
   simp only [worldmintref29_right.l0, if_neg (show ¬ (ps.length : Int) < n by omega), hany, Bool.not_false, Bool.true_and]
   exact Ev.bind hbo Ev.some_
  | cons y d ih =>
   intro p hd2 hp hb
   obtain ⟨hy, hd', hlt⟩ := drop_cons ps p y d hd2
   have hym : y ∈ ps := List.mem_of_getElem? hy
   have hwp : wrap64 ((p : Int) + 1) = ((p + 1 : Nat) : Int) := by rw [w64 _ (by omega) (by omega)]; omega
   refine Ev.succ ?_
   simp only [worldmintref29_right.l0, if_pos (show (p : Int) < n by omega), if_pos (show (0 : Int) ≤ (p : Int) by omega), if_pos (show (p : Int) < (ps.length : Int) by omega), rd_at ps p y hy, hwp]
   by_cases c1 : y < 0
   ·have hany : ps.any badPrice = true := List.any_eq_true.2 ⟨y, hym, by unfold badPrice; simp [c1]⟩
    simp only [if_pos c1, hany, Bool.not_true, Bool.false_and]
    exact Ev.some_
   ·by_cases c2 : y > 1099511627776
    ·have hany : ps.any badPrice = true := List.any_eq_true.2 ⟨y, hym, by unfold badPrice; simp [show 1099511627776 < y from c2]⟩
     simp only [if_neg c1, if_pos c2, hany, Bool.not_true, Bool.false_and]
     exact Ev.some_
    ·simp only [if_neg c1, if_neg c2]
     refine ih (p + 1) hd' (by omega) ?_
     have ht : ps.take (p + 1) = ps.take p ++ [y] := by
      rw [List.take_succ_eq_append_getElem hlt]
      obtain ⟨_, e⟩ := List.getElem?_eq_some_iff.1 hy
      rw [e]
     rw [ht]
     intro x hx
     rcases List.mem_append.1 hx with h | h
     ·exact hb x h
     ·rw [List.mem_singleton] at h
      subst h
      unfold badPrice
      simp only [Bool.or_eq_false_iff, decide_eq_false_iff_not]
      omega
 exact this ps 0 rfl (Nat.zero_le _) (by simp)
theorem right_ok (hN : NS.length ≤ 100000) : ∀ (f i : Nat) (dec ins outs : List Int), i < NS.length → NS.length ≤ i + f → DN L.length dec ins outs → Ev (fun k => worldmintref29_right.f k n L v NS (i : Int) ins outs) (rightP n (L.map cv) v (NS.map cn) f i dec)
 | 0, i, _, _, _, hi, hf, _ => by omega
 | f + 1, i, dec, ins, outs, hi, hf, hd => by
  have h10 := ok.l10
  have hdl := hd.len
  have hx : NS[i]? = some NS[i] := List.getElem?_eq_getElem hi
  have hlm : (L.map cv).length = L.length := List.length_map ..
  have hln : (NS.map cn).length = NS.length := List.length_map ..
  have hdr := hd.r
  unfold rightP
  rw [mapN_getD NS i _ hx]
  generalize NS[i] = x at *
  have e0 : (cn x).f0 = x.f0 := rfl
  have e1 : (cn x).f1 = x.f1 := rfl
  have e2 : (cn x).f2 = x.f2 := rfl
  have e3 : (cn x).f3 = x.f3 := rfl
  refine Ev.succ ?_
  simp only [worldmintref29_right.f, if_pos (show (0 : Int) ≤ (i : Int) by omega), if_pos (show (i : Int) < (NS.length : Int) by omega), rdN_at NS i x hx, e0, e1, e2, e3, hlm, hln]
  by_cases c0 : x.f0 = -1
  ·simp only [if_pos c0]
   have hfalse : ∀ b : Bool, b = true → leafP n (L.map cv) v dec (cn x) = false → Ev (fun k => worldmintref29_right.j0 k n L ins outs b v NS x.f0 x.f1 x.f2 x.f3) (leafP n (L.map cv) v dec (cn x)) := by
    intro b hb hl
    rw [hl]
    refine Ev.succ ?_
    simp only [worldmintref29_right.j0, if_pos hb]
    exact Ev.some_
   by_cases c1 : x.f1 = 0
   ·by_cases c2 : x.f2 = 0
    ·simp only [if_pos c1, if_pos c2]
     by_cases c3 : (x.f3.length : Int) = n
     ·have hl := right_leaf ok v NS dec ins outs hd x.f0 x.f1 x.f2 x.f3 c3
      have hleaf : leafP n (L.map cv) v dec (cn x) = (!x.f3.any badPrice && decide (boundD (L.map cv) dec x.f3 ≤ v)) := by
       unfold leafP
       rw [e1, e2, e3, decide_eq_true c1, decide_eq_true c2, decide_eq_true c3]
       simp
      rw [hleaf]
      have hb : ((x.f3.length : Int) != n) = false := by simpa using c3
      rw [hb]
      refine Ev.succ ?_
      simp only [worldmintref29_right.j0, Bool.false_eq_true, if_false]
      exact hl
     ·refine hfalse _ (bne_iff_ne.mpr c3) ?_
      unfold leafP
      rw [e3, decide_eq_false c3]
      simp
    ·simp only [if_pos c1, if_neg c2]
     refine hfalse _ rfl ?_
     unfold leafP
     rw [e2, decide_eq_false c2]
     simp
   ·simp only [if_neg c1]
    refine hfalse _ rfl ?_
    unfold leafP
    rw [e1, decide_eq_false c1]
    simp
  ·simp only [if_neg c0]
   have hbad : ∀ (b r : Bool), b = true → r = false → Ev (fun k => worldmintref29_right.j2 k n L ins outs b v NS x.f0 x.f1 x.f2 x.f3) r := by
    intro b r hb hr
    subst hr
    refine Ev.succ ?_
    simp only [worldmintref29_right.j2, if_pos hb]
    exact Ev.some_
   by_cases c1 : x.f0 < 0
   ·simp only [if_pos c1]
    exact hbad _ _ rfl (by rw [if_pos (.inl c1)])
   ·simp only [if_neg c1]
    by_cases c2 : x.f0 ≥ (L.length : Int)
    ·simp only [if_pos c2]
     exact hbad _ _ rfl (by rw [if_pos (.inr (.inl c2))])
    ·simp only [if_neg c2]
     by_cases c3 : (x.f3.length : Int) > 0
     ·simp only [if_pos c3]
      exact hbad _ _ rfl (by rw [if_pos (.inr (.inr (.inr (by omega))))])
     ·simp only [if_neg c3]
      have hno1 : ∀ g : Nat → List Int → Bool, ∀ a d1 d2 : Int, ¬ ((i : Int) < a ∧ a < (NS.length : Int)) → stepR g NS.length i dec x.f0.toNat a d1 = false := fun g a d1 d2 h => by unfold stepR; rw [if_neg h]
      by_cases c4 : x.f1 ≤ (i : Int)
      ·simp only [if_pos c4]
       refine hbad _ _ rfl ?_
       rw [hno1 _ x.f1 1 0 (fun h => by omega)]
       split <;> simp
      ·simp only [if_neg c4]
       by_cases c5 : x.f1 ≥ (NS.length : Int)
       ·simp only [if_pos c5]
        refine hbad _ _ rfl ?_
        rw [hno1 _ x.f1 1 0 (fun h => by omega)]
        split <;> simp
       ·simp only [if_neg c5]
        by_cases c6 : x.f2 ≤ (i : Int)
        ·simp only [if_pos c6]
         refine hbad _ _ rfl ?_
         rw [hno1 _ x.f2 2 0 (fun h => by omega)]
         split <;> simp
        ·simp only [if_neg c6]
         by_cases c7 : x.f2 ≥ (NS.length : Int)
         ·refine hbad _ _ (decide_eq_true c7) ?_
          rw [hno1 _ x.f2 2 0 (fun h => by omega)]
          split <;> simp
         ·rw [decide_eq_false c7]
          obtain ⟨b, hb⟩ : ∃ b : Nat, x.f0 = (b : Int) := ⟨x.f0.toNat, by omega⟩
          obtain ⟨ka, hka⟩ : ∃ k : Nat, x.f1 = (k : Int) := ⟨x.f1.toNat, by omega⟩
          obtain ⟨kb, hkb⟩ : ∃ k : Nat, x.f2 = (k : Int) := ⟨x.f2.toNat, by omega⟩
          have hposs := rposs_ok L (fun b hb => by have := (ok.f2 b hb).1; omega) dec ins outs hdr b (by omega)
          rw [hb, hka, hkb, Int.toNat_natCast]
          refine Ev.succ ?_
          simp only [worldmintref29_right.j2, Bool.false_eq_true, if_false]
          refine Ev.bind hposs ?_
          cases hpo : possP (L.map cv) dec b
          ·simp only [Bool.false_eq_true, if_false]
           rw [if_pos (.inr (.inr (.inl trivial)))]
           exact Ev.some_
          ·obtain ⟨d1, d2⟩ := hd.take (by omega) b (by omega) (poss_open hpo)
           have iha := right_ok hN f ka (dec.set b 1) (ins ++ [(b : Int)]) outs (by omega) (by omega) d1
           have ihb := right_ok hN f kb (dec.set b 2) ins (outs ++ [(b : Int)]) (by omega) (by omega) d2
           rw [if_neg (by
            rintro (h | h | h | h)
            ·omega
            ·omega
            ·cases h
            ·omega)]
           unfold stepR
           rw [if_pos ⟨by omega, by omega⟩, if_pos ⟨by omega, by omega⟩, Int.toNat_natCast, Int.toNat_natCast]
           simp only [if_true, List.nil_append, List.length_nil, Nat.zero_add, Option.bind_some, if_pos (show ins.length < 17592186044416 by omega), if_pos (show outs.length < 17592186044416 by omega)]
           refine Ev.bind iha ?_
           cases rightP n (L.map cv) v (NS.map cn) f ka (dec.set b 1)
           ·simp only [Bool.false_eq_true, if_false, Bool.false_and]
            exact Ev.some_
           ·simp only [if_true, Bool.true_and]
            exact Ev.bind ihb Ev.some_
end
/-! ### Check's two looks ahead -/
theorem node_at (NS : List S34) (k : Nat) (hk : k < NS.length) : (NS.map cn).getD k z55 = cn (rd_T34 NS (k : Int)) := by
 have hx : NS[k]? = some NS[k] := List.getElem?_eq_getElem hk
 rw [mapN_getD NS k _ hx, rdN_at NS k _ hx]
theorem ptr_eq (NS : List S34) (j k : Nat) (hk : k < NS.length) : ptrR NS j k = ptrP (NS.map cn) j k := by
 unfold ptrR ptrP
 rw [node_at NS k hk]
 rfl
theorem par_eq (NS : List S34) (j : Nat) : sumR NS j NS.length = parP (NS.map cn) j := by
 unfold sumR parP
 rw [List.length_map]
 congr 1
 exact List.map_congr_left (fun k hk => ptr_eq NS j k (List.mem_range.1 hk))
theorem par_all (NS : List S34) : (List.range NS.length).all (parOk NS) = true ↔ OnePar (NS.map cn) := by
 rw [List.all_eq_true]
 unfold OnePar
 rw [List.length_map]
 constructor
 ·intro h j hj
  have := h j (List.mem_range.2 hj)
  unfold parOk at this
  rw [par_eq] at this
  by_cases e : j = 0
  ·rw [if_pos e] at this ⊢
   exact of_decide_eq_true this
  ·rw [if_neg e] at this ⊢
   exact of_decide_eq_true this
 ·intro h j hj
  have := h j (List.mem_range.1 hj)
  unfold parOk
  rw [par_eq]
  by_cases e : j = 0
  ·rw [if_pos e] at this ⊢
   exact decide_eq_true this
  ·rw [if_neg e] at this ⊢
   exact decide_eq_true this
theorem late_all (NS : List S34) : (List.range NS.length).all (lateOk NS) = true ↔ Later (NS.map cn) := by
 rw [List.all_eq_true]
 unfold Later
 rw [List.length_map]
 have hq : ∀ k, k < NS.length → (lateOk NS k = true ↔ (((NS.map cn).getD k z55).f0 ≠ -1 → (k : Int) < ((NS.map cn).getD k z55).f1 ∧ (k : Int) < ((NS.map cn).getD k z55).f2)) := by
  intro k hk
  rw [node_at NS k hk]
  unfold lateOk
  show _ ↔ ((rd_T34 NS (k : Int)).f0 ≠ -1 → (k : Int) < (rd_T34 NS (k : Int)).f1 ∧ (k : Int) < (rd_T34 NS (k : Int)).f2)
  generalize rd_T34 NS (k : Int) = x
  by_cases c0 : x.f0 = -1
  ·simp [c0]
  ·simp [c0]
 constructor
 ·intro h k hk
  exact (hq k hk).1 (h k (List.mem_range.2 hk))
 ·intro h k hk
  exact (hq k (List.mem_range.1 hk)).2 (h k (List.mem_range.1 hk))
theorem rcheck_ok (n : Int) (L : List S85) (hf : ∀ b ∈ L, b.f2.length ≤ 9223372036854775807) (win : List Int) (hw : win.length ≤ 1000) (v : Int) (NS : List S34) :
  Ev (fun k => worldmintref29_Check.f k n L win v NS) (checkP n (L.map cv) win v (NS.map cn)) := by
 have hv := rvalid_ok n L hf
 have hlm : (L.map cv).length = L.length := List.length_map ..
 have hln : (NS.map cn).length = NS.length := List.length_map ..
 unfold worldmintref29_Check.f checkP
 refine Ev.bind hv ?_
 by_cases hz : validP n (L.map cv) = 0
 ·have ok := VOk.of hz
  rw [if_neg (by rw [hz]; simp)]
  simp only [if_pos hz]
  have hfe := rfeas_any L hf win hw
  rw [← feas_any] at hfe
  refine Ev.bind hfe ?_
  cases hfb : feasP (L.map cv) [] win
  ·rw [if_pos rfl]
   simp only [Bool.false_eq_true, if_false]
   exact Ev.some_
  ·simp only [if_true]
   rw [if_neg (by simp), hln]
   obtain ⟨hr, _, _⟩ := feasP_facts (L.map cv) win [] hfb
   rw [hlm] at hr
   by_cases hbig : 2047 < NS.length
   ·simp only [if_pos hbig]
    exact Ev.some_
   ·simp only [if_neg hbig]
    by_cases h0 : NS.length = 0
    ·rw [if_pos (.inl h0)]
     simp only [if_pos h0]
     exact Ev.some_
    ·simp only [if_neg h0]
     refine Ev.bind (rvalue_ok L win hr hw (fun b hb => by have := ok.f1 b hb; omega)) ?_
     by_cases hvv : v = valP (L.map cv) win
     ·rw [if_neg (by
       rintro (h | h)
       ·exact h0 h
       ·exact h hvv)]
      simp only [if_pos hvv]
      have htree := root_tree (n := n) (l := L.map cv) (v := v) (nodes := NS.map cn) NS.length (List.replicate L.length 0) (by rw [hln]; omega)
      have hroot : rootP n (L.map cv) v (NS.map cn) = nodeP n (L.map cv) v (NS.map cn) NS.length 0 (List.replicate L.length 0) (List.replicate (NS.map cn).length false) := by
       unfold rootP; rw [hlm, hln]
      rw [hroot]
      have hright := right_ok ok v NS (by omega) NS.length 0 (List.replicate L.length 0) [] [] (by omega) (by omega) (DN.zero L.length)
      obtain ⟨R, hR⟩ : ∃ R : Int, R = if (nodeP n (L.map cv) v (NS.map cn) NS.length 0 (List.replicate L.length 0) (List.replicate (NS.map cn).length false)).1 = true ∧ (nodeP n (L.map cv) v (NS.map cn) NS.length 0 (List.replicate L.length 0) (List.replicate (NS.map cn).length false)).2.all id = true then 0 else 20 := ⟨_, rfl⟩
      rw [← hR]
      by_cases hp : (List.range NS.length).all (parOk NS) = true
      ·simp only [if_pos hp]
       by_cases hl : (List.range NS.length).all (lateOk NS) = true
       ·simp only [if_pos hl]
        refine Ev.bind hright ?_
        cases hrr : rightP n (L.map cv) v (NS.map cn) NS.length 0 (List.replicate L.length 0)
        ·have hR0 : R = 20 := by rw [hR, if_neg (fun h => by have := (htree.1 h).2.2; rw [hrr] at this; cases this)]
         rw [hR0, if_neg (by simp)]
         exact Ev.some_
        ·have hR0 : R = 0 := by rw [hR, if_pos (htree.2 ⟨(par_all NS).1 hp, (late_all NS).1 hl, hrr⟩)]
         rw [hR0, if_pos rfl]
         exact Ev.some_
       ·simp only [if_neg hl]
        have hR0 : R = 20 := by rw [hR, if_neg (fun h => hl ((late_all NS).2 (htree.1 h).2.1))]
        rw [hR0]
        exact Ev.some_
      ·simp only [if_neg hp]
       have hR0 : R = 20 := by rw [hR, if_neg (fun h => hp ((par_all NS).2 (htree.1 h).1))]
       rw [hR0]
       exact Ev.some_
     ·rw [if_pos (.inr hvv)]
      simp only [if_neg hvv]
      exact Ev.some_
 ·rw [if_pos hz]
  simp only [if_neg hz]
  exact Ev.some_
end Go.Proofs.Ytdamibblnjeooaa.H

/- Certificates as the law hands them over; what Full makes. Plain. -/
namespace Go.Proofs.Ytdamibblnjeooaa.H
open Go.RowKit Go.Proofs.YtdamibblnjeooaaW.PrintWords Go.Proofs.YtdamibblnjeooaaW.PrintLast
set_option linter.unusedVariables false
set_option linter.unusedSimpArgs false
theorem cert_ok (v : Int) (NS : List S34) (hl : NS.length < 2932031007402) : Ev (fun k => worldmintlaw29_certificate.f k v NS) (v, NS.map cn) := by
 have : ∀ (d : List S34) (p : Nat), NS.drop p = d → p ≤ NS.length → Ev (fun k => worldmintlaw29_certificate.l0 k (p : Int) v NS v ((NS.take p).map cn)) (v, NS.map cn) := by
  intro d
  induction d with
  | nil =>
   intro p hd hp
   have := drop_nil NS p hp hd
   subst this
   rw [List.take_length]
   refine Ev.succ ?_
   simp only [worldmintlaw29_certificate.l0, if_neg (show ¬ (NS.length : Int) < (NS.length : Int) by omega)]
   exact Ev.some_
  | cons y d ih =>
   intro p hd hp
   obtain ⟨hy, hd', hlt⟩ := drop_cons NS p y d hd
   have hwp : wrap64 ((p : Int) + 1) = ((p + 1 : Nat) : Int) := by rw [w64 _ (by omega) (by omega)]; omega
   have ht : (NS.take (p + 1)).map cn = (NS.take p).map cn ++ [(⟨y.f0, y.f1, y.f2, y.f3⟩ : S55)] := by
    rw [List.take_succ_eq_append_getElem hlt, List.map_append]
    obtain ⟨_, e⟩ := List.getElem?_eq_some_iff.1 hy
    rw [e]
    rfl
   have h1 := ih (p + 1) hd' (by omega)
   rw [ht] at h1
   refine Ev.succ ?_
   simp only [worldmintlaw29_certificate.l0, if_pos (show (p : Int) < (NS.length : Int) by omega), if_pos (show (0 : Int) ≤ (p : Int) by omega), if_pos (show ((NS.take p).map cn).length < 2932031007402 by rw [List.length_map, List.length_take]; omega), rdN_at NS p y hy, hwp]
   exact h1
 have h := this NS 0 rfl (Nat.zero_le _)
 simpa [worldmintlaw29_certificate.f] using h
theorem full_ok (t : Int) (L : List S85) (v : Int) (h0 : 0 ≤ t) (h8 : t ≤ 8) (hl : L.length ≤ 10) (hb : ∀ b ∈ L, b.f2.length ≤ 8) :
  worldmintref29_Full.f t L v = some (v, growP (L.map cv) t.toNat (L.length + 1) [] [] []) ∧ (growP (L.map cv) t.toNat (L.length + 1) [] [] []).length ≤ 2047 := by
 constructor
 ·unfold worldmintref29_Full.f
  rw [if_pos]
  unfold fullOk
  simp only [Bool.and_eq_true, decide_eq_true_eq, List.all_eq_true]
  exact ⟨⟨⟨h0, h8⟩, hl⟩, fun b hb' => by have := hb b hb'; omega⟩
 ·have h1 := growP_len (L.map cv) t.toNat (L.length + 1) [] [] []
  have h2 : 2 ^ (L.length + 1) ≤ 2 ^ 11 := Nat.pow_le_pow_right (by omega) (by omega)
  simp only [List.length_nil] at h1
  omega
end Go.Proofs.Ytdamibblnjeooaa.H

/- The reference's Spoilt (of certificates). Plain. -/
namespace Go.Proofs.Ytdamibblnjeooaa.H
open Go.RowKit Go.Proofs.YtdamibblnjeooaaW.PrintWords Go.Proofs.YtdamibblnjeooaaW.PrintLast
set_option linter.unusedVariables false
set_option linter.unusedSimpArgs false
theorem wf_of (n : Int) (h0 : -9223372036854775808 ≤ n) (h1 : n ≤ 9223372036854775807) : (Lit.int .i64 n).wf = true := by
 simpa [Lit.wf, IntKind.min, IntKind.max, IntKind.signed, IntKind.bits] using And.intro h0 h1
theorem tdiv_wf (n m : Int) (hm : 0 < m) (h : (Lit.int .i64 n).wf = true) : (Lit.int .i64 (IntKind.i64.wrap (Int.tdiv n m))).wf = true := by
 obtain ⟨h0, h1⟩ := wf_bounds n h
 have hb : -9223372036854775808 ≤ Int.tdiv n m ∧ Int.tdiv n m ≤ 9223372036854775807 := by
  by_cases hn : 0 ≤ n
  ·have := Int.tdiv_nonneg hn (Int.le_of_lt hm)
   have := Int.tdiv_le_self m hn
   omega
  ·obtain ⟨p, rfl⟩ : ∃ p : Int, n = -p := ⟨-n, by omega⟩
   rw [Int.neg_tdiv]
   have := Int.tdiv_nonneg (a := p) (b := m) (by omega) (Int.le_of_lt hm)
   have := Int.tdiv_le_self (a := p) m (by omega)
   omega
 have hw : IntKind.i64.wrap (Int.tdiv n m) = Int.tdiv n m := IntWalk.i64_in _ (by omega)
 rw [hw]
 exact wf_of _ hb.1 hb.2
theorem growP_f3 (l : List S82) (n : Nat) : ∀ f ns ins outs, (∀ x ∈ ns, x.f3.length ≤ n) → ∀ x ∈ growP l n f ns ins outs, x.f3.length ≤ n
 | 0, ns, _, _, h => by simpa [growP] using h
 | f + 1, ns, ins, outs, h => by
  unfold growP
  split
  ·intro x hx
   rcases List.mem_append.1 hx with hx | hx
   ·exact h x hx
   ·rw [List.mem_singleton] at hx
    subst hx
    simp
  ·rename_i i _
   have h1 := growP_f3 l n f (ns ++ [⟨(i : Int), (ns.length : Int) + 1, 0, []⟩]) (ins ++ [(i : Int)]) outs (fun x hx => by
    rcases List.mem_append.1 hx with hx | hx
    ·exact h x hx
    ·rw [List.mem_singleton] at hx
     subst hx
     exact Nat.zero_le _)
   refine growP_f3 l n f _ ins (outs ++ [(i : Int)]) (fun x hx => ?_)
   rcases List.mem_or_eq_of_mem_set hx with hx | hx
   ·exact h1 x hx
   ·subst hx
    exact Nat.zero_le _
theorem spoilt9_ok (v : Int) (NS : List S34) (a1 a2 a3 : Int) (h1 : (Lit.int .i64 a1).wf = true) (h2 : (Lit.int .i64 a2).wf = true) (hl : NS.length ≤ 5000) (B : Nat) (hB : B ≤ 900) (hf : ∀ x ∈ NS, x.f3.length ≤ B) :
  ∃ o, worldmintref29_Spoilt.f v NS a1 a2 a3 = some o ∧ o.2.length ≤ NS.length + 1 ∧ ∀ x ∈ o.2, x.f3.length ≤ B + 1 := by
 unfold worldmintref29_Spoilt.f
 have hok : spo9Ok NS = true := by
  unfold spo9Ok
  simp only [Bool.and_eq_true, decide_eq_true_eq, List.all_eq_true]
  exact ⟨by omega, fun b hb' => by have := hf b hb'; omega⟩
 rw [if_pos hok]
 obtain ⟨t, ht, ht0, ht1⟩ := around_ok a1 (NS.length + 1 : Int) h1 (by omega)
 simp only [ht, Option.bind_some]
 rw [if_pos ⟨ht0, by omega⟩]
 by_cases he : t = (NS.length : Int)
 ·rw [if_pos he]
  obtain ⟨u, hu, hu0, hu1⟩ := around_ok a2 2 h2 (by omega)
  simp only [hu, Option.bind_some]
  refine ⟨_, rfl, by simp, fun x hx => ?_⟩
  rcases List.mem_append.1 hx with hx | hx
  ·have := hf x hx; omega
  ·rw [List.mem_singleton] at hx
   subst hx
   exact Nat.zero_le _
 ·rw [if_neg he]
  obtain ⟨u, hu, hu0, hu1⟩ := around_ok a2 6 h2 (by omega)
  simp only [hu, Option.bind_some]
  rw [if_pos ⟨hu0, hu1⟩]
  have hm : NS.getD t.toNat z34 ∈ NS := by
   have : t.toNat < NS.length := by omega
   simp [List.getD, this]
  have hlen := hf _ hm
  generalize NS.getD t.toNat z34 = x at *
  have hset : ∀ y : S34, y.f3.length ≤ B + 1 → ∃ o, (some (v, NS.set t.toNat y) : Option (Int × List S34)) = some o ∧ o.2.length ≤ NS.length + 1 ∧ ∀ x ∈ o.2, x.f3.length ≤ B + 1 := fun y hy =>
   ⟨_, rfl, by simp, fun b hb' => by
    rcases List.mem_or_eq_of_mem_set hb' with h | h
    ·have := hf b h; omega
    ·subst h; exact hy⟩
  by_cases hp : 4 ≤ u ∧ 0 < x.f3.length
  ·rw [if_pos hp]
   obtain ⟨i, hi, hi0, hi1⟩ := around_ok (IntKind.i64.wrap (Int.tdiv a2 6)) x.f3.length (tdiv_wf a2 6 (by omega) h2) (by omega)
   simp only [hi, Option.bind_some]
   rw [if_pos ⟨hi0, hi1⟩]
   exact hset _ (by show (x.f3.set i.toNat a3).length ≤ B + 1; rw [List.length_set]; omega)
  ·rw [if_neg hp]
   refine hset _ ?_
   unfold spoN
   split
   ·show x.f3.length ≤ B + 1; omega
   ·split
    ·show x.f3.length ≤ B + 1; omega
    ·split
     ·show x.f3.length ≤ B + 1; omega
     ·split
      ·show (x.f3 ++ [a3]).length ≤ B + 1
       rw [List.length_append, List.length_singleton]; omega
      ·omega
end Go.Proofs.Ytdamibblnjeooaa.H

/- ProofChecks: the plain statement. -/
namespace Go.Proofs.Ytdamibblnjeooaa.H
open Go.RowKit Go.Proofs.YtdamibblnjeooaaW.PrintWords Go.Proofs.YtdamibblnjeooaaW.PrintLast
set_option linter.unusedVariables false
set_option linter.unusedSimpArgs false
theorem agree_ok (t : Int) (L : List S85) (hf : ∀ b ∈ L, b.f2.length ≤ 9223372036854775807) (win : List Int) (hw : win.length ≤ 1000) (p : Int × List S34) (hl : p.2.length ≤ 100000) : ∃ K, ∀ k, K ≤ k → agreeP k t L win (L.map cv) p = true := by
 obtain ⟨K1, h1⟩ := cert_ok p.1 p.2 (by omega)
 obtain ⟨K2, h2⟩ := rcheck_ok t L hf win hw p.1 p.2
 refine ⟨max K1 K2, fun k hk => ?_⟩
 unfold agreeP
 have e1 : worldmintlaw29_certificate.f k p.1 p.2 = _ := h1 k (by omega)
 have e2 : worldmintref29_Check.f k t L win p.1 p.2 = _ := h2 k (by omega)
 rw [e1, e2]
 exact decide_eq_true rfl
theorem ProofChecks_pure : worldmintlaw29_ProofChecks.Pure := by
 intro a0 l1 l2 a3 a4 a5 a6 w0 _ _ w1 _ _ w2 w3 w4 w5 w6
 obtain ⟨t, ht, ht0, ht1⟩ := lots_ok a0 w0
 obtain ⟨L, hL, hLl, hLg⟩ := bids_ok t l1 w1 6 ht0 ht1 (by omega) (by omega)
 obtain ⟨ps, hps, hpl, hpr⟩ := rlots_ok t l2 w2 (by omega) ht1
 have hfine : ∀ b ∈ L.map cv, Fine t b := fun b hb => by
  obtain ⟨y, hy, rfl⟩ := List.mem_map.1 hb
  obtain ⟨g1, g2, g3, g4, g5, g6, g7⟩ := hLg y hy
  exact ⟨g1, by show y.f0 ≤ _; omega, g3, by show y.f1 ≤ _; omega, g5, g6⟩
 have hV : validP t (L.map cv) = 0 := fine_valid t _ ht0 ht1 (by rw [List.length_map]; omega) hfine
 obtain ⟨win, hwin, hfe⟩ := win_ok t L (by omega) (fun b hb => by have := (hLg b hb).2.2.2.2.2.2; omega) (fun b hb => by obtain ⟨g1, g2, g3, g4, g5, g6, g7⟩ := hLg b hb; exact ⟨g3, by omega⟩) (fun b hb => by obtain ⟨g1, g2, g3, g4, g5, g6, g7⟩ := hLg b hb; omega) hV a3 w3
 obtain ⟨hr, _, _⟩ := feasP_facts (L.map cv) win [] hfe
 have hwl := feas_len (L.map cv) win hfe
 rw [List.length_map] at hr hwl
 have hval := rvalue_ok L win hr (by omega) (fun b hb => by obtain ⟨g1, g2, g3, g4, g5, g6, g7⟩ := hLg b hb; omega)
 obtain ⟨hF, hFl⟩ := full_ok t L (valP (L.map cv) win) (by omega) ht1 (by omega) (fun b hb => (hLg b hb).2.2.2.2.2.2)
 have hF3 := growP_f3 (L.map cv) t.toNat (L.length + 1) [] [] [] (fun x hx => by cases hx)
 obtain ⟨q, hq, hq0, hq1⟩ := around_ok a6 12 w6 (by omega)
 generalize growP (L.map cv) t.toNat (L.length + 1) [] [] [] = NS at *
 generalize valP (L.map cv) win = v at *
 obtain ⟨one, hone, h1l, h1f⟩ := spoilt9_ok v NS a4 a5 (q - 2) w4 w5 (by omega) 8 (by omega) (fun x hx => by have := hF3 x hx; omega)
 obtain ⟨two, htwo, h2l, h2f⟩ := spoilt9_ok one.1 one.2 (IntKind.i64.wrap (Int.tdiv a4 7)) (IntKind.i64.wrap (Int.tdiv a5 7)) a6 (tdiv_wf a4 7 (by omega) w4) (tdiv_wf a5 7 (by omega) w5) (by omega) 9 (by omega) h1f
 obtain ⟨three, hthree, h3l, h3f⟩ := spoilt9_ok v [leafN ps] a4 a5 a6 w4 w5 (by simp) 8 (by omega) (fun x hx => by rw [List.mem_singleton] at hx; subst hx; show ps.length ≤ 8; omega)
 have hag : ∀ p : Int × List S34, p.2.length ≤ 100000 → ∃ K, ∀ k, K ≤ k → agreeP k t L win (L.map cv) p = true := fun p hp => agree_ok t L (fun b hb => by have := (hLg b hb).2.2.2.2.2.2; omega) win (by omega) p hp
 obtain ⟨K0, e0⟩ := hag (v, NS) (by show NS.length ≤ 100000; omega)
 obtain ⟨K1, e1⟩ := hag (v, [leafN ps]) (by simp)
 obtain ⟨K2, e2⟩ := hag one (by omega)
 obtain ⟨K3, e3⟩ := hag two (by omega)
 obtain ⟨K4, e4⟩ := hag three (by have : ([leafN ps]).length = 1 := rfl; omega)
 obtain ⟨K5, e5⟩ := hag (v, []) (by simp)
 refine Ev.ex ?_
 unfold worldmintlaw29_ProofChecks.f
 simp only [ht, Option.bind_some]
 refine Ev.bind hL ?_
 refine Ev.bind hwin ?_
 refine Ev.bind hval ?_
 simp only [hF, Option.bind_some]
 refine Ev.bind hps ?_
 simp only [hq, hone, htwo, hthree, Option.bind_some]
 refine Ev.bind (given_ok L (by omega)) ?_
 refine ⟨max K0 (max K1 (max K2 (max K3 (max K4 K5)))), fun k hk => ?_⟩
 refine if_pos ?_
 refine ⟨hq0, hq1, ?_⟩
 simp only [List.all_cons, List.all_nil, Bool.and_true, Bool.and_eq_true]
 exact ⟨e0 k (by omega), e1 k (by omega), e2 k (by omega), e3 k (by omega), e4 k (by omega), e5 k (by omega)⟩
end Go.Proofs.Ytdamibblnjeooaa.H
namespace Go.Proofs.Ytdamibblnjeooaa.Pure
theorem ProofChecks : H.worldmintlaw29_ProofChecks.Pure := H.ProofChecks_pure
end Go.Proofs.Ytdamibblnjeooaa.Pure
