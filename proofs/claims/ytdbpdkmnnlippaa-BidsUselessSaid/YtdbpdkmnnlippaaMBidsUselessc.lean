/- Texts of this claim, one behind the other. -/
import Derived.Test.YtdbpdkmnnlippaaMBidsUselessb
import Derived.MapFrom
import Derived.Laws.IdiomRangeMap
import Derived.Outline
import Derived.StillTailTactics
import Derived.StillTactics
import Derived.BigQuiet
import Derived.Deep.QuietTactic
import Derived.RegionTactic
import Derived.ChangeAlike
import Derived.IntWalk
import Derived.Deep.RegionHeld3
import Derived.Deep.RegionWith
import Derived.Laws.EntriesVeiled
import Derived.Shelf.Small.Bits
import Derived.Shelf.Strconv.Itoa0
import Derived.Shelf.Sort.Plain
import Derived.Ground.Names2Prog
import Derived.Shelf.Slices.SearchI
import Derived.Shelf.Slices.In.SortNone
import Derived.Test.YtdbpdkmnnlippaaProg
import Derived.Sort.OwnSortedInts

/- The plain functions that the programs' bids and clear packages compute, over lists: no machine in sight. -/
namespace Go.Proofs.Ytdbpdkmnnlippaa.H
open Go.RowKit


/-- Two bids conflict: one bidder, or a common lot. -/
def conf (a b : S38) : Bool := a.f0 == b.f0 || b.f2.any fun k => a.f2.contains k




/-- What is wrong with the lots of a bid. -/
def lotsOk (n : Int) : Int → List Int → Bool
  | _, [] => true
  | last, k :: ks => if k ≤ last || n ≤ k then false else lotsOk n k ks









/-- Does the choice hold, from place i on? 'pre' are the places before. -/
def feasP (l : List S38) : List Int → List Int → Bool
  | _, [] => true
  | pre, w :: ws =>
    if w < 0 || (l.length : Int) ≤ w || (match pre.getLast? with | some p => decide (w ≤ p) | none => false) then false else
    if pre.any fun v => conf (l.getD v.toNat z38) (l.getD w.toNat z38) then false else feasP l (pre ++ [w]) ws

def bids_Feasible.f (l0 : List S38) (l1 : List Int) : Option Bool := some (feasP l0 [] l1)

def bids_Conflict.f (a0_0 a0_1 : Int) (l0_2 : List Int) (a1_0 a1_1 : Int) (l1_2 : List Int) : Option Bool := some (conf ⟨a0_0, a0_1, l0_2⟩ ⟨a1_0, a1_1, l1_2⟩)

/-- Bid j makes bid i useless. -/
def uselessP (l : List S38) (i j : Int) : Bool :=
  let a := l.getD i.toNat z38; let b := l.getD j.toNat z38
  !(i == j || a.f0 != b.f0 || decide (b.f1 < a.f1) || (b.f1 == a.f1 && decide (i < j))) && !(b.f2.any fun k => !a.f2.contains k)

def bids_useless.f (l0 : List S38) (a1 a2 : Int) : Option Bool :=
  if 0 ≤ a1 ∧ a1 < l0.length ∧ 0 ≤ a2 ∧ a2 < l0.length then some (uselessP l0 a1 a2) else none

end Go.Proofs.Ytdbpdkmnnlippaa.H

/- Maps with keys of type int, in the machine: what a map block holds, as a list of keys and values; look-up and store, as the machine runs them. -/
namespace Go.Proofs.Ytdbpdkmnnlippaa.H
open Go.RowKit

/-- Block b is a map with these entries, in the order of their making. -/
def IMap (w : World) (b : Nat) (m : List (Int × Value)) : Prop :=
  ∃ es clock, w.heap[b]? = some (.map es clock) ∧ es.toList.map (fun e => (e.key, e.val)) = (m.map fun p => (Value.int .i64 p.1, p.2)) ∧ MapKept.Stamped es clock

def lookM : List (Int × Value) → Int → Option Value
  | [], _ => none
  | (j, v) :: m, k => if j = k then some v else lookM m k
def updM : List (Int × Value) → Int → Value → List (Int × Value)
  | [], k, v => [(k, v)]
  | (j, u) :: m, k, v => if j = k then (k, v) :: m else (j, u) :: updM m k v

theorem IMap.keeps {w w' : World} {b : Nat} {m : List (Int × Value)} (h : IMap w b m) (he : w'.heap[b]? = w.heap[b]?) : IMap w' b m := by
  obtain ⟨es, c, hb, hm, hst⟩ := h; exact ⟨es, c, he.trans hb, hm, hst⟩
theorem IMap.lt {w : World} {b : Nat} {m : List (Int × Value)} (h : IMap w b m) : b < w.heap.size := by
  obtain ⟨es, c, hb, hm, hst⟩ := h; exact (Array.getElem?_eq_some_iff.1 hb).1

/-- Block b alone has turned. -/
structure OneTurn (b : Nat) (w w' : World) : Prop where
  os : w'.os = w.os
  tape : w'.tape = w.tape
  output : w'.output = w.output
  size : w'.heap.size = w.heap.size
  block : ∀ j, j ≠ b → w'.heap[j]? = w.heap[j]?
theorem OneTurn.below {b B : Nat} {w w' : World} (h : OneTurn b w w') (hb : B ≤ b) : Below B w w' :=
  ⟨h.os, h.tape, h.output, by rw [h.size]; exact Nat.le_refl _, fun k hk => h.block k (by omega)⟩
theorem OneTurn.cell {b : Nat} {w w' : World} (h : OneTurn b w w') {p : Addr} (hp : p.block ≠ b) : w'.cell? p = w.cell? p := World.cell?_of_block (w := w) (h.block p.block hp)
theorem OneTurn.frozen {b : Nat} {w w' : World} (h : OneTurn b w w') {p : Addr} (hp : p.block ≠ b) : w'.frozen? p = w.frozen? p := World.frozen?_of_block (w := w) (h.block p.block hp)
theorem OneTurn.mk_ (b : Nat) (w : World) (o : Obj) : OneTurn b w { w with heap := w.heap.setIfInBounds b o } :=
  ⟨rfl, rfl, rfl, by simp, fun j hj => by simp only [Array.getElem?_setIfInBounds]; rw [if_neg (fun e => hj e.symm)]⟩

theorem findNow_miss (k : Int) : ∀ (m : List (Int × Value)) (es : List MapEntry) (i : Nat), es.map (fun e => (e.key, e.val)) = m.map (fun p => (Value.int .i64 p.1, p.2)) → lookM m k = none →
    Instr.findNow (.int .i64) (.int .i64 k) es i = some none
  | [], [], _, _, _ => rfl
  | [], _ :: _, _, h, _ => by simp at h
  | _ :: _, [], _, h, _ => by simp at h
  | (j, v) :: m, e :: es, i, h, hl => by
    simp only [List.map_cons, List.cons.injEq, Prod.mk.injEq] at h
    obtain ⟨⟨hk, hv⟩, ht⟩ := h
    simp only [lookM] at hl
    by_cases hj : j = k
    · rw [if_pos hj] at hl; cases hl
    · rw [if_neg hj] at hl
      have hb : (k == j) = false := by simpa using fun e => hj e.symm
      simp only [Instr.findNow, hk, Instr.sameNow, if_true, hb]
      exact findNow_miss k m es (i + 1) ht hl

theorem findNow_hit (k : Int) : ∀ (m : List (Int × Value)) (es : List MapEntry) (i : Nat) (v : Value), es.map (fun e => (e.key, e.val)) = m.map (fun p => (Value.int .i64 p.1, p.2)) → lookM m k = some v →
    ∃ j, Instr.findNow (.int .i64) (.int .i64 k) es i = some (some (i + j, v)) ∧ (∃ e, es[j]? = some e ∧ e.key = .int .i64 k) ∧
      ∀ u, (es.modify j fun e => { e with key := .int .i64 k, val := u }).map (fun e => (e.key, e.val)) = (updM m k u).map fun p => (Value.int .i64 p.1, p.2)
  | [], _, _, _, _, hl => by simp [lookM] at hl
  | _ :: _, [], _, _, h, _ => by simp at h
  | (j, v0) :: m, e :: es, i, v, h, hl => by
    simp only [List.map_cons, List.cons.injEq, Prod.mk.injEq] at h
    obtain ⟨⟨hk, hv⟩, ht⟩ := h
    simp only [lookM] at hl
    by_cases hj : j = k
    · rw [if_pos hj] at hl; cases hl; subst hj
      refine ⟨0, ?_, ⟨e, rfl, hk⟩, fun u => ?_⟩
      · simp [Instr.findNow, hk, Instr.sameNow, hv]
      · simp [updM, ht]
    · rw [if_neg hj] at hl
      have hb : (k == j) = false := by simpa using fun e => hj e.symm
      obtain ⟨q, h1, h2, h3⟩ := findNow_hit k m es (i + 1) v ht hl
      refine ⟨q + 1, ?_, by simpa using h2, fun u => ?_⟩
      · simp only [Instr.findNow, hk, Instr.sameNow, if_true, hb]
        rw [h1, show i + 1 + q = i + (q + 1) from by omega]
      · simp only [List.modify_succ_cons, List.map_cons, updM, if_neg hj, h3 u, hk, hv]

set_option linter.unusedVariables false in
theorem findNow_none (k : Int) : ∀ (m : List (Int × Value)) (es : List MapEntry) (i : Nat), es.map (fun e => (e.key, e.val)) = m.map (fun p => (Value.int .i64 p.1, p.2)) → lookM m k = none → ∀ x ∈ es, x.key ≠ .int .i64 k
  | [], [], _, _, _ => by simp
  | [], _ :: _, _, h, _ => by simp at h
  | _ :: _, [], _, h, _ => by simp at h
  | (j, v) :: m, e :: es, i, h, hl => by
    simp only [List.map_cons, List.cons.injEq, Prod.mk.injEq] at h
    obtain ⟨⟨hk, hv⟩, ht⟩ := h
    simp only [lookM] at hl
    by_cases hj : j = k
    · rw [if_pos hj] at hl; cases hl
    · rw [if_neg hj] at hl
      intro x hx
      rcases List.mem_cons.1 hx with rfl | hx
      · rw [hk]; intro e; injection e with _ e; exact hj e
      · exact findNow_none k m es (i + 1) ht hl x hx

theorem updM_miss (k : Int) (u : Value) : ∀ m, lookM m k = none → updM m k u = m ++ [(k, u)]
  | [], _ => rfl
  | (j, v) :: m, hl => by
    simp only [lookM] at hl
    by_cases hj : j = k
    · rw [if_pos hj] at hl; cases hl
    · rw [if_neg hj] at hl
      simp only [updM, if_neg hj, List.cons_append, updM_miss k u m hl]

section
variable {P : Program} {T K E : TypeId}
/-- 'm[k]'. -/
theorem run_look (w : World) (b : Nat) (m : List (Int × Value)) (k : Int) (hT : P.underlying T = some (.map K E)) (hK : P.underlying K = some (.int .i64)) (h : IMap w b m) (z : Value) (hz : ∀ w, (zeroValue E).run P w = .ok z w) :
    (Instr.lookup T (.map (some b)) (.int .i64 k) false).run P w = .ok ((lookM m k).getD z) w := by
  obtain ⟨es, c, hb, hm, hst⟩ := h
  have hc : ∀ em, (Instr.checkKey em 10000 K (.int .i64 k)).run P w = .ok () w := fun em => MapKept.run_checkKey (k := .int .i64 k) hK (by simp [MapKept.IsKey]) em 9999
  have hf : (Instr.findKey K (.int .i64 k) es.toList).run P w = .ok ((Instr.findNow (.int .i64) (.int .i64 k) es.toList 0).getD none) w := by
    have : ∃ r, Instr.findNow (.int .i64) (.int .i64 k) es.toList 0 = some r := by
      cases hl : lookM m k with
      | none => exact ⟨_, findNow_miss k m _ 0 hm hl⟩
      | some v => obtain ⟨j, h1, _⟩ := findNow_hit k m _ 0 v hm hl; exact ⟨_, h1⟩
    obtain ⟨r, hr⟩ := this
    simp [Instr.findKey, run_underlying hK, hr, Result.andThen]
  cases hl : lookM m k with
  | none =>
    have h1 := findNow_miss k m _ 0 hm hl
    simp [Instr.lookup, run_underlying hT, MapKept.run_getObj_map hb, hc, hf, h1, hz, Result.andThen]
  | some v =>
    obtain ⟨j, h1, _⟩ := findNow_hit k m _ 0 v hm hl
    simp [Instr.lookup, run_underlying hT, MapKept.run_getObj_map hb, hc, hf, h1, Result.andThen]

/-- 'm[k] = v': the map's block alone has turned. -/
theorem run_upd (w : World) (b : Nat) (m : List (Int × Value)) (k : Int) (u : Value) (hT : P.underlying T = some (.map K E)) (hK : P.underlying K = some (.int .i64)) (h : IMap w b m) :
    ∃ w', (Instr.mapUpdate T (.map (some b)) (.int .i64 k) u).run P w = .ok () w' ∧ IMap w' b (updM m k u) ∧ OneTurn b w w' := by
  suffices hs : ∃ o, (Instr.mapUpdate T (.map (some b)) (.int .i64 k) u).run P w = .ok () { w with heap := w.heap.setIfInBounds b o } ∧ IMap { w with heap := w.heap.setIfInBounds b o } b (updM m k u) by
    obtain ⟨o, h1, h2⟩ := hs; exact ⟨_, h1, h2, OneTurn.mk_ b w o⟩
  have hlt := h.lt
  obtain ⟨es, c, hb, hm, hst⟩ := h
  have hc : ∀ em, (Instr.checkKey em 10000 K (.int .i64 k)).run P w = .ok () w := fun em => MapKept.run_checkKey (k := .int .i64 k) hK (by simp [MapKept.IsKey]) em 9999
  have hnew : ∀ o : Obj, ({ w with heap := w.heap.setIfInBounds b o } : World).heap[b]? = some o := fun o => by simp [hlt]
  cases hl : lookM m k with
  | none =>
    have h1 := findNow_miss k m _ 0 hm hl
    have hf : (Instr.findKey K (.int .i64 k) es.toList).run P w = .ok none w := by simp [Instr.findKey, run_underlying hK, h1, Result.andThen]
    refine ⟨_, ?_, es.push { key := .int .i64 k, val := u, born := c }, c + 1, hnew _, ?_, ?_⟩
    · simp [Instr.mapUpdate, run_underlying hT, MapKept.run_getObj_map hb, hc, hf, MapKept.run_setObj_map _ hb, Result.andThen]
    · rw [updM_miss k u m hl]; simp [hm]
    · exact MapKept.stamped_push hst (fun x hx e => findNow_none k m _ 0 hm hl x hx e)
  | some v =>
    obtain ⟨j, h1, ⟨e, he, hek⟩, h3⟩ := findNow_hit k m _ 0 v hm hl
    have hf : (Instr.findKey K (.int .i64 k) es.toList).run P w = .ok (some (j, v)) w := by simp [Instr.findKey, run_underlying hK, h1, Result.andThen]
    have hej : es[j]? = some e := by simpa using he
    refine ⟨_, ?_, es.modify j (fun e => { e with key := .int .i64 k, val := u }), c, hnew _, ?_, ?_⟩
    · simp [Instr.mapUpdate, run_underlying hT, MapKept.run_getObj_map hb, hc, hf, hej, hek, MapKept.run_keyThatStays (d := .int .i64) (k := .int .i64 k) (by simp [MapKept.IsKey]), MapKept.run_setObj_map _ hb, Result.andThen]
    · rw [Array.toList_modify]; exact h3 u
    · exact MapKept.stamped_modify hst j _ (fun _ _ => rfl) (fun e' _ he' => by rw [hej] at he'; cases he'; exact hek.symm)
end
end Go.Proofs.Ytdbpdkmnnlippaa.H

/- What package bids asks of two bids: the set of a bid's lots, slices.ContainsFunc over ints, Conflict. -/
namespace Go.Proofs.Ytdbpdkmnnlippaa.H
open Go.RowKit Go.Proofs.YtdbpdkmnnlippaaW.PrintWords Go.Proofs.YtdbpdkmnnlippaaW.PrintLast Go.Proofs.YtdbpdkmnnlippaaW.PrintMore
set_option linter.unusedVariables false

/-- The first place at which p holds. -/
def idxP (p : Int → Bool) (xs : List Int) : Int := if xs.any p then (xs.findIdx p : Int) else -1
theorem idxP_yes (p : Int → Bool) (xs : List Int) (k : Nat) (hk : k < xs.length) (h0 : ∀ x ∈ xs.take k, p x = false) (h1 : p (xs.getD k 0) = true) : idxP p xs = k := by
  have hg : xs.getD k 0 = xs[k] := by simp [List.getD, hk]
  have ha : xs.any p = true := by rw [List.any_eq_true]; exact ⟨xs[k], List.getElem_mem hk, by rw [← hg]; exact h1⟩
  unfold idxP; rw [if_pos ha]
  have : xs.findIdx p = k := by
    rw [List.findIdx_eq hk]; refine ⟨by rw [← hg]; exact h1, fun j hj => ?_⟩
    have := h0 (xs[j]'(by omega)) (by rw [List.mem_take_iff_getElem]; exact ⟨j, by omega, rfl⟩)
    simpa using this
  rw [this]
theorem idxP_no (p : Int → Bool) (xs : List Int) (h0 : ∀ x ∈ xs, p x = false) : idxP p xs = -1 := by
  unfold idxP; rw [if_neg]; simp only [List.any_eq_true, not_exists, not_and, Bool.not_eq_true]; exact h0
theorem idxP_ge (p : Int → Bool) (xs : List Int) : decide (0 ≤ idxP p xs) = xs.any p := by
  unfold idxP; split <;> simp_all
theorem take_succ_all (p : Int → Bool) (xs : List Int) (k : Nat) (hk : k < xs.length) (h0 : ∀ x ∈ xs.take k, p x = false) (h1 : p (xs.getD k 0) = false) : ∀ x ∈ xs.take (k + 1), p x = false := by
  have hg : xs.getD k 0 = xs[k] := by simp [List.getD, hk]
  intro x hx
  rw [List.take_succ_eq_append_getElem hk, List.mem_append, List.mem_singleton] at hx
  rcases hx with hx | rfl
  · exact h0 x hx
  · rw [← hg]; exact h1
set_option maxHeartbeats 1000000 in
/-- slices.IndexFunc over ints: whatever the predicate, as far as it only makes new memory. -/
theorem indexFunc_calls (g : Nat) (caps : Array Value) (p : Int → Bool) (A : Option Addr) (c : Nat) (xs : List Int) (w : World) (hr : Kd.C (Kd.int .i64) w A xs.length xs)
    (hg : ∀ args w, (callFunc g args).run Try.prog w = .ok (.enter g args) w)
    (hp : ∀ x W, x ∈ xs → Below w.heap.size w W → Calls Try.prog g (#[.int .i64 x] ++ caps) W (fun e W' => e = .returned (.bool (p x)) ∧ Below W.heap.size W W')) :
    Calls Try.prog 61 #[.slice A xs.length c, .func (.func g) #[] caps] w (fun e w' => e = .returned (.int .i64 (idxP p xs)) ∧ Below w.heap.size w w') := by
  have hl : xs.length ≤ 9223372036854775807 := hr.2.1
  go_enter Try.func61, Try.ntmps61
  go_wp2
  go_loopw [8] (fun i wr => ∃ k : Nat, k ≤ xs.length ∧ i = .int .i64 k ∧ Aside0 (∀ x ∈ xs.take k, p x = false) ∧ Below w.heap.size w wr) (fun i _ => xs.length - (intOf i).toNat)
  case atStart => exact ⟨0, by omega, rfl, ⟨by simp⟩, Below.refl _ _⟩
  case round =>
    obtain ⟨k, hk, rfl, hpk, hB⟩ := hrel
    by_cases hlt : k < xs.length
    · obtain ⟨ad, e, hcell⟩ := Kd.at_int (Kd.C_below hr hB) k (by omega) (by omega)
      have hpx := hp (rd xs k) wr (by simp [rd, List.getD, hlt]) hB
      subst e; rw [Int.toNat_natCast] at hcell
      cases hb : p (rd xs k)
      all_goals
        rw [hb] at hpx
        have Hp := Aside0.mk hpx
        have Hb := Aside0.mk hb
        clear hpx hb hp
        go_wp2_with fail
        refine Hp.out.mono ?_
        rintro e w' ⟨rfl, hb2⟩
        go_wp2
      · go_roundw
        case rel => exact ⟨k + 1, by omega, by go_num, ⟨take_succ_all p xs k hlt hpk.out Hb.out⟩, hB.trans (hb2.mono hB.size)⟩
        case measure => simp [intOf]; omega
      · go_ret
        exact ⟨by rw [idxP_yes p xs k hlt hpk.out Hb.out]; rfl, hB.trans (hb2.mono hB.size)⟩
    · obtain rfl : k = xs.length := by omega
      go_wp2
      go_ret
      exact ⟨by rw [idxP_no p xs (by simpa using hpk.out)]; rfl, hB⟩
set_option maxHeartbeats 1000000 in
/-- slices.ContainsFunc over ints. -/
theorem containsFunc_calls (g : Nat) (caps : Array Value) (p : Int → Bool) (A : Option Addr) (c : Nat) (xs : List Int) (w : World) (hr : Kd.C (Kd.int .i64) w A xs.length xs)
    (hg : ∀ args w, (callFunc g args).run Try.prog w = .ok (.enter g args) w)
    (hp : ∀ x W, x ∈ xs → Below w.heap.size w W → Calls Try.prog g (#[.int .i64 x] ++ caps) W (fun e W' => e = .returned (.bool (p x)) ∧ Below W.heap.size W W')) :
    Calls Try.prog 47 #[.slice A xs.length c, .func (.func g) #[] caps] w (fun e w' => e = .returned (.bool (xs.any p)) ∧ Below w.heap.size w w') := by
  have H := Aside0.mk (indexFunc_calls g caps p A c xs w hr hg hp)
  have hge := idxP_ge p xs
  have Hge := Aside0.mk hge
  clear hge hr hp hg
  go_enter Try.func47, Try.ntmps47
  go_wp2_with fail
  refine H.out.mono ?_
  rintro e w' ⟨rfl, hb⟩
  generalize hz : idxP p xs = z at *
  clear hz
  go_wp2
  go_ret
  exact ⟨by rw [← Hge.out]; rfl, hb⟩

/-- A set of ints. -/
def IsSet (w : World) (b : Nat) (xs : List Int) : Prop := ∃ m, IMap w b m ∧ ∀ k, (lookM m k).getD (.bool false) = .bool (xs.contains k)
theorem look_upd (m : List (Int × Value)) (k : Int) (v : Value) (j : Int) : lookM (updM m k v) j = if j = k then some v else lookM m j := by
  induction m with
  | nil => by_cases h : j = k <;> simp [updM, lookM, h]; exact fun e => absurd e.symm h
  | cons p m ih =>
    obtain ⟨q, u⟩ := p
    by_cases hq : q = k
    · subst hq; simp only [updM, if_true, lookM]
      by_cases h : q = j
      · rw [if_pos h, if_pos h.symm]
      · rw [if_neg h, if_neg (fun e => h e.symm), if_neg h]
    · simp only [updM, if_neg hq, lookM, ih]
      by_cases h : q = j
      · subst h; rw [if_pos rfl, if_neg hq, if_pos rfl]
      · rw [if_neg h, if_neg h]
theorem set_snoc {m : List (Int × Value)} {xs : List Int} {x : Int} (h : ∀ k, (lookM m k).getD (.bool false) = .bool (xs.contains k)) : ∀ k, (lookM (updM m x (.bool true)) k).getD (.bool false) = .bool ((xs ++ [x]).contains k) := by
  intro k
  rw [look_upd]
  by_cases hk : k = x
  · subst hk; rw [if_pos rfl]; simp
  · rw [if_neg hk, h k]; simp [hk]
theorem zero_bool (w : World) : (zeroValue 4).run Try.prog w = .ok (.bool false) w := by kernel_rfl
set_option maxHeartbeats 1000000 in
/-- bids.set: a new map. -/
theorem set_calls (b0 b1 : Int) (A : Option Addr) (c : Nat) (xs : List Int) (w : World) (hr : Kd.C (Kd.int .i64) w A xs.length xs) :
    Calls Try.prog 46 #[.agg #[.int .i64 b0, .int .i64 b1, .slice A xs.length c]] w (fun e w' => ∃ b, e = .returned (.map (some b)) ∧ IsSet w' b xs ∧ w.heap.size ≤ b ∧ Below w.heap.size w w') := by
  have hl : xs.length ≤ 9223372036854775807 := hr.2.1
  have hmm := @run_makeMap Try.prog
  go_enter Try.func46, Try.ntmps46
  go_wp2
  have hset0 : IsSet ((w.alloc (.cells #[.int .i64 b0, .int .i64 b1, .slice A xs.length c] 38)).alloc (.map #[] 0)) (w.heap.size + 1) [] :=
    ⟨[], ⟨#[], 0, by simpa using heap_alloc_new (w.alloc (.cells #[.int .i64 b0, .int .i64 b1, .slice A xs.length c] 38)) (.map #[] 0), rfl, MapKept.stamped_empty 0⟩, fun k => rfl⟩
  have hB0 : Below w.heap.size w ((w.alloc (.cells #[.int .i64 b0, .int .i64 b1, .slice A xs.length c] 38)).alloc (.map #[] 0)) := ((Below.refl _ w).alloc (Nat.le_refl _) _).alloc (by simp) _
  go_loopw [10] (fun i wr => ∃ k : Nat, k ≤ xs.length ∧ i = .int .i64 k ∧ Aside0 (IsSet wr (w.heap.size + 1) (xs.take k)) ∧ Aside0 (Below w.heap.size w wr)) (fun i _ => xs.length - (intOf i).toNat)
  case atStart => exact ⟨0, by omega, rfl, ⟨by simpa using hset0⟩, ⟨hB0⟩⟩
  case round =>
    clear hset0 hB0
    obtain ⟨k, hk, rfl, hS, hB⟩ := hrel
    by_cases hlt : k < xs.length
    · obtain ⟨ad, e, hcell⟩ := Kd.at_int (Kd.C_below hr hB.out) k (by omega) (by omega)
      subst e; rw [Int.toNat_natCast] at hcell
      obtain ⟨m, him, hm⟩ := hS.out
      have hm' := Aside0.mk (set_snoc (x := rd xs k) hm)
      obtain ⟨w', hrun, him', hot⟩ := run_upd (P := Try.prog) wr (w.heap.size + 1) m (rd xs k) (.bool true) Try.underlying73 Try.underlying3 him
      have Him := Aside0.mk him'
      have Hot := Aside0.mk hot
      clear hm him him' hot
      have hts : xs.take (k + 1) = xs.take k ++ [rd xs k] := by rw [List.take_succ_eq_append_getElem hlt]; simp [rd, List.getD, hlt]
      have Hts := Aside0.mk hts
      clear hts hr
      go_wp2
      go_roundw
      case rel => exact ⟨k + 1, by omega, by go_num, ⟨by rw [Hts.out]; exact ⟨_, Him.out, hm'.out⟩⟩, ⟨hB.out.trans (Hot.out.below (by omega))⟩⟩
      case measure => simp [intOf]; omega
    · obtain rfl : k = xs.length := by omega
      go_wp2
      go_ret
      exact ⟨w.heap.size + 1, rfl, by simpa using hS.out, by omega, hB.out⟩
set_option maxHeartbeats 1000000 in
/-- The closure of Conflict: is x in the set? -/
theorem conflict1_calls (x : Int) (W : World) (bc b : Nat) (xs : List Int) (hc : W.cell? ⟨bc, 0, none⟩ = some (.map (some b))) (hs : IsSet W b xs) :
    Calls Try.prog 48 #[.int .i64 x, .pointer (some ⟨bc, 0, none⟩)] W (fun e W' => e = .returned (.bool (xs.contains x)) ∧ Below W.heap.size W W') := by
  obtain ⟨m, him, hm⟩ := hs
  have hrun := run_look (P := Try.prog) W b m x Try.underlying73 Try.underlying3 him (.bool false) zero_bool
  rw [hm x] at hrun
  generalize xs.contains x = r at *
  clear him hm
  go_enter Try.func48, Try.ntmps48
  go_wp2
  go_ret
  exact ⟨rfl, Below.refl _ _⟩
theorem enter_conflict1 : ∀ args w, (callFunc 48 args).run Try.prog w = .ok (.enter 48 args) w := fun args w => by kernel_rfl
/-- What lay before lies as it lay. -/
theorem bcell {W w1 : World} (hb : Below W.heap.size W w1) : (∀ b o, b < W.heap.size → w1.cell? ⟨b, o, none⟩ = W.cell? ⟨b, o, none⟩) ∧ (∀ b o, b < W.heap.size → w1.frozen? ⟨b, o, none⟩ = W.frozen? ⟨b, o, none⟩) :=
  ⟨fun b o h => hb.cell (p := ⟨b, o, none⟩) h, fun b o h => hb.frozen (p := ⟨b, o, none⟩) h⟩
set_option maxHeartbeats 1000000 in
/-- bids.Conflict. -/
theorem bids_Conflict.calls (a0_0 : Int) (a0_1 : Int) (A0_2 : Option Addr) (c0_2 : Nat) (l0_2 : List Int) (a1_0 : Int) (a1_1 : Int) (A1_2 : Option Addr) (c1_2 : Nat) (l1_2 : List Int) (r : Bool) (w : World) (hr0_2 : Kd.C (Kd.int .i64) w A0_2 l0_2.length l0_2) (hc0_2 : l0_2.length ≤ c0_2) (hr1_2 : Kd.C (Kd.int .i64) w A1_2 l1_2.length l1_2) (hc1_2 : l1_2.length ≤ c1_2) (h : bids_Conflict.f a0_0 a0_1 l0_2 a1_0 a1_1 l1_2 = some r) :
    Calls Try.prog 18 #[.agg #[.int .i64 a0_0, .int .i64 a0_1, .slice A0_2 l0_2.length c0_2], .agg #[.int .i64 a1_0, .int .i64 a1_1, .slice A1_2 l1_2.length c1_2]] w fun e w' => e = .returned (.bool r) ∧ Below w.heap.size w w' := by
  obtain rfl := Option.some.inj h
  clear h
  simp only [conf]
  have Hset := fun W (hW : Below w.heap.size w W) => set_calls a0_0 a0_1 A0_2 c0_2 l0_2 W (Kd.C_below hr0_2 hW)
  have HS := Aside0.mk Hset
  clear Hset
  by_cases hb : a0_0 = a1_0
  · subst hb
    simp only [BEq.rfl, Bool.true_or]
    go_enter Try.func18, Try.ntmps18
    go_wp2_with fail
    refine (HS.out _ (((Below.refl _ w).alloc (Nat.le_refl _) _).alloc (by simp) _)).mono ?_
    rintro e w1 ⟨b, rfl, hs, hge, hb1⟩
    obtain ⟨hc, hf⟩ := bcell hb1
    have hz : w.heap.size + 1 < w1.heap.size := by have := hb1.size; simp at this; omega
    have hz0 : w.heap.size < w1.heap.size := by omega
    clear hs hge
    go_wp2
    go_ret
    exact ⟨rfl, ((((Below.refl _ w).alloc (Nat.le_refl _) _).alloc (by simp) _).trans (hb1.mono (by simp; omega))).alloc (by omega) _⟩
  · have hbf : (a0_0 == a1_0) = false := by simpa using hb
    rw [hbf, Bool.false_or]
    clear hb
    go_enter Try.func18, Try.ntmps18
    go_wp2_with fail
    refine (HS.out _ (((Below.refl _ w).alloc (Nat.le_refl _) _).alloc (by simp) _)).mono ?_
    rintro e w1 ⟨b, rfl, hs, hge, hb1⟩
    have hBw : Below w.heap.size w w1 := (((Below.refl _ w).alloc (Nat.le_refl _) _).alloc (by simp) _).trans (hb1.mono (by simp; omega))
    obtain ⟨hc, hf⟩ := bcell hb1
    have hz : w.heap.size + 1 < w1.heap.size := by have := hb1.size; simp at this; omega
    have hz0 : w.heap.size < w1.heap.size := by omega
    have hC : Kd.C (Kd.int .i64) (w1.alloc (.cells #[.map (some b)] 73)) A1_2 l1_2.length l1_2 := Kd.C_below hr1_2 (hBw.alloc (by omega) _)
    have hbl : b < w1.heap.size := by obtain ⟨m, him, _⟩ := hs; exact him.lt
    have Hcf := Aside0.mk (containsFunc_calls 48 #[.pointer (some ⟨w1.heap.size, 0, none⟩)] (fun x => l0_2.contains x) A1_2 c1_2 l1_2 _ hC enter_conflict1 (fun x W' _ hW' => conflict1_calls x W' w1.heap.size b l0_2
      ((hW'.cell (p := ⟨w1.heap.size, 0, none⟩) (by simp)).trans ((blk_cell (heap_alloc_new w1 _) 0).trans rfl))
      (by obtain ⟨m, him, hm⟩ := hs; exact ⟨m, him.keeps ((hW'.block b (by simp; omega)).trans (Below.heap_alloc w1 _ b hbl)), hm⟩)))
    clear hs hge hC
    obtain ⟨r0, hr0⟩ : ∃ r0, (l1_2.any fun x => l0_2.contains x) = r0 := ⟨_, rfl⟩
    rw [hr0] at Hcf
    have Hr0 := Aside0.mk hr0
    clear hr0
    go_wp2_with fail
    refine Hcf.out.mono ?_
    rintro e w2 ⟨rfl, hb2⟩
    go_wp2
    go_ret
    exact ⟨by rw [Hr0.out]; rfl, (hBw.alloc (by omega) _).trans (hb2.mono (by simp; omega))⟩
end Go.Proofs.Ytdbpdkmnnlippaa.H

/- bids.useless. -/
namespace Go.Proofs.Ytdbpdkmnnlippaa.H
open Go.RowKit Go.Proofs.YtdbpdkmnnlippaaW.PrintWords Go.Proofs.YtdbpdkmnnlippaaW.PrintLast Go.Proofs.YtdbpdkmnnlippaaW.PrintMore
set_option linter.unusedVariables false
set_option linter.unusedSimpArgs false
set_option maxHeartbeats 1000000 in
/-- The closure of useless: is x not in the set? -/
theorem useless1_calls (x : Int) (W : World) (bc b : Nat) (xs : List Int) (hc : W.cell? ⟨bc, 0, none⟩ = some (.map (some b))) (hs : IsSet W b xs) :
    Calls Try.prog 62 #[.int .i64 x, .pointer (some ⟨bc, 0, none⟩)] W (fun e W' => e = .returned (.bool (!xs.contains x)) ∧ Below W.heap.size W W') := by
  obtain ⟨m, him, hm⟩ := hs
  have hrun := run_look (P := Try.prog) W b m x Try.underlying73 Try.underlying3 him (.bool false) zero_bool
  rw [hm x] at hrun
  generalize xs.contains x = r at *
  clear him hm
  go_enter Try.func62, Try.ntmps62
  go_wp2
  go_ret
  exact ⟨rfl, Below.refl _ _⟩
theorem enter_useless1 : ∀ args w, (callFunc 62 args).run Try.prog w = .ok (.enter 62 args) w := fun args w => by kernel_rfl
set_option maxHeartbeats 1000000 in
set_option maxRecDepth 100000 in
theorem bids_useless.calls (A0 : Option Addr) (c0 : Nat) (l0 : List S38) (a1 a2 : Int) (r : Bool) (w : World) (hr0 : Kd.C k38 w A0 l0.length l0) (hc0 : l0.length ≤ c0) (h : bids_useless.f l0 a1 a2 = some r) :
    Calls Try.prog 50 #[.slice A0 l0.length c0, .int .i64 a1, .int .i64 a2] w fun e w' => e = .returned (.bool r) ∧ Below w.heap.size w w' := by
  by_cases hin : 0 ≤ a1 ∧ a1 < l0.length ∧ 0 ≤ a2 ∧ a2 < l0.length
  case neg => simp [bids_useless.f, hin] at h
  obtain rfl : uselessP l0 a1 a2 = r := by simpa [bids_useless.f, hin] using h
  clear h
  obtain ⟨h10, h11, h20, h21⟩ := hin
  obtain ⟨ad, A2, c2, e, g0, g1, g2, hl2, hk2⟩ := at_T38 hr0 a1 h10 (by omega)
  obtain ⟨ad', A3, c3, e', g0', g1', g2', hl3, hk3⟩ := at_T38 hr0 a2 h20 (by omega)
  rw [e] at e'; cases e'; subst e
  have Hk2 := Aside0.mk hk2
  have Hk3 := Aside0.mk hk3
  have Hl2 := Aside0.mk hl2
  have Hl3 := Aside0.mk hl3
  clear hk2 hk3 hl2 hl3 hr0
  have hal : ∀ (w : World) (o : Obj) (p : Addr) (v : Value), w.cell? p = some v → (w.alloc o).cell? p = some v := fun w o p v hp => (((Below.refl _ w).alloc (Nat.le_refl _) o).cell (p := p) (World.block_lt_of_cell? w _ hp)).trans hp
  have k10 := fun o => hal w o _ _ g0
  have k11 := fun o => hal w o _ _ g1
  have k12 := fun o => hal w o _ _ g2
  have k20 := fun o => hal w o _ _ g0'
  have k21 := fun o => hal w o _ _ g1'
  have k22 := fun o => hal w o _ _ g2'
  have m10 := fun o o' => hal _ o' _ _ (hal w o _ _ g0)
  have m11 := fun o o' => hal _ o' _ _ (hal w o _ _ g1)
  have m12 := fun o o' => hal _ o' _ _ (hal w o _ _ g2)
  have m20 := fun o o' => hal _ o' _ _ (hal w o _ _ g0')
  have m21 := fun o o' => hal _ o' _ _ (hal w o _ _ g1')
  have m22 := fun o o' => hal _ o' _ _ (hal w o _ _ g2')
  clear hal
  go_enter Try.func50, Try.ntmps50
  go_wp2
  go_region
  all_goals
    generalize hz : World.drew _ = wz
    have hB : Below w.heap.size w wz := by
      rw [← hz]
      exact below_drew (((Below.refl _ w).alloc (Nat.le_refl _) _).alloc (by simp) _)
    first
      | have h7 : wz.heap[w.heap.size]? = some (.cells #[.int .i64 (rd_T38 l0 a1).f0, .int .i64 (rd_T38 l0 a1).f1, .slice A2 (rd_T38 l0 a1).f2.length c2] 38 (0, 0)) := by
          rw [← hz]
          exact (Below.heap_alloc _ _ _ (by simp)).trans (heap_alloc_new w _)
      | have h7 : wz.heap[w.heap.size + 1]? = some (.cells #[.int .i64 (rd_T38 l0 a1).f0, .int .i64 (rd_T38 l0 a1).f1, .slice A2 (rd_T38 l0 a1).f2.length c2] 38 (0, 0)) := by
          have h_ := heap_alloc_new (w.alloc (.cells #[.int .i64 (rd_T38 l0 a2).f0, .int .i64 (rd_T38 l0 a2).f1, .slice A3 (rd_T38 l0 a2).f2.length c3] 38)) (.cells #[.int .i64 (rd_T38 l0 a1).f0, .int .i64 (rd_T38 l0 a1).f1, .slice A2 (rd_T38 l0 a1).f2.length c2] 38)
          rw [World.size_alloc] at h_
          rw [← hz]
          exact h_
    first
      | have h8 : wz.heap[w.heap.size]? = some (.cells #[.int .i64 (rd_T38 l0 a2).f0, .int .i64 (rd_T38 l0 a2).f1, .slice A3 (rd_T38 l0 a2).f2.length c3] 38 (0, 0)) := by
          rw [← hz]
          exact (Below.heap_alloc _ _ _ (by simp)).trans (heap_alloc_new w _)
      | have h8 : wz.heap[w.heap.size + 1]? = some (.cells #[.int .i64 (rd_T38 l0 a2).f0, .int .i64 (rd_T38 l0 a2).f1, .slice A3 (rd_T38 l0 a2).f2.length c3] 38 (0, 0)) := by
          have h_ := heap_alloc_new (w.alloc (.cells #[.int .i64 (rd_T38 l0 a1).f0, .int .i64 (rd_T38 l0 a1).f1, .slice A2 (rd_T38 l0 a1).f2.length c2] 38)) (.cells #[.int .i64 (rd_T38 l0 a2).f0, .int .i64 (rd_T38 l0 a2).f1, .slice A3 (rd_T38 l0 a2).f2.length c3] 38)
          rw [World.size_alloc] at h_
          rw [← hz]
          exact h_
    clear hz k10 k11 k12 k20 k21 k22 m10 m11 m12 m20 m21 m22 g0 g1 g2 g0' g1' g2'
    have c70 := blk_cell h7 0
    have c80 := blk_cell h8 0
    have c71 := blk_cell h7 1
    have c81 := blk_cell h8 1
    have c72 := blk_cell h7 2
    have c82 := blk_cell h8 2
    simp only [List.getElem?_toArray, List.getElem?_cons_succ, List.getElem?_cons_zero] at c70 c71 c72 c80 c81 c82
    have hres : uselessP l0 a1 a2 = (!((a1 == a2) || (rd_T38 l0 a1).f0 != (rd_T38 l0 a2).f0 || decide ((rd_T38 l0 a2).f1 < (rd_T38 l0 a1).f1) || ((rd_T38 l0 a2).f1 == (rd_T38 l0 a1).f1 && decide (a1 < a2))) && !((rd_T38 l0 a2).f2.any fun k => !(rd_T38 l0 a1).f2.contains k)) := rfl
    have Hxs := Hk2.out
    have Hys := Hk3.out
    clear Hk2 Hk3 Hl2 Hl3
    generalize (rd_T38 l0 a1).f0 = x0 at *
    generalize (rd_T38 l0 a1).f1 = x1 at *
    generalize (rd_T38 l0 a1).f2 = xs at *
    generalize (rd_T38 l0 a2).f0 = y0 at *
    generalize (rd_T38 l0 a2).f1 = y1 at *
    generalize (rd_T38 l0 a2).f2 = ys at *
    have Hk2 := Aside0.mk Hxs
    have Hk3 := Aside0.mk Hys
    have H7 := Aside0.mk h7
    have H8 := Aside0.mk h8
    have HB := Aside0.mk hB
    clear Hxs Hys h7 h8 hB h10 h11 h20 h21 hc0
    cases d1 : (a1 == a2)
    · cases d2 : (x0 != y0)
      · cases d3 : decide (y1 < x1)
        · cases d4 : (y1 == x1)
          · rw [d1, d2, d3, d4] at hres
            simp only [Bool.or_self, Bool.false_and, Bool.not_false, Bool.true_and] at hres
            have Hres := Aside0.mk hres
            have hcs := set_calls x0 x1 A2 c2 xs wz (Kd.C_below Hk2.out HB.out)
            have Hcs := Aside0.mk hcs
            have l8 := blk_lt H8.out
            clear hres hcs
            go_wp2_with fail
            refine Hcs.out.mono ?_
            rintro e w1 ⟨b, rfl, hs, hge, hb1⟩
            have hBw : Below w.heap.size w w1 := HB.out.trans (hb1.mono HB.out.size)
            have h81 := (hb1.block _ l8).trans H8.out
            have hC : Kd.C (Kd.int .i64) (w1.alloc (.cells #[.map (some b)] 73)) A3 ys.length ys := Kd.C_below Hk3.out (hBw.alloc hBw.size _)
            have hbl : b < w1.heap.size := by obtain ⟨m, him, _⟩ := hs; exact him.lt
            have Hcf := Aside0.mk (containsFunc_calls 62 #[.pointer (some ⟨w1.heap.size, 0, none⟩)] (fun x => !xs.contains x) A3 c3 ys _ hC enter_useless1 (fun x W' _ hW' => useless1_calls x W' w1.heap.size b xs
              ((hW'.cell (p := ⟨w1.heap.size, 0, none⟩) (by simp)).trans ((blk_cell (heap_alloc_new w1 _) 0).trans rfl))
              (by obtain ⟨m, him, hm⟩ := hs; exact ⟨m, him.keeps ((hW'.block b (by simp; omega)).trans (Below.heap_alloc w1 _ b hbl)), hm⟩)))
            have c82' := blk_cell h81 2
            simp only [List.getElem?_toArray, List.getElem?_cons_succ, List.getElem?_cons_zero] at c82'
            have HBw := Aside0.mk hBw
            have l81 := blk_lt h81
            clear hs hge hC c70 c71 c72 c80 c81 c82 hb1 hBw h81
            obtain ⟨r0, hr0⟩ : ∃ r0, (ys.any fun x => !xs.contains x) = r0 := ⟨_, rfl⟩
            rw [hr0] at Hcf Hres
            clear hr0
            go_wp2_with fail
            refine Hcf.out.mono ?_
            rintro e w2 ⟨rfl, hb2⟩
            go_wp2
            go_ret
            exact ⟨by rw [Hres.out]; rfl, (HBw.out.alloc HBw.out.size _).trans (hb2.mono (by have := HBw.out.size; simp; omega))⟩
          · cases d5 : decide (a1 < a2)
            · rw [d1, d2, d3, d4, d5] at hres
              simp only [Bool.or_self, Bool.and_false, Bool.not_false, Bool.true_and] at hres
              have Hres := Aside0.mk hres
              have hcs := set_calls x0 x1 A2 c2 xs wz (Kd.C_below Hk2.out HB.out)
              have Hcs := Aside0.mk hcs
              have l8 := blk_lt H8.out
              clear hres hcs
              go_wp2_with fail
              refine Hcs.out.mono ?_
              rintro e w1 ⟨b, rfl, hs, hge, hb1⟩
              have hBw : Below w.heap.size w w1 := HB.out.trans (hb1.mono HB.out.size)
              have h81 := (hb1.block _ l8).trans H8.out
              have hC : Kd.C (Kd.int .i64) (w1.alloc (.cells #[.map (some b)] 73)) A3 ys.length ys := Kd.C_below Hk3.out (hBw.alloc hBw.size _)
              have hbl : b < w1.heap.size := by obtain ⟨m, him, _⟩ := hs; exact him.lt
              have Hcf := Aside0.mk (containsFunc_calls 62 #[.pointer (some ⟨w1.heap.size, 0, none⟩)] (fun x => !xs.contains x) A3 c3 ys _ hC enter_useless1 (fun x W' _ hW' => useless1_calls x W' w1.heap.size b xs
                ((hW'.cell (p := ⟨w1.heap.size, 0, none⟩) (by simp)).trans ((blk_cell (heap_alloc_new w1 _) 0).trans rfl))
                (by obtain ⟨m, him, hm⟩ := hs; exact ⟨m, him.keeps ((hW'.block b (by simp; omega)).trans (Below.heap_alloc w1 _ b hbl)), hm⟩)))
              have c82' := blk_cell h81 2
              simp only [List.getElem?_toArray, List.getElem?_cons_succ, List.getElem?_cons_zero] at c82'
              have HBw := Aside0.mk hBw
              have l81 := blk_lt h81
              clear hs hge hC c70 c71 c72 c80 c81 c82 hb1 hBw h81
              obtain ⟨r0, hr0⟩ : ∃ r0, (ys.any fun x => !xs.contains x) = r0 := ⟨_, rfl⟩
              rw [hr0] at Hcf Hres
              clear hr0
              go_wp2_with fail
              refine Hcf.out.mono ?_
              rintro e w2 ⟨rfl, hb2⟩
              go_wp2
              go_ret
              exact ⟨by rw [Hres.out]; rfl, (HBw.out.alloc HBw.out.size _).trans (hb2.mono (by have := HBw.out.size; simp; omega))⟩
            · rw [d1, d2, d3, d4, d5] at hres
              simp only [Bool.or_true, Bool.and_self, Bool.not_true, Bool.false_and] at hres
              have Hres := Aside0.mk hres
              clear hres
              go_wp2
              go_ret
              exact ⟨by rw [Hres.out]; rfl, HB.out⟩
        · rw [d1, d2, d3] at hres
          simp only [Bool.or_true, Bool.true_or, Bool.not_true, Bool.false_and] at hres
          have Hres := Aside0.mk hres
          clear hres
          go_wp2
          go_ret
          exact ⟨by rw [Hres.out]; rfl, HB.out⟩
      · rw [d1, d2] at hres
        simp only [Bool.or_true, Bool.true_or, Bool.not_true, Bool.false_and] at hres
        have Hres := Aside0.mk hres
        clear hres
        go_wp2
        go_ret
        exact ⟨by rw [Hres.out]; rfl, HB.out⟩
    · rw [d1] at hres
      simp only [Bool.true_or, Bool.not_true, Bool.false_and] at hres
      have Hres := Aside0.mk hres
      clear hres
      go_wp2
      go_ret
      exact ⟨by rw [Hres.out]; rfl, HB.out⟩
end Go.Proofs.Ytdbpdkmnnlippaa.H

/- bids.Feasible. -/
namespace Go.Proofs.Ytdbpdkmnnlippaa.H
open Go.RowKit Go.Proofs.YtdbpdkmnnlippaaW.PrintWords Go.Proofs.YtdbpdkmnnlippaaW.PrintLast Go.Proofs.YtdbpdkmnnlippaaW.PrintMore
set_option linter.unusedVariables false
set_option linter.unusedSimpArgs false
set_option maxHeartbeats 1000000 in
set_option maxRecDepth 100000 in
/-- The closure that asks whether bid x conflicts with bid i. -/
theorem feasible1_calls (x i : Int) (W : World) (L I : Nat) (A : Option Addr) (c : Nat) (l : List S38) (hl : W.cell? ⟨L, 0, none⟩ = some (.slice A l.length c)) (hi : W.cell? ⟨I, 0, none⟩ = some (.int .i64 i))
    (hr : Kd.C k38 W A l.length l) (hx0 : 0 ≤ x) (hx : x < l.length) (hi0 : 0 ≤ i) (hil : i < l.length) :
    Calls Try.prog 49 #[.int .i64 x, .pointer (some ⟨L, 0, none⟩), .pointer (some ⟨I, 0, none⟩)] W (fun e W' => e = .returned (.bool (conf (rd_T38 l x) (rd_T38 l i))) ∧ Below W.heap.size W W') := by
  obtain ⟨ad, A2, c2, e, h0, h1, h2, hl2, hk2⟩ := at_T38 hr x hx0 (by omega)
  obtain ⟨ad', A3, c3, e', h0', h1', h2', hl3, hk3⟩ := at_T38 hr i hi0 (by omega)
  rw [e] at e'; cases e'; subst e
  have Hk2 := Aside0.mk hk2
  have Hk3 := Aside0.mk hk3
  have Hl2 := Aside0.mk hl2
  have Hl3 := Aside0.mk hl3
  clear hk2 hk3 hl2 hl3 hr
  go_enter Try.func49, Try.ntmps49
  go_wp2
  go_still_tail 8, (by kernel_rfl)
  change wpList _ _ _ _ _ W.drew
  go_wp2_with fail
  refine (bids_Conflict.calls _ _ _ _ _ _ _ _ _ _ _ W.drew (Kd.C_drew Hk2.out) Hl2.out (Kd.C_drew Hk3.out) Hl3.out rfl).mono ?_
  rintro e w1 ⟨rfl, hb1⟩
  obtain ⟨r0, hr0⟩ : ∃ r0, conf ⟨(rd_T38 l x).f0, (rd_T38 l x).f1, (rd_T38 l x).f2⟩ ⟨(rd_T38 l i).f0, (rd_T38 l i).f1, (rd_T38 l i).f2⟩ = r0 := ⟨_, rfl⟩
  rw [hr0]
  have Hr0 := Aside0.mk hr0
  clear hr0
  go_wp2
  go_ret
  exact ⟨by rw [← Hr0.out]; rfl, ⟨hb1.os, hb1.tape, hb1.output, hb1.size, hb1.block⟩⟩
theorem enter_feasible1 : ∀ args w, (callFunc 49 args).run Try.prog w = .ok (.enter 49 args) w := fun args w => by kernel_rfl
set_option maxHeartbeats 2000000 in
set_option maxRecDepth 100000 in
theorem bids_Feasible.calls (A0 : Option Addr) (c0 : Nat) (l0 : List S38) (A1 : Option Addr) (c1 : Nat) (l1 : List Int) (r : Bool) (w : World) (hr0 : Kd.C k38 w A0 l0.length l0) (hc0 : l0.length ≤ c0) (hr1 : Kd.C (Kd.int .i64) w A1 l1.length l1) (hc1 : l1.length ≤ c1) (h : bids_Feasible.f l0 l1 = some r) :
    Calls Try.prog 21 #[.slice A0 l0.length c0, .slice A1 l1.length c1] w fun e w' => e = .returned (.bool r) ∧ Below w.heap.size w w' := by
  obtain rfl : feasP l0 [] l1 = r := Option.some.inj h
  clear h
  have hl0 : l0.length ≤ 9223372036854775807 := Kd.C_max hr0
  have hl1 : l1.length ≤ 9223372036854775807 := Kd.C_max hr1
  have Hr0 := Aside0.mk hr0
  have Hr1 := Aside0.mk hr1
  clear hr0 hr1
  go_enter Try.func21, Try.ntmps21
  go_wp2
  have hB0 : Below w.heap.size w (w.alloc (.cells #[.slice A0 l0.length c0] 31)) := (Below.refl _ w).alloc (Nat.le_refl _) _
  have hL0 := heap_alloc_new w (.cells #[.slice A0 l0.length c0] 31)
  go_loopw [9] (fun i wr => ∃ m : Nat, m ≤ l1.length ∧ i = .int .i64 m ∧ Aside0 (feasP l0 [] l1 = feasP l0 (l1.take m) (l1.drop m)) ∧ Aside0 (∀ v ∈ l1.take m, 0 ≤ v ∧ v < l0.length) ∧ Aside0 (wr.heap[w.heap.size]? = some (.cells #[.slice A0 l0.length c0] 31)) ∧ Aside0 (Below w.heap.size w wr)) (fun i _ => l1.length - (intOf i).toNat)
  case atStart => exact ⟨0, by omega, rfl, ⟨by simp⟩, ⟨by simp⟩, ⟨hL0⟩, ⟨hB0⟩⟩
  case round =>
    clear hB0 hL0
    obtain ⟨m, hm, rfl, hF, hV, hL, hB⟩ := hrel
    by_cases hlt : m < l1.length
    · obtain ⟨ad, e, hcell⟩ := Kd.at_int (Kd.C_below Hr1.out hB.out) m (by omega) (by omega)
      subst e
      rw [Int.toNat_natCast] at hcell
      have hd : l1.drop m = rd l1 m :: l1.drop (m + 1) := by
        rw [List.drop_eq_getElem_cons hlt]
        simp [rd, List.getD, hlt]
      have hts : l1.take (m + 1) = l1.take m ++ [rd l1 m] := by rw [List.take_succ_eq_append_getElem hlt]; simp [rd, List.getD, hlt]
      obtain ⟨x, hx⟩ : ∃ x, rd l1 m = x := ⟨_, rfl⟩
      rw [hx] at hd hts hcell
      have Hd := Aside0.mk hd
      have Hts := Aside0.mk hts
      have Hx := Aside0.mk hx
      clear hd hts hx
      go_upto_region 4 with (first | ((with_reducible refine gate_dst (N := 6) rfl ?_); refine box_event ?hg (N := 6) ?hd (cs := #[.int .i64 0]) (t := 3) ?hr ?_; (case hd => rfl); (case hg => rfl); (case hr => first | (go_simp; done) | (go_simp; rfl)); intro gb hg w5 hbox hb5; (have hB5 := hB.out.trans (hb5.mono hB.out.size)); (have hL5 := (hb5.block _ (blk_lt hL.out)).trans hL.out); (have hgl : w.heap.size < gb := by rw [hg]; exact blk_lt hL.out); have HB5 := Aside0.mk hB5; have HL5 := Aside0.mk hL5; have Hbox := Aside0.mk hbox; have Hgl := Aside0.mk hgl; clear hB5 hL5 hb5 hg hgl; (have hcz0 := (blk_cell hbox 0).trans rfl); have hfz0 := blk_frozen hbox 0; clear hbox))
      (try simp only [Act.put, List.setIfInBounds_toArray, List.set_cons_zero, List.set_cons_succ])
      generalize hw6 : World.setCell _ _ _ = w6
      have hbk : w6.heap[gb]? = some (.cells #[.int .i64 x] 3 (0, 0)) := by
        rw [← hw6]
        exact blk_put (cs := #[.int .i64 0]) Hbox.out 0 _ rfl
      have hf6 : ∀ k, k ≠ gb → w6.heap[k]? = w5.heap[k]? := fun k hk => by
        rw [← hw6]
        exact Below.heap_setCell _ ⟨gb, 0, none⟩ _ k hk
      have hB6 : Below w.heap.size w w6 := by
        rw [← hw6]
        exact HB5.out.setCell (p := ⟨gb, 0, none⟩) (Nat.le_of_lt Hgl.out) _
      have hL6 := (hf6 w.heap.size (by have := Hgl.out; omega)).trans HL5.out
      have hcz0 : w6.cell? ⟨gb, 0, none⟩ = some (.int .i64 x) := (blk_cell hbk 0).trans rfl
      have hcL : w6.cell? ⟨w.heap.size, 0, none⟩ = some (.slice A0 l0.length c0) := (blk_cell hL6 0).trans rfl
      have HB6 := Aside0.mk hB6
      have HL6 := Aside0.mk hL6
      clear hw6 hf6 hbk hB6 hL6 Hbox HL5 HB5 hcell hfz0 hB hL
      have hstep := hF.out.trans (by rw [Hd.out])
      have Hstep := Aside0.mk hstep
      clear hF hstep
      by_cases p1 : x < 0
      · have d1 : decide (x < 0) = true := decide_eq_true p1
        have hres : feasP l0 [] l1 = false := Hstep.out.trans (by simp [feasP, p1])
        have Hres := Aside0.mk hres
        clear hres p1
        go_quiet (fail)
        have hB7 := pw_below_drewN HB6.out nq
        have HB7 := Aside0.mk hB7
        clear hB7
        generalize w6.drewN nq = w7 at *
        go_wp2
        go_ret
        exact ⟨by rw [Hres.out]; rfl, HB7.out⟩
      · have d1 : decide (x < 0) = false := decide_eq_false p1
        by_cases c2 : (l0.length : Int) ≤ x
        · have d2 : decide ((l0.length : Int) ≤ x) = true := decide_eq_true c2
          have hres : feasP l0 [] l1 = false := Hstep.out.trans (by simp [feasP, c2])
          have Hres := Aside0.mk hres
          clear hres p1 c2
          go_quiet (fail)
          have hB7 := pw_below_drewN HB6.out nq
          have HB7 := Aside0.mk hB7
          clear hB7
          generalize w6.drewN nq = w7 at *
          go_wp2
          go_ret
          exact ⟨by rw [Hres.out]; rfl, HB7.out⟩
        · have d2 : decide ((l0.length : Int) ≤ x) = false := decide_eq_false c2
          have hcont : ∀ w7, w7.heap = w6.heap → Below w.heap.size w w7 → True := fun _ _ _ => trivial
          by_cases c3 : m = 0
          · have d3 : decide ((0 : Int) < (m : Int)) = false := decide_eq_false (by omega)
            have d3' : decide (0 < m) = false := decide_eq_false (by omega)
            have Hc3 := Aside0.mk c3
            clear c3
            go_quiet (fail)
            have hcf := containsFunc_calls 49 #[.pointer (some ⟨w.heap.size, 0, none⟩), .pointer (some ⟨gb, 0, none⟩)] (fun v => conf (rd_T38 l0 v) (rd_T38 l0 x)) (some ad) c1 (l1.take m) (w6.drewN nq) (Kd.C_take (Kd.C_drewN (Kd.C_below Hr1.out HB6.out) nq) hm) enter_feasible1 (fun v W hv hW => feasible1_calls v x W w.heap.size gb A0 c0 l0 ((hW.cell (p := ⟨w.heap.size, 0, none⟩) (World.block_lt_of_cell? w6 _ hcL)).trans hcL) ((hW.cell (p := ⟨gb, 0, none⟩) (World.block_lt_of_cell? w6 _ hcz0)).trans hcz0) (Kd.C_below Hr0.out ((pw_below_drewN HB6.out nq).trans (hW.mono (pw_below_drewN HB6.out nq).size))) (hV.out v hv).1 (hV.out v hv).2 (by omega) (by omega))
            have hlen : (l1.take m).length = m := by rw [List.length_take]; omega
            rw [hlen] at hcf
            have hnext : feasP l0 [] l1 = if (l1.take m).any (fun v => conf (rd_T38 l0 v) (rd_T38 l0 x)) then false else feasP l0 (l1.take (m + 1)) (l1.drop (m + 1)) := by
              rw [Hstep.out, Hts.out]
              have hlast : (l1.take m).getLast? = none := by rw [Hc3.out]; rfl
              simp only [feasP, hlast]
              rw [if_neg (by simp [p1, c2])]
              rfl
            have hv' : ∀ v ∈ l1.take (m + 1), 0 ≤ v ∧ v < l0.length := by
              rw [Hts.out]
              intro v hv
              rcases List.mem_append.1 hv with h | h
              · exact hV.out v h
              · rw [List.mem_singleton] at h; subst h; omega
            have hB7 := pw_below_drewN HB6.out nq
            have hL7 : (w6.drewN nq).heap[w.heap.size]? = some (.cells #[.slice A0 l0.length c0] 31) := HL6.out
            have Hcf := Aside0.mk hcf
            have Hnext := Aside0.mk hnext
            have Hv' := Aside0.mk hv'
            have HB7 := Aside0.mk hB7
            have HL7 := Aside0.mk hL7
            have hmc : m ≤ c1 := by omega
            have hmc' : (m : Int) ≤ (c1 : Int) := by omega
            clear hcf hnext hv' hB7 hL7 hlen Hstep Hd Hts HB6 HL6 hcz0 hcL d1 d2 p1 c2 d3 d3'
            generalize w6.drewN nq = w7 at *
            cases hany : (l1.take m).any (fun v => conf (rd_T38 l0 v) (rd_T38 l0 x))
            all_goals
              rw [hany] at Hcf Hnext
              clear hany
              go_wp2_with fail
              refine Hcf.out.mono ?_
              rintro e w8 ⟨rfl, hb8⟩
              have HB8 := Aside0.mk (HB7.out.trans (hb8.mono HB7.out.size))
              have HL8 := Aside0.mk ((hb8.block _ (blk_lt HL7.out)).trans HL7.out)
              clear hb8 Hcf HB7 HL7
              go_wp2
            · go_roundw
              case rel => exact ⟨m + 1, by omega, by go_num, ⟨by rw [Hnext.out]; rfl⟩, Hv', ⟨HL8.out⟩, ⟨HB8.out⟩⟩
              case measure => simp [intOf]; omega
            · go_ret
              exact ⟨by rw [Hnext.out]; rfl, HB8.out⟩
          · have d3 : decide ((0 : Int) < (m : Int)) = true := decide_eq_true (by omega)
            have d3' : decide (0 < m) = true := decide_eq_true (by omega)
            obtain ⟨q, hq⟩ : ∃ q : Int, (m : Int) - 1 = q := ⟨_, rfl⟩
            have hw1 : IntKind.i64.wrap ((m : Int) - 1) = q := by rw [hq]; exact IntWalk.i64_in _ (by omega)
            have hi0 : (0 : Int) ≤ q := by omega
            have hi1 : q < (l1.length : Int) := by omega
            obtain ⟨ad2, e2, hcell2⟩ := Kd.at_int (Kd.C_below Hr1.out HB6.out) q hi0 hi1
            cases e2
            by_cases c4 : x ≤ rd l1 q
            · have d4 : decide (x ≤ rd l1 q) = true := decide_eq_true c4
              have hres : feasP l0 [] l1 = false := Hstep.out.trans (by
                have hlast : (l1.take m).getLast? = some (rd l1 q) := by
                  rw [List.getLast?_eq_getElem?, List.length_take, Nat.min_eq_left hm, List.getElem?_take_of_lt (by omega), List.getElem?_eq_getElem (by omega)]
                  have : q.toNat = m - 1 := by omega
                  simp [rd, this, List.getD, show m - 1 < l1.length by omega]
                simp [feasP, hlast, c4])
              have Hq := Aside0.mk hq
              clear hq
              have Hres := Aside0.mk hres
              clear hres p1 c2 c4
              go_quiet (fail)
              have hB7 := pw_below_drewN HB6.out nq
              have HB7 := Aside0.mk hB7
              clear hB7
              generalize w6.drewN nq = w7 at *
              go_wp2
              go_ret
              exact ⟨by rw [Hres.out]; rfl, HB7.out⟩
            · have d4 : decide (x ≤ rd l1 q) = false := decide_eq_false c4
              have Hq := Aside0.mk hq
              have Hhi := Aside0.mk (show q.toNat = m - 1 by omega)
              clear hq
              go_quiet (fail)
              have hcf := containsFunc_calls 49 #[.pointer (some ⟨w.heap.size, 0, none⟩), .pointer (some ⟨gb, 0, none⟩)] (fun v => conf (rd_T38 l0 v) (rd_T38 l0 x)) (some ad) c1 (l1.take m) (w6.drewN nq) (Kd.C_take (Kd.C_drewN (Kd.C_below Hr1.out HB6.out) nq) hm) enter_feasible1 (fun v W hv hW => feasible1_calls v x W w.heap.size gb A0 c0 l0 ((hW.cell (p := ⟨w.heap.size, 0, none⟩) (World.block_lt_of_cell? w6 _ hcL)).trans hcL) ((hW.cell (p := ⟨gb, 0, none⟩) (World.block_lt_of_cell? w6 _ hcz0)).trans hcz0) (Kd.C_below Hr0.out ((pw_below_drewN HB6.out nq).trans (hW.mono (pw_below_drewN HB6.out nq).size))) (hV.out v hv).1 (hV.out v hv).2 (by omega) (by omega))
              have hlen : (l1.take m).length = m := by rw [List.length_take]; omega
              rw [hlen] at hcf
              have hnext : feasP l0 [] l1 = if (l1.take m).any (fun v => conf (rd_T38 l0 v) (rd_T38 l0 x)) then false else feasP l0 (l1.take (m + 1)) (l1.drop (m + 1)) := by
                rw [Hstep.out, Hts.out]
                have hlast : (l1.take m).getLast? = some (rd l1 q) := by
                  rw [List.getLast?_eq_getElem?, List.length_take, Nat.min_eq_left hm, List.getElem?_take_of_lt (by omega), List.getElem?_eq_getElem (by omega)]
                  simp [rd, Hhi.out, List.getD, show m - 1 < l1.length by omega]
                simp only [feasP, hlast]
                rw [if_neg (by simp [p1, c2, c4])]
                rfl
              have hv' : ∀ v ∈ l1.take (m + 1), 0 ≤ v ∧ v < l0.length := by
                rw [Hts.out]
                intro v hv
                rcases List.mem_append.1 hv with h | h
                · exact hV.out v h
                · rw [List.mem_singleton] at h; subst h; omega
              have hB7 := pw_below_drewN HB6.out nq
              have hL7 : (w6.drewN nq).heap[w.heap.size]? = some (.cells #[.slice A0 l0.length c0] 31) := HL6.out
              have Hcf := Aside0.mk hcf
              have Hnext := Aside0.mk hnext
              have Hv' := Aside0.mk hv'
              have HB7 := Aside0.mk hB7
              have HL7 := Aside0.mk hL7
              have hmc : m ≤ c1 := by omega
              have hmc' : (m : Int) ≤ (c1 : Int) := by omega
              clear hcf hnext hv' hB7 hL7 hlen Hstep Hd Hts HB6 HL6 hcz0 hcL hcell2 hw1 hi0 hi1 d4 c4 d1 d2 p1 c2
              generalize w6.drewN nq = w7 at *
              cases hany : (l1.take m).any (fun v => conf (rd_T38 l0 v) (rd_T38 l0 x))
              all_goals
                rw [hany] at Hcf Hnext
                clear hany
                go_wp2_with fail
                refine Hcf.out.mono ?_
                rintro e w8 ⟨rfl, hb8⟩
                have HB8 := Aside0.mk (HB7.out.trans (hb8.mono HB7.out.size))
                have HL8 := Aside0.mk ((hb8.block _ (blk_lt HL7.out)).trans HL7.out)
                clear hb8 Hcf HB7 HL7
                go_wp2
              · go_roundw
                case rel => exact ⟨m + 1, by omega, by go_num, ⟨by rw [Hnext.out]; rfl⟩, Hv', ⟨HL8.out⟩, ⟨HB8.out⟩⟩
                case measure => simp [intOf]; omega
              · go_ret
                exact ⟨by rw [Hnext.out]; rfl, HB8.out⟩
    · obtain rfl : m = l1.length := by omega
      rw [List.drop_length] at hF
      have hF' : feasP l0 [] l1 = true := hF.out.trans (by simp [feasP])
      have HF' := Aside0.mk hF'
      clear hF hF' hlt
      go_wp2
      go_ret
      exact ⟨by rw [HF'.out]; rfl, hB.out⟩
end Go.Proofs.Ytdbpdkmnnlippaa.H

/- bids.Parts: what its recursive closure 'visit' does. -/
namespace Go.Proofs.Ytdbpdkmnnlippaa.H
open Go.RowKit Go.Proofs.YtdbpdkmnnlippaaW.PrintWords Go.Proofs.YtdbpdkmnnlippaaW.PrintLast Go.Proofs.YtdbpdkmnnlippaaW.PrintMore
set_option linter.unusedVariables false
set_option linter.unusedSimpArgs false

/-- How many are not seen. -/
def unseen (s : List Bool) : Nat := (s.filter fun b => !b).length
/-- The visit of bid i: what is seen, and the group. 'f': at least as many as are not seen. -/
def visitP (l : List S38) : Nat → Nat → List Bool × List Int → List Bool × List Int
  | 0, _, st => st
  | f + 1, i, st => (List.range l.length).foldl (fun st j => if !(st.1.getD j true) && conf (l.getD i z38) (l.getD j z38) then visitP l f j st else st) (st.1.set i true, st.2 ++ [(i : Int)])
/-- A round of the visit of i. -/
def vstep (l : List S38) (f i : Nat) (st : List Bool × List Int) (j : Nat) : List Bool × List Int := if !(st.1.getD j true) && conf (l.getD i z38) (l.getD j z38) then visitP l f j st else st
theorem vstep_seen {l : List S38} {f i j : Nat} {sn : List Bool} {gr : List Int} (h : sn.getD j true = true) : vstep l f i (sn, gr) j = (sn, gr) := by
  unfold vstep; rw [show (sn, gr).1 = sn from rfl, h]; rfl
theorem vstep_apart {l : List S38} {f i j : Nat} {st : List Bool × List Int} (h : conf (l.getD i z38) (l.getD j z38) = false) : vstep l f i st j = st := by
  unfold vstep; rw [h, Bool.and_false]; rfl
theorem vstep_in {l : List S38} {f i j : Nat} {sn : List Bool} {gr : List Int} (h : sn.getD j true = false) (h2 : conf (l.getD i z38) (l.getD j z38) = true) : vstep l f i (sn, gr) j = visitP l f j (sn, gr) := by
  unfold vstep; rw [show (sn, gr).1 = sn from rfl, h, h2]; rfl
theorem visit_succ (l : List S38) (f i : Nat) (st : List Bool × List Int) : visitP l (f + 1) i st = (List.range l.length).foldl (vstep l f i) (st.1.set i true, st.2 ++ [(i : Int)]) := rfl
theorem unseen_set (s : List Bool) (i : Nat) (h : s.getD i true = false) : unseen (s.set i true) + 1 = unseen s := by
  induction s generalizing i with
  | nil => simp [List.getD] at h
  | cons b s ih =>
    cases i with
    | zero =>
      simp only [List.getD, List.getElem?_cons_zero, Option.getD_some] at h
      subst h
      simp [unseen]
    | succ i =>
      have := ih i (by simpa [List.getD] using h)
      unfold unseen at this ⊢
      cases b <;> simp_all
/-- What holds of a state of the visit: one more in the group, one less not seen. -/
def Vis (l : List S38) (f n : Nat) (st : List Bool × List Int) : Prop := st.1.length = l.length ∧ unseen st.1 ≤ f ∧ st.2.length + unseen st.1 = n
theorem visit_vis (l : List S38) : ∀ (f i : Nat) (st : List Bool × List Int) (n : Nat), i < l.length → st.1.getD i true = false → Vis l f n st → Vis l f n (visitP l f i st) := by
  intro f
  induction f with
  | zero => intro i st n hi hs h; exact h
  | succ f ih =>
    intro i st n hi hs h
    have h0 : Vis l f n (st.1.set i true, st.2 ++ [(i : Int)]) := by
      have := unseen_set st.1 i hs
      refine ⟨by simpa using h.1, ?_, ?_⟩
      · have := h.2.1; simp only []; omega
      · have := h.2.2; simp only [List.length_append, List.length_cons, List.length_nil]; omega
    have h1 : ∀ (js : List Nat) (st : List Bool × List Int), (∀ j ∈ js, j < l.length) → Vis l f n st → Vis l f n (js.foldl (vstep l f i) st) := by
      intro js
      induction js with
      | nil => intro st _ h; exact h
      | cons j js ihj =>
        intro st hj h
        refine ihj _ (fun k hk => hj k (by simp [hk])) ?_
        unfold vstep
        split
        · rename_i hc
          simp only [Bool.and_eq_true, Bool.not_eq_true'] at hc
          exact ih j st n (hj j (by simp)) hc.1 h
        · exact h
    have h2 := h1 (List.range l.length) _ (fun j hj => List.mem_range.1 hj) h0
    rw [visit_succ]
    exact ⟨h2.1, Nat.le_succ_of_le h2.2.1, h2.2.2⟩

def vcaps (n : Nat) : Array Value := #[.pointer (some ⟨n + 2, 0, none⟩), .pointer (some ⟨n + 3, 0, none⟩), .pointer (some ⟨n, 0, none⟩), .pointer (some ⟨n + 4, 0, none⟩)]
/-- How the visits stand in W. w0: the world in which Parts was called. P: blocks that are not to be touched. -/
structure VSt (w0 : World) (A : Option Addr) (c : Nat) (l : List S38) (P : Nat → Prop) (W : World) (seen : List Bool) (grp : List Int) : Prop where
  below : Below w0.heap.size w0 W
  size : w0.heap.size + 5 ≤ W.heap.size
  hL : W.heap[w0.heap.size]? = some (.cells #[.slice A l.length c] 31 (0, 0))
  hSB : W.heap[w0.heap.size + 1]? = some (.cells (bools seen).toArray 4 (0, 0))
  hSV : W.heap[w0.heap.size + 2]? = some (.cells #[.slice (some ⟨w0.heap.size + 1, 0, none⟩) l.length l.length] 79 (0, 0))
  hV : W.heap[w0.heap.size + 4]? = some (.cells #[.func (.func 52) #[] (vcaps w0.heap.size)] 80 (0, 0))
  row : ∃ gv, W.heap[w0.heap.size + 3]? = some (.cells #[gv] 22 (0, 0)) ∧ Kd.R (Kd.int .i64) 3 W (w0.heap.size + 5) (fun k => ¬ P k) gv grp
  prot : ∀ k, P k → w0.heap.size + 5 ≤ k ∧ k < W.heap.size
section
variable {w0 : World} {A : Option Addr} {c : Nat} {l : List S38} {P : Nat → Prop} {W W' : World} {seen : List Bool} {grp : List Int}
theorem VSt.step (h : VSt w0 A c l P W seen grp) (hb : Below W.heap.size W W') : VSt w0 A c l P W' seen grp := by
  obtain ⟨gv, h1, h2⟩ := h.row
  have hs := h.size
  exact ⟨h.below.trans (hb.mono h.below.size), Nat.le_trans hs hb.size, (hb.block _ (by omega)).trans h.hL, (hb.block _ (by omega)).trans h.hSB, (hb.block _ (by omega)).trans h.hSV, (hb.block _ (by omega)).trans h.hV,
    ⟨gv, (hb.block _ (by omega)).trans h1, Kd.R_below h2 hb⟩, fun k hk => ⟨(h.prot k hk).1, Nat.lt_of_lt_of_le (h.prot k hk).2 hb.size⟩⟩
theorem VSt.mark (h : VSt w0 A c l P W seen grp) (i : Nat) : VSt w0 A c l P (W.setCell ⟨w0.heap.size + 1, i, none⟩ (.bool true)) (seen.set i true) grp ∧ (∀ k, P k → (W.setCell ⟨w0.heap.size + 1, i, none⟩ (.bool true)).heap[k]? = W.heap[k]?) ∧ W.heap.size ≤ (W.setCell ⟨w0.heap.size + 1, i, none⟩ (.bool true)).heap.size := by
  have hf : ∀ k, k ≠ w0.heap.size + 1 → (W.setCell ⟨w0.heap.size + 1, i, none⟩ (.bool true)).heap[k]? = W.heap[k]? := fun k hk => Below.heap_setCell W ⟨w0.heap.size + 1, i, none⟩ _ k hk
  have hB : Below (w0.heap.size + 1) W (W.setCell ⟨w0.heap.size + 1, i, none⟩ (.bool true)) := (Below.refl _ W).setCell (p := ⟨w0.heap.size + 1, i, none⟩) (Nat.le_refl _) _
  obtain ⟨gv, h1, h2⟩ := h.row
  have hs := h.size
  refine ⟨⟨h.below.trans (hB.mono (by omega)), Nat.le_trans hs hB.size, (hf _ (by omega)).trans h.hL, ?_, (hf _ (by omega)).trans h.hSV, (hf _ (by omega)).trans h.hV, ⟨gv, (hf _ (by omega)).trans h1, ?_⟩, fun k hk => ⟨(h.prot k hk).1, Nat.lt_of_lt_of_le (h.prot k hk).2 hB.size⟩⟩,
    fun k hk => hf k (by have := (h.prot k hk).1; omega), hB.size⟩
  · refine blk_put h.hSB i _ ?_
    simp [bools, List.map_set]
  · exact Kd.R_mono (Kd.R_far (Kd.R_bound h2) (fun k hk => by have := hk.2.1; show k ≠ w0.heap.size + 1; omega) _) (fun k hk => hk.1)
theorem VSt.push {gv vA : Value} {wA : World} {xs : List Int} (h : VSt w0 A c l P W seen grp) (hv : W.heap[w0.heap.size + 3]? = some (.cells #[gv] 22 (0, 0))) (hr : Kd.R (Kd.int .i64) 3 W (w0.heap.size + 5) (fun k => ¬ P k) gv grp)
    (hA : Kd.R (Kd.int .i64) 3 wA (w0.heap.size + 5) (fun k => ¬ P k) vA xs) (hg : W.grownBy wA gv.ownBlock) :
    VSt w0 A c l P (wA.setCell ⟨w0.heap.size + 3, 0, none⟩ vA) seen xs ∧ (∀ k, P k → (wA.setCell ⟨w0.heap.size + 3, 0, none⟩ vA).heap[k]? = W.heap[k]?) ∧ W.heap.size ≤ (wA.setCell ⟨w0.heap.size + 3, 0, none⟩ vA).heap.size := by
  have hf : ∀ k, k ≠ w0.heap.size + 3 → (wA.setCell ⟨w0.heap.size + 3, 0, none⟩ vA).heap[k]? = wA.heap[k]? := fun k hk => Below.heap_setCell wA ⟨w0.heap.size + 3, 0, none⟩ _ k hk
  have hB : Below (w0.heap.size + 3) wA (wA.setCell ⟨w0.heap.size + 3, 0, none⟩ vA) := (Below.refl _ wA).setCell (p := ⟨w0.heap.size + 3, 0, none⟩) (Nat.le_refl _) _
  have hs := h.size
  have hlow : ∀ k, k < w0.heap.size + 5 → wA.heap[k]? = W.heap[k]? := fun k hk => hg.block k (by omega) (fun e => by have := Kd.R_base hr k e.symm; omega)
  have hP : ∀ k, P k → (wA.setCell ⟨w0.heap.size + 3, 0, none⟩ vA).heap[k]? = W.heap[k]? := fun k hk => (hf k (by have := (h.prot k hk).1; omega)).trans (hg.block k (h.prot k hk).2 (fun e => hr.1 k e.symm hk))
  have hsz : W.heap.size ≤ (wA.setCell ⟨w0.heap.size + 3, 0, none⟩ vA).heap.size := Nat.le_trans hg.size hB.size
  refine ⟨⟨⟨hg.os.trans h.below.os, hg.tape.trans h.below.tape, hg.output.trans h.below.output, Nat.le_trans h.below.size hsz, fun k hk => (hf k (by omega)).trans ((hlow k (by omega)).trans (h.below.block k hk))⟩, by omega,
    (hf _ (by omega)).trans ((hlow _ (by omega)).trans h.hL), (hf _ (by omega)).trans ((hlow _ (by omega)).trans h.hSB), (hf _ (by omega)).trans ((hlow _ (by omega)).trans h.hSV), (hf _ (by omega)).trans ((hlow _ (by omega)).trans h.hV),
    ⟨vA, by simpa using blk_set ((hlow _ (by omega)).trans hv) 0 vA, ?_⟩, fun k hk => ⟨(h.prot k hk).1, Nat.lt_of_lt_of_le (h.prot k hk).2 hsz⟩⟩, hP, hsz⟩
  exact Kd.R_mono (Kd.R_far (Kd.R_bound hA) (fun k hk => by have := hk.2.1; show k ≠ w0.heap.size + 3; omega) _) (fun k hk => hk.1)
end
theorem infoG : (Try.prog.info? 3).map (fun i => (i.zero, i.size, i.bytes)) = some (some (.int .i64 0), 1, 8) := by kernel_rfl
set_option maxHeartbeats 2000000 in
set_option maxRecDepth 100000 in
/-- The visit. -/
theorem visit_calls (w0 : World) (ad : Addr) (c : Nat) (l : List S38) (read : Kd.C k38 w0 (some ad) l.length l) (cap : l.length ≤ c) (big : l.length ≤ 1000000) (n : Nat) (hn : n ≤ l.length) :
    ∀ (f i : Nat) (seen : List Bool) (grp : List Int) (W : World) (P : Nat → Prop), i < l.length → seen.getD i true = false → Vis l f n (seen, grp) → VSt w0 (some ad) c l P W seen grp →
    Calls Try.prog 52 (#[.int .i64 (i : Int)] ++ vcaps w0.heap.size) W (fun e W' => e = .returned (.tuple #[]) ∧ VSt w0 (some ad) c l P W' (visitP l f i (seen, grp)).1 (visitP l f i (seen, grp)).2 ∧
      (∀ k, P k → W'.heap[k]? = W.heap[k]?) ∧ W.heap.size ≤ W'.heap.size) := by
  intro f
  induction f with
  | zero =>
    intro i seen grp W P hi hs hv hS
    exfalso
    have h1 := hv.2.1
    have h2 := unseen_set seen i hs
    simp only [] at h1
    omega
  | succ f ih =>
    intro i seen grp W P hi hs hv hS
    have hsl : seen.length = l.length := hv.1
    have hgl : grp.length ≤ 1000000 := by have h1 := hv.2.2; simp only [] at h1; omega
    have hv1 : Vis l f n (seen.set i true, grp ++ [(i : Int)]) := by
      have h1 := unseen_set seen i hs
      have h2 := hv.2.1
      have h3 := hv.2.2
      simp only [] at h2 h3
      exact ⟨by simpa using hsl, by simp only []; omega, by simp only [List.length_append, List.length_cons, List.length_nil]; omega⟩
    have hcSV : W.cell? ⟨w0.heap.size + 2, 0, none⟩ = some (.slice (some ⟨w0.heap.size + 1, 0, none⟩) l.length l.length) := (blk_cell hS.hSV 0).trans rfl
    have hfi : W.frozen? ⟨w0.heap.size + 1, i, none⟩ = false := blk_frozen hS.hSB i
    have hci : W.cell? ⟨w0.heap.size + 1, i, none⟩ = some (.bool false) := (blk_cell hS.hSB i).trans (by
      have : seen[i]? = some false := by
        have hil : i < seen.length := by omega
        simp only [List.getD, List.getElem?_eq_getElem hil, Option.getD_some] at hs
        rw [List.getElem?_eq_getElem hil, hs]
      simp [bools, this])
    obtain ⟨hS1, hP1, hz1⟩ := hS.mark i
    have Hfold : Aside0 (visitP l (f + 1) i (seen, grp) = (List.range l.length).foldl (vstep l f i) (seen.set i true, grp ++ [(i : Int)])) := ⟨rfl⟩
    have HS1 := Aside0.mk hS1
    have HP1 := Aside0.mk hP1
    have Hv1 := Aside0.mk hv1
    have Hs := Aside0.mk hs
    have Ih := Aside0.mk ih
    have hPs := hS.prot
    have HPs := Aside0.mk hPs
    clear hS1 hP1 hv1 hs ih hS hPs hv
    unfold vcaps
    go_enter Try.func52, Try.ntmps52
    go_upto_region 1 with (fail)
    generalize W.setCell ⟨w0.heap.size + 1, i, none⟩ (.bool true) = W1 at *
    clear hcSV hfi hci
    obtain ⟨gv, h1, h2⟩ := HS1.out.row
    obtain ⟨A2, c2, hgv⟩ := Kd.R_slice h2
    subst hgv
    have hcG : W1.cell? ⟨w0.heap.size + 3, 0, none⟩ = some (.slice A2 grp.length c2) := (blk_cell h1 0).trans rfl
    have hlG := World.block_lt_of_cell? W1 _ hcG
    have hw5 : w0.heap.size + 5 ≤ W1.heap.size := HS1.out.size
    have hfr : ∀ k, W1.heap.size ≤ k → ¬ P k := fun k hk hp => by have := (HPs.out k hp).2; omega
    have hpush : ∀ vA wA, Kd.R (Kd.int .i64) 3 wA (w0.heap.size + 5) (fun k => ¬ P k) vA (grp ++ [(i : Int)]) → W1.grownBy wA (Value.slice A2 grp.length c2).ownBlock →
        (∃ A3 c3, vA = .slice A3 (grp.length + 1) c3) ∧ wA.cell? ⟨w0.heap.size + 3, 0, none⟩ = some (.slice A2 grp.length c2) ∧ wA.frozen? ⟨w0.heap.size + 3, 0, none⟩ = false ∧
        Aside0 (VSt w0 (some ad) c l P (wA.setCell ⟨w0.heap.size + 3, 0, none⟩ vA) (seen.set i true) (grp ++ [(i : Int)]) ∧ (∀ k, P k → (wA.setCell ⟨w0.heap.size + 3, 0, none⟩ vA).heap[k]? = W1.heap[k]?) ∧ W1.heap.size ≤ (wA.setCell ⟨w0.heap.size + 3, 0, none⟩ vA).heap.size) := by
      intro vA wA ho hg
      obtain ⟨A3, c3, hvA⟩ := Kd.R_slice ho
      have hlow : wA.heap[w0.heap.size + 3]? = some (.cells #[.slice A2 grp.length c2] 22 (0, 0)) := (hg.block _ (by omega) (fun e_ => by have := Kd.R_base h2 _ e_.symm; omega)).trans h1
      exact ⟨⟨A3, c3, by rw [hvA]; simp⟩, (blk_cell hlow 0).trans rfl, blk_frozen hlow 0, ⟨HS1.out.push h1 h2 ho hg⟩⟩
    have Hpush := Aside0.mk hpush
    have Hfr := Aside0.mk hfr
    have H2 := Aside0.mk h2
    clear hpush hfr h1 h2 hlG
    go_upto_region 2 with (first | ((with_reducible refine gate_builtin (b := .append) (xs := #[.tmp 10, .tmp 12]) rfl ?_); at_builtin; refine Kd.R_append (Kd.int .i64) (w0 := W1) (w0.heap.size + 5) rfl (.tmp 10) (.tmp 12) 22 3 (.int .i64 0) 8 rfl Try.underlying22 infoG rfl (by decide) (by omega) (.slice A2 grp.length c2) grp (i : Int) [.int .i64 (i : Int)] (fun k => ¬ P k) (fun _ => False) rfl rfl ?aP (fun _ hk => hk.elim) ?aF ?aO ?aB ?aS ?aL ?_; (case aP => exact rfl); (case aB => exact Below.refl _ _); (case aF => exact Hfr.out); (case aO => exact H2.out); (case aS => exact hw5); (case aL => omega); intro vA wA ho hbA hgA hatA; obtain ⟨⟨A3, c3, rfl⟩, hcA, hfA, HA⟩ := Hpush.out vA wA ho hgA; clear ho hbA hgA hatA))
    obtain ⟨Wp, hWp⟩ : ∃ Wp, Wp = wA.setCell ⟨w0.heap.size + 3, 0, none⟩ (.slice A3 (grp.length + 1) c3) := ⟨_, rfl⟩
    rw [← hWp]
    rw [← hWp] at HA
    clear hWp hcA hfA hcG Hpush Hfr H2 HS1
    obtain ⟨hSp, hPp, hzp⟩ := HA.out
    have hcL : Wp.cell? ⟨w0.heap.size, 0, none⟩ = some (.slice (some ad) l.length c) := (blk_cell hSp.hL 0).trans rfl
    have HSp := Aside0.mk hSp
    have HPp := Aside0.mk (fun k hk => (hPp k hk).trans (HP1.out k hk))
    have hzp' : W.heap.size ≤ Wp.heap.size := Nat.le_trans hz1 hzp
    clear hSp hPp hzp HA HP1 hz1 hw5
    go_wp2
    go_loopw [16] (fun j wr => ∃ m : Nat, m ≤ l.length ∧ j = .int .i64 m ∧ Aside0 (∃ sn gr, (List.range m).foldl (vstep l f i) (seen.set i true, grp ++ [(i : Int)]) = (sn, gr) ∧ VSt w0 (some ad) c l P wr sn gr ∧ Vis l f n (sn, gr)) ∧ Aside0 (∀ k, P k → wr.heap[k]? = W.heap[k]?) ∧ Aside0 (W.heap.size ≤ wr.heap.size)) (fun j _ => l.length - (intOf j).toNat)
    case atStart => exact ⟨0, by omega, rfl, ⟨_, _, rfl, HSp.out, Hv1.out⟩, HPp, ⟨hzp'⟩⟩
    case round =>
      clear HSp HPp hzp' Hv1 hcL
      obtain ⟨m, hm, rfl, ⟨sn, gr, hst, hS, hv⟩, HP, Hz⟩ := hrel
      by_cases hlt : m < l.length
      · have hsl2 : sn.length = l.length := hv.1
        obtain ⟨ad', A2, c2, e, g0, g1, g2, hl2, hk2⟩ := at_T38 (Kd.C_below read hS.below) (i : Int) (by omega) (by omega)
        cases e
        obtain ⟨ad', A3, c3, e, g0', g1', g2', hl3, hk3⟩ := at_T38 (Kd.C_below read hS.below) (m : Int) (by omega) (by omega)
        cases e
        rw [Int.toNat_natCast] at g0 g1 g2 g0' g1' g2'
        have hcSV : wr.cell? ⟨w0.heap.size + 2, 0, none⟩ = some (.slice (some ⟨w0.heap.size + 1, 0, none⟩) l.length l.length) := (blk_cell hS.hSV 0).trans rfl
        have hcL : wr.cell? ⟨w0.heap.size, 0, none⟩ = some (.slice (some ad) l.length c) := (blk_cell hS.hL 0).trans rfl
        have hci : wr.cell? ⟨w0.heap.size + 1, m, none⟩ = some (.bool (sn.getD m true)) := (blk_cell hS.hSB m).trans (by
          have hil : m < sn.length := by omega
          simp [bools, List.getElem?_eq_getElem hil])
        have hnext : (List.range (m + 1)).foldl (vstep l f i) (seen.set i true, grp ++ [(i : Int)]) = vstep l f i (sn, gr) m := by rw [List.range_succ, List.foldl_append, hst]; rfl
        have Hnext := Aside0.mk hnext
        have HS := Aside0.mk hS
        have Hv := Aside0.mk hv
        have Hk2 := Aside0.mk hk2
        have Hk3 := Aside0.mk hk3
        clear hnext hS hv hst hk2 hk3
        cases hsm : sn.getD m true
        · rw [hsm] at hci
          have Hsm := Aside0.mk hsm
          clear hsm
          have hkeep : ∀ w', Below wr.heap.size wr w' → w'.cell? ⟨w0.heap.size + 2, 0, none⟩ = some (.slice (some ⟨w0.heap.size + 1, 0, none⟩) l.length l.length) ∧ w'.cell? ⟨w0.heap.size, 0, none⟩ = some (.slice (some ad) l.length c) ∧ w'.cell? ⟨w0.heap.size + 1, m, none⟩ = some (.bool false) ∧
            w'.cell? (ad.add (i * 3)) = some (.int .i64 (rd_T38 l i).f0) ∧ w'.cell? ⟨(ad.add (i * 3)).block, (ad.add (i * 3)).off + 1, none⟩ = some (.int .i64 (rd_T38 l i).f1) ∧ w'.cell? ⟨(ad.add (i * 3)).block, (ad.add (i * 3)).off + 2, none⟩ = some (.slice A2 (rd_T38 l i).f2.length c2) ∧
            w'.cell? (ad.add (m * 3)) = some (.int .i64 (rd_T38 l m).f0) ∧ w'.cell? ⟨(ad.add (m * 3)).block, (ad.add (m * 3)).off + 1, none⟩ = some (.int .i64 (rd_T38 l m).f1) ∧ w'.cell? ⟨(ad.add (m * 3)).block, (ad.add (m * 3)).off + 2, none⟩ = some (.slice A3 (rd_T38 l m).f2.length c3) := fun w' hb =>
            ⟨(hb.cell (World.block_lt_of_cell? wr _ hcSV)).trans hcSV, (hb.cell (World.block_lt_of_cell? wr _ hcL)).trans hcL, (hb.cell (World.block_lt_of_cell? wr _ hci)).trans hci, (hb.cell (World.block_lt_of_cell? wr _ g0)).trans g0, (hb.cell (World.block_lt_of_cell? wr _ g1)).trans g1, (hb.cell (World.block_lt_of_cell? wr _ g2)).trans g2,
              (hb.cell (World.block_lt_of_cell? wr _ g0')).trans g0', (hb.cell (World.block_lt_of_cell? wr _ g1')).trans g1', (hb.cell (World.block_lt_of_cell? wr _ g2')).trans g2'⟩
          have Hkeep := Aside0.mk hkeep
          have hcf := bids_Conflict.calls (rd_T38 l i).f0 (rd_T38 l i).f1 A2 c2 (rd_T38 l i).f2 (rd_T38 l m).f0 (rd_T38 l m).f1 A3 c3 (rd_T38 l m).f2 _ wr.drew (Kd.C_drew Hk2.out) hl2 (Kd.C_drew Hk3.out) hl3 rfl
          obtain ⟨r, hr⟩ : ∃ r, conf (l.getD i z38) (l.getD m z38) = r := ⟨_, rfl⟩
          have hr' : conf ⟨(rd_T38 l i).f0, (rd_T38 l i).f1, (rd_T38 l i).f2⟩ ⟨(rd_T38 l m).f0, (rd_T38 l m).f1, (rd_T38 l m).f2⟩ = r := hr
          rw [hr'] at hcf
          have Hcf := Aside0.mk hcf
          have Hr := Aside0.mk hr
          clear hkeep hcf hr hr' Hk2 Hk3 hl2 hl3
          go_upto_region 5 with (fail)
          go_region_held3 (fun w' => w'.cell? ⟨w0.heap.size + 2, 0, none⟩ = some (.slice (some ⟨w0.heap.size + 1, 0, none⟩) l.length l.length) ∧ w'.cell? ⟨w0.heap.size, 0, none⟩ = some (.slice (some ad) l.length c) ∧ w'.cell? ⟨w0.heap.size + 1, m, none⟩ = some (.bool false) ∧
            w'.cell? (ad.add (i * 3)) = some (.int .i64 (rd_T38 l i).f0) ∧ w'.cell? ⟨(ad.add (i * 3)).block, (ad.add (i * 3)).off + 1, none⟩ = some (.int .i64 (rd_T38 l i).f1) ∧ w'.cell? ⟨(ad.add (i * 3)).block, (ad.add (i * 3)).off + 2, none⟩ = some (.slice A2 (rd_T38 l i).f2.length c2) ∧
            w'.cell? (ad.add (m * 3)) = some (.int .i64 (rd_T38 l m).f0) ∧ w'.cell? ⟨(ad.add (m * 3)).block, (ad.add (m * 3)).off + 1, none⟩ = some (.int .i64 (rd_T38 l m).f1) ∧ w'.cell? ⟨(ad.add (m * 3)).block, (ad.add (m * 3)).off + 2, none⟩ = some (.slice A3 (rd_T38 l m).f2.length c3))
            (first | go_keep | exact Hkeep.out w1 ⟨hb1.os, hb1.tape, hb1.output, hb1.size, hb1.block⟩)
            ((refine Hcf.out.mono ?_; rintro e w1 ⟨rfl, hb1⟩))
          have hW1 : Below wr.heap.size wr w1 := ⟨hb1.os, hb1.tape, hb1.output, hb1.size, hb1.block⟩
          have hP1 : ∀ k, P k → w1.heap[k]? = W.heap[k]? := fun k hk => (hW1.block k (HS.out.prot k hk).2).trans (HP.out k hk)
          have hz1 : W.heap.size ≤ w1.heap.size := Nat.le_trans Hz.out hW1.size
          have hS1 := HS.out.step hW1
          have hcV : w1.cell? ⟨w0.heap.size + 4, 0, none⟩ = some (.func (.func 52) #[] (vcaps w0.heap.size)) := (blk_cell hS1.hV 0).trans rfl
          unfold vcaps at hcV
          have HP1 := Aside0.mk hP1
          have Hz1 := Aside0.mk hz1
          have HS1 := Aside0.mk hS1
          clear hP1 hz1 hS1 hW1 hb1 HP Hz HS hcSV hcL hci g0 g1 g2 g0' g1' g2' Hkeep Hcf
          cases r
          · have hst7 : ∃ sn' gr', (List.range (m + 1)).foldl (vstep l f i) (seen.set i true, grp ++ [(i : Int)]) = (sn', gr') ∧ VSt w0 (some ad) c l P w1 sn' gr' ∧ Vis l f n (sn', gr') :=
              ⟨sn, gr, by rw [Hnext.out, vstep_apart Hr.out], HS1.out, Hv.out⟩
            have Hst7 := Aside0.mk hst7
            clear hst7 HS1 Hv hcV
            go_wp2
            go_roundw
            case rel => exact ⟨m + 1, by omega, by go_num, Hst7, HP1, Hz1⟩
            case measure => simp [intOf]; omega
          · have hih := Ih.out m sn gr w1 P hlt Hsm.out Hv.out HS1.out
            have hvv := visit_vis l f m (sn, gr) n hlt Hsm.out Hv.out
            have hst7 : (List.range (m + 1)).foldl (vstep l f i) (seen.set i true, grp ++ [(i : Int)]) = visitP l f m (sn, gr) := by rw [Hnext.out, vstep_in Hsm.out Hr.out]
            have Hih := Aside0.mk hih
            have Hvv := Aside0.mk hvv
            have Hst7 := Aside0.mk hst7
            clear hih hvv hst7 HS1 Hv
            go_wp2_with fail
            refine Hih.out.mono ?_
            rintro e w2 ⟨rfl, hS2, hP2, hz2⟩
            have HS2 := Aside0.mk hS2
            have HP2 := Aside0.mk (fun k hk => (hP2 k hk).trans (HP1.out k hk))
            have Hz2 := Aside0.mk (Nat.le_trans Hz1.out hz2)
            clear hS2 hP2 hz2 hcV HP1 Hz1 Hih
            go_wp2
            go_roundw
            case rel => exact ⟨m + 1, by omega, by go_num, ⟨_, _, Hst7.out, HS2.out, Hvv.out⟩, HP2, Hz2⟩
            case measure => simp [intOf]; omega
        · rw [hsm] at hci
          have Hsm := Aside0.mk hsm
          clear hsm
          go_upto_region 5 with (fail)
          go_quiet (fail)
          have hb7 := pw_below_drewN (Below.refl wr.heap.size wr) nq
          have hst7 : ∃ sn' gr', (List.range (m + 1)).foldl (vstep l f i) (seen.set i true, grp ++ [(i : Int)]) = (sn', gr') ∧ VSt w0 (some ad) c l P (wr.drewN nq) sn' gr' ∧ Vis l f n (sn', gr') :=
            ⟨sn, gr, by rw [Hnext.out, vstep_seen Hsm.out], HS.out.step hb7, Hv.out⟩
          have hP7 : ∀ k, P k → (wr.drewN nq).heap[k]? = W.heap[k]? := HP.out
          have hz7 : W.heap.size ≤ (wr.drewN nq).heap.size := Hz.out
          have Hst7 := Aside0.mk hst7
          have HP7 := Aside0.mk hP7
          have Hz7 := Aside0.mk hz7
          clear hb7 hst7 hP7 hz7 Hnext HS Hv HP Hz hcSV hcL hci g0 g1 g2 g0' g1' g2'
          generalize wr.drewN nq = w7 at *
          go_wp2
          go_roundw
          case rel => exact ⟨m + 1, by omega, by go_num, Hst7, HP7, Hz7⟩
          case measure => simp [intOf]; omega
      · obtain rfl : m = l.length := by omega
        have hfin := Hfold.out.trans hst
        have Hfin := Aside0.mk hfin
        have HS := Aside0.mk hS
        clear hfin hst hv hS
        go_wp2
        go_end0
        exact ⟨rfl, by rw [Hfin.out]; exact HS.out, HP.out, Hz.out⟩
end Go.Proofs.Ytdbpdkmnnlippaa.H

/-
  DERIVED: THE SHELF's CONTRACTS AT THIS DUMP, IN PLAIN WORDS (tools/lay-plain.mjs out of 'TryShelf.lean', which tools/lay-shelf.mjs wrote): THE SAME DECLARATIONS UNDER THE SAME NAMES: 'import', 'namespace', 'open', 'def', 'theorem' AND NOTHING ELSE: no command of the shelf's: FOR A HAND-IN. Each laying: the table of numbers ('.._ren') and one theorem, a field a fact of the dump's own or the kernel's comparison; each contract: ONE APPLICATION.
-/
namespace Go.Proofs
open Go.Shelf
def Try.lays189_ren : Go.Shelf.Ren := ⟨fun | 189 => 53 | 125 => 64 | 257 => 63 | 128 => 78 | 129 => 79 | 294 => 69 | 295 => 70 | 296 => 71 | 297 => 72 | 298 => 73 | 299 => 74 | 216 => 75 | 300 => 76 | 301 => 77 | 328 => 80 | 329 => 81 | 330 => 82 | 331 => 83 | 332 => 84 | 215 => 85 | 343 => 86 | n => n, fun | 28 => 22 | 3 => 3 | 46 => 94 | 0 => 0 | 51 => 110 | 53 => 89 | 4 => 4 | 183 => 102 | 182 => 101 | 131 => 107 | 5 => 5 | 9 => 9 | 218 => 111 | 222 => 114 | 228 => 116 | 229 => 117 | n => n, fun | n => n⟩
theorem Try.lays189 : Go.Proofs.Lays.n189 Try.prog Try.lays189_ren := {
  mixed := by kernel_rfl
  f125 := Try.func64.trans (congrArg some (by kernel_rfl))
  f128 := Try.func78.trans (congrArg some (by kernel_rfl))
  f129 := Try.func79.trans (congrArg some (by kernel_rfl))
  f189 := Try.func53.trans (congrArg some (by kernel_rfl))
  f215 := Try.func85.trans (congrArg some (by kernel_rfl))
  f216 := Try.func75.trans (congrArg some (by kernel_rfl))
  f257 := Try.func63.trans (congrArg some (by kernel_rfl))
  f294 := Try.func69.trans (congrArg some (by kernel_rfl))
  f295 := Try.func70.trans (congrArg some (by kernel_rfl))
  f296 := Try.func71.trans (congrArg some (by kernel_rfl))
  f297 := Try.func72.trans (congrArg some (by kernel_rfl))
  f298 := Try.func73.trans (congrArg some (by kernel_rfl))
  f299 := Try.func74.trans (congrArg some (by kernel_rfl))
  f300 := Try.func76.trans (congrArg some (by kernel_rfl))
  f301 := Try.func77.trans (congrArg some (by kernel_rfl))
  f328 := Try.func80.trans (congrArg some (by kernel_rfl))
  f329 := Try.func81.trans (congrArg some (by kernel_rfl))
  f330 := Try.func82.trans (congrArg some (by kernel_rfl))
  f331 := Try.func83.trans (congrArg some (by kernel_rfl))
  f332 := Try.func84.trans (congrArg some (by kernel_rfl))
  f343 := Try.func86.trans (congrArg some (by kernel_rfl))
  t0 := Try.underlying0
  a0 := Try.isAgg0
  z0 := Try.sizeOf0
  v0 := Try.zeroValue0
  t3 := Try.underlying3
  a3 := Try.isAgg3
  z3 := Try.sizeOf3
  v3 := Try.zeroValue3
  t4 := Try.underlying4
  a4 := Try.isAgg4
  z4 := Try.sizeOf4
  v4 := Try.zeroValue4
  t5 := Try.underlying5
  a5 := Try.isAgg5
  z5 := Try.sizeOf5
  v5 := Try.zeroValue5
  t9 := Try.underlying9
  a9 := Try.isAgg9
  z9 := Try.sizeOf9
  v9 := Try.zeroValue9
  t28 := Try.underlying22
  a28 := Try.isAgg22
  z28 := Try.sizeOf22
  v28 := Try.zeroValue22
  t46 := Try.underlying94
  a46 := Try.isAgg94
  z46 := Try.sizeOf94
  v46 := Try.zeroValue94
  t51 := Try.underlying110
  a51 := Try.isAgg110
  z51 := Try.sizeOf110
  v51 := Try.zeroValue110
  t53 := Try.underlying89
  a53 := Try.isAgg89
  z53 := Try.sizeOf89
  v53 := Try.zeroValue89
  t131 := Try.underlying107
  a131 := Try.isAgg107
  z131 := Try.sizeOf107
  v131 := Try.zeroValue107
  t182 := Try.underlying101
  a182 := Try.isAgg101
  z182 := Try.sizeOf101
  v182 := Try.zeroValue101
  t183 := Try.underlying102
  a183 := Try.isAgg102
  z183 := Try.sizeOf102
  v183 := Try.zeroValue102
  t218 := Try.underlying111
  a218 := Try.isAgg111
  z218 := Try.sizeOf111
  v218 := Try.zeroValue111
  t222 := Try.underlying114
  a222 := Try.isAgg114
  z222 := Try.sizeOf114
  v222 := Try.zeroValue114
  t228 := Try.underlying116
  a228 := Try.isAgg116
  z228 := Try.sizeOf116
  v228 := Try.zeroValue116
  t229 := Try.underlying117
  a229 := Try.isAgg117
  z229 := Try.sizeOf117
  v229 := Try.zeroValue117 }
open Go.Sort Go.RowKit in
theorem Try.slices_Sort_int (blk off cap : Nat) (zs : List Int) (w : World) (hH : Holds (Value.int .i64) w blk off zs.toArray) (hblk : blk < w.heap.size) (hsz : zs.length < 4611686018427387904) :
    Calls Try.prog 53 #[.slice (some ⟨blk, off, none⟩) zs.length cap] w fun e w' =>
      e = .returned (.tuple #[]) ∧ ∃ n os, w' = grow (putRow (Value.int .i64) (Sort.ahead w n) blk off (zs.mergeSort fun x y => decide (x ≤ y)).toArray) os := Any.slices_Sort_int Try.lays189 blk off cap zs w hH hblk hsz
end Go.Proofs

/- bids.Parts. -/
namespace Go.Proofs.Ytdbpdkmnnlippaa.H
open Go.RowKit Go.Proofs.YtdbpdkmnnlippaaW.PrintWords Go.Proofs.YtdbpdkmnnlippaaW.PrintLast Go.Proofs.YtdbpdkmnnlippaaW.PrintMore
set_option linter.unusedVariables false
set_option linter.unusedSimpArgs false

/-- A round of Parts: what is seen, and the groups. -/
def partsStep (l : List S38) (st : List Bool × List (List Int)) (i : Nat) : List Bool × List (List Int) :=
  if st.1.getD i true then st else ((visitP l l.length i (st.1, [])).1, st.2 ++ [(visitP l l.length i (st.1, [])).2.mergeSort fun x y => decide (x ≤ y)])
def partsP (l : List S38) : List (List Int) := ((List.range l.length).foldl (partsStep l) (List.replicate l.length false, [])).2
def bids_Parts.f (l0 : List S38) : Option (List (List Int)) := if l0.length ≤ 1000000 then some (partsP l0) else none

theorem visit_grows (l : List S38) : ∀ (f i : Nat) (st : List Bool × List Int), st.2.length ≤ (visitP l f i st).2.length ∧ (0 < f → st.2.length + 1 ≤ (visitP l f i st).2.length) := by
  intro f
  induction f with
  | zero => intro i st; exact ⟨Nat.le_refl _, fun h => by omega⟩
  | succ f ih =>
    intro i st
    have h1 : ∀ (js : List Nat) (st : List Bool × List Int), st.2.length ≤ (js.foldl (vstep l f i) st).2.length := by
      intro js
      induction js with
      | nil => intro st; exact Nat.le_refl _
      | cons j js ihj =>
        intro st
        refine Nat.le_trans ?_ (ihj _)
        unfold vstep
        split
        · exact (ih j st).1
        · exact Nat.le_refl _
    have h2 := h1 (List.range l.length) (st.1.set i true, st.2 ++ [(i : Int)])
    rw [← visit_succ] at h2
    simp only [List.length_append, List.length_cons, List.length_nil] at h2
    exact ⟨by omega, fun _ => by omega⟩
theorem unseen_le (s : List Bool) : unseen s ≤ s.length := List.length_filter_le _ _

/-- Between two visits. -/
structure VMid (w0 : World) (A : Option Addr) (c : Nat) (l : List S38) (P : Nat → Prop) (W : World) (seen : List Bool) (ov : Value) (outs : List (List Int)) : Prop where
  below : Below w0.heap.size w0 W
  size : w0.heap.size + 5 ≤ W.heap.size
  hL : W.heap[w0.heap.size]? = some (.cells #[.slice A l.length c] 31 (0, 0))
  hSB : W.heap[w0.heap.size + 1]? = some (.cells (bools seen).toArray 4 (0, 0))
  hSV : W.heap[w0.heap.size + 2]? = some (.cells #[.slice (some ⟨w0.heap.size + 1, 0, none⟩) l.length l.length] 79 (0, 0))
  hG : ∃ gv, W.heap[w0.heap.size + 3]? = some (.cells #[gv] 22 (0, 0))
  hV : W.heap[w0.heap.size + 4]? = some (.cells #[.func (.func 52) #[] (vcaps w0.heap.size)] 80 (0, 0))
  outs : Kd.S (Kd.slice 3 (Kd.int .i64)) 22 W (w0.heap.size + 5) P ov outs
  prot : ∀ k, P k → w0.heap.size + 5 ≤ k ∧ k < W.heap.size
section
variable {w0 : World} {A : Option Addr} {c : Nat} {l : List S38} {P : Nat → Prop} {W W' : World} {seen : List Bool} {ov : Value} {outs : List (List Int)} {grp : List Int}
/-- The group is emptied. -/
theorem VMid.empty (h : VMid w0 A c l P W seen ov outs) : VSt w0 A c l P (W.setCell ⟨w0.heap.size + 3, 0, none⟩ (.slice none 0 0)) seen [] ∧ Kd.S (Kd.slice 3 (Kd.int .i64)) 22 (W.setCell ⟨w0.heap.size + 3, 0, none⟩ (.slice none 0 0)) (w0.heap.size + 5) P ov outs := by
  have hf : ∀ k, k ≠ w0.heap.size + 3 → (W.setCell ⟨w0.heap.size + 3, 0, none⟩ (.slice none 0 0)).heap[k]? = W.heap[k]? := fun k hk => Below.heap_setCell W ⟨w0.heap.size + 3, 0, none⟩ _ k hk
  have hB : Below (w0.heap.size + 3) W (W.setCell ⟨w0.heap.size + 3, 0, none⟩ (.slice none 0 0)) := (Below.refl _ W).setCell (p := ⟨w0.heap.size + 3, 0, none⟩) (Nat.le_refl _) _
  obtain ⟨gv, h1⟩ := h.hG
  have hs := h.size
  refine ⟨⟨h.below.trans (hB.mono (by omega)), Nat.le_trans hs hB.size, (hf _ (by omega)).trans h.hL, (hf _ (by omega)).trans h.hSB, (hf _ (by omega)).trans h.hSV, (hf _ (by omega)).trans h.hV,
    ⟨.slice none 0 0, by simpa using blk_set h1 0 (.slice none 0 0), Kd.R_nil _ _ _ _ _⟩, fun k hk => ⟨(h.prot k hk).1, Nat.lt_of_lt_of_le (h.prot k hk).2 hB.size⟩⟩, Kd.S_far h.outs (fun k hk => by have := (h.prot k hk).1; show k ≠ w0.heap.size + 3; omega) _⟩
/-- Behind the sort the group is sorted, and lies where it lay. -/
theorem sorted_R {w : World} {base g cap n : Nat} {ok : Nat → Prop} {os : Array Obj} {xs : List Int} (h : Kd.R (Kd.int .i64) 3 w base ok (.slice (some ⟨g, 0, none⟩) xs.length cap) xs) :
    Go.Sort.Holds (Value.int .i64) w g 0 xs.toArray ∧ ∀ ys : List Int, ys.length = xs.length → Kd.R (Kd.int .i64) 3 (Go.Sort.grow (Go.Sort.putRow (Value.int .i64) (Go.Sort.ahead w n) g 0 ys.toArray) os) base ok (.slice (some ⟨g, 0, none⟩) xs.length cap) ys := by
  have ho := Kd.own_of_R h
  have h0 := h.1
  rcases ho.2 with ⟨e, _⟩ | ⟨g', cap', cur, e, hg, hb, h1, h2, h3, h4⟩
  · cases e
  · injection e with e1 e2 e3
    injection e1 with e1
    injection e1 with e1
    subst e1 e3
    rw [Nat.mul_one] at h4
    refine ⟨holds_of_blockI hb h4, fun ys hl => ?_⟩
    have := ownsRow_sortedI (n := n) (os := os) (ss := xs) (ts := ys) hl hg hb h1 h2 h3
    exact Kd.R_of_own (by rw [hl]; exact this) h0
theorem VSt.sort {gv : Value} {g cap n : Nat} {os : Array Obj} (h : VSt w0 A c l P W seen grp) (hv : W.heap[w0.heap.size + 3]? = some (.cells #[.slice (some ⟨g, 0, none⟩) grp.length cap] 22 (0, 0)))
    (hr : Kd.R (Kd.int .i64) 3 W (w0.heap.size + 5) (fun k => ¬ P k) (.slice (some ⟨g, 0, none⟩) grp.length cap) grp) (ys : List Int) (hl : ys.length = grp.length)
    (hS : Kd.S (Kd.slice 3 (Kd.int .i64)) 22 W (w0.heap.size + 5) P ov outs) (hW : W' = Go.Sort.grow (Go.Sort.putRow (Value.int .i64) (Go.Sort.ahead W n) g 0 ys.toArray) os) :
    W'.heap[w0.heap.size + 3]? = some (.cells #[.slice (some ⟨g, 0, none⟩) ys.length cap] 22 (0, 0)) ∧ Kd.R (Kd.int .i64) 3 W' (w0.heap.size + 5) (fun k => ¬ P k ∧ k = g) (.slice (some ⟨g, 0, none⟩) ys.length cap) ys ∧
      Kd.S (Kd.slice 3 (Kd.int .i64)) 22 W' (w0.heap.size + 5) P ov outs ∧ VMid w0 A c l P W' seen ov outs := by
  have hg : W.grownBy W' (some g) := by rw [hW]; exact grownBy_sortedI _
  have hgb : w0.heap.size + 5 ≤ g := Kd.R_base hr g (by simp [Value.ownBlock])
  have hgP : ¬ P g := hr.1 g (by simp [Value.ownBlock])
  have hs := h.size
  have hlow : ∀ k, k < w0.heap.size + 5 → W'.heap[k]? = W.heap[k]? := fun k hk => hg.block k (by omega) (fun e => by injection e with e; omega)
  have hR := (sorted_R (n := n) (os := os) hr).2 ys hl
  rw [← hW, ← hl] at hR
  have hR2 : Kd.R (Kd.int .i64) 3 W' (w0.heap.size + 5) (fun k => ¬ P k ∧ k = g) (.slice (some ⟨g, 0, none⟩) ys.length cap) ys := by
    refine Kd.R_mono (Kd.R_tight rfl hR) (fun k hk => ?_)
    have : k = g := by
      simp only [Value.ownBlock] at hk
      simpa using hk
    exact ⟨by rw [this]; exact hgP, this⟩
  have hS' := Kd.S_grown hS hg (fun k hk e => by injection e with e; subst e; exact hgP hk)
  have hG : W'.heap[w0.heap.size + 3]? = some (.cells #[.slice (some ⟨g, 0, none⟩) ys.length cap] 22 (0, 0)) := by rw [hl]; exact (hlow _ (by omega)).trans hv
  exact ⟨hG, hR2, hS', ⟨⟨hg.os.trans h.below.os, hg.tape.trans h.below.tape, hg.output.trans h.below.output, Nat.le_trans h.below.size hg.size, fun k hk => (hlow k (by omega)).trans (h.below.block k hk)⟩, Nat.le_trans hs hg.size,
    (hlow _ (by omega)).trans h.hL, (hlow _ (by omega)).trans h.hSB, (hlow _ (by omega)).trans h.hSV, ⟨_, hG⟩, (hlow _ (by omega)).trans h.hV, hS', fun k hk => ⟨(h.prot k hk).1, Nat.lt_of_lt_of_le (h.prot k hk).2 hg.size⟩⟩⟩
/-- Behind the append. -/
theorem VMid.appended {ov1 : Value} {wA : World} {ok : Nat → Prop} {outs' : List (List Int)} (h : VMid w0 A c l P W seen ov outs) (hS : Kd.S (Kd.slice 3 (Kd.int .i64)) 22 wA (w0.heap.size + 5) ok ov1 outs') (hg : W.grownBy wA ov.ownBlock) :
    ∃ P', VMid w0 A c l P' wA seen ov1 outs' := by
  have hs := h.size
  have hlow : ∀ k, k < w0.heap.size + 5 → wA.heap[k]? = W.heap[k]? := fun k hk => hg.block k (by omega) (fun e => by have := Kd.S_base h.outs k e.symm; omega)
  obtain ⟨gv, hgv⟩ := h.hG
  exact ⟨_, ⟨⟨hg.os.trans h.below.os, hg.tape.trans h.below.tape, hg.output.trans h.below.output, Nat.le_trans h.below.size hg.size, fun k hk => (hlow k (by omega)).trans (h.below.block k hk)⟩, Nat.le_trans hs hg.size,
    (hlow _ (by omega)).trans h.hL, (hlow _ (by omega)).trans h.hSB, (hlow _ (by omega)).trans h.hSV, ⟨_, (hlow _ (by omega)).trans hgv⟩, (hlow _ (by omega)).trans h.hV, Kd.S_mono (Kd.S_bound hS) (fun k hk => (⟨hk.2.1, hk.2.2.1⟩ : w0.heap.size + 5 ≤ k ∧ k < wA.heap.size)), fun k hk => hk⟩⟩
end
theorem made_bools (n : Nat) : madeCells #[Value.bool false] n = (bools (List.replicate n false)).toArray := by
  apply Array.ext'
  apply List.ext_getElem
  · simp [bools, madeCells]
  · intro i h1 h2
    simp [bools, madeCells, Nat.mod_one]
theorem infoB : (Try.prog.info? 4).map (fun i => (i.zero, i.size, i.bytes)) = some (some (.bool false), 1, 1) := by kernel_rfl
theorem infoGs : (Try.prog.info? 22).map (fun i => (i.zero, i.size, i.bytes)) = some (some (.slice none 0 0), 1, 24) := by kernel_rfl
set_option maxHeartbeats 2000000 in
set_option maxRecDepth 100000 in
theorem bids_Parts.calls (A0 : Option Addr) (c0 : Nat) (l0 : List S38) (r : List (List Int)) (w : World) (hr0 : Kd.C k38 w A0 l0.length l0) (hc0 : l0.length ≤ c0) (h : bids_Parts.f l0 = some r) :
    Calls Try.prog 29 #[.slice A0 l0.length c0] w fun e w' => ∃ v0_ : Value, e = .returned v0_ ∧ Kd.S (Kd.slice 3 (Kd.int .i64)) 22 w' w.heap.size (fun _ => True) v0_ r ∧ Below w.heap.size w w' := by
  by_cases hbig : l0.length ≤ 1000000
  case neg => simp [bids_Parts.f, hbig] at h
  obtain rfl : partsP l0 = r := by simpa [bids_Parts.f, hbig] using h
  clear h
  have hmk := print_make_of (P := Try.prog) 79 4 (.bool false) 1 Try.underlying79 infoB rfl (by decide) l0.length (by omega)
  have Hr0 := Aside0.mk hr0
  clear hr0
  go_enter Try.func29, Try.ntmps29
  go_upto_region 6 with (fail)
  simp only [Nat.add_assoc, Nat.reduceAdd]
  generalize hW1 : World.alloc _ _ = W1
  have hM0 : VMid w A0 c0 l0 (fun _ => False) W1 (List.replicate l0.length false) (.slice none 0 0) [] := by
    have hB : Below w.heap.size w W1 := by
      rw [← hW1]
      exact below_alloc (below_alloc (below_alloc (below_alloc (below_alloc (Below.refl _ w) _) _) _) _) _
    have hat : ∀ (W : World) (o : Obj) (k : Nat), W.heap.size = k → (W.alloc o).heap[k]? = some o := fun W o k e => by rw [← e]; exact heap_alloc_new W o
    have hbe : ∀ (W : World) (o : Obj) (k : Nat) (x : Option Obj), k < W.heap.size → W.heap[k]? = x → (W.alloc o).heap[k]? = x := fun W o k x h e => (Below.heap_alloc W o k h).trans e
    refine ⟨hB, by rw [← hW1]; simp, ?_, ?_, ?_, ⟨.slice none 0 0, ?_⟩, ?_, Kd.S_nil _ _ _ _ _, fun k hk => hk.elim⟩
    · rw [← hW1]
      exact hbe _ _ _ _ (by first | (simp; done) | (simp; omega)) (hbe _ _ _ _ (by first | (simp; done) | (simp; omega)) (hbe _ _ _ _ (by first | (simp; done) | (simp; omega)) (hbe _ _ _ _ (by simp) (hat _ _ _ rfl))))
    · rw [← hW1, ← made_bools]
      exact hbe _ _ _ _ (by first | (simp; done) | (simp; omega)) (hbe _ _ _ _ (by first | (simp; done) | (simp; omega)) (hbe _ _ _ _ (by first | (simp; done) | (simp; omega)) (hat _ _ _ (by simp))))
    · rw [← hW1]
      exact hbe _ _ _ _ (by first | (simp; done) | (simp; omega)) (hbe _ _ _ _ (by simp) (hat _ _ _ (by simp)))
    · rw [← hW1]
      exact hbe _ _ _ _ (by simp) (hat _ _ _ (by simp))
    · rw [← hW1]
      exact hat _ _ _ (by simp)
  have HM0 := Aside0.mk hM0
  have hcL : W1.cell? ⟨w.heap.size, 0, none⟩ = some (.slice A0 l0.length c0) := (blk_cell hM0.hL 0).trans rfl
  clear hM0 hW1 hmk
  go_wp2
  go_loopw [6, 14] (fun o i wr => ∃ (m : Nat) (P : Nat → Prop) (sn : List Bool) (outs : List (List Int)), m ≤ l0.length ∧ i = .int .i64 m ∧ Aside0 ((List.range m).foldl (partsStep l0) (List.replicate l0.length false, []) = (sn, outs)) ∧ Aside0 (sn.length = l0.length ∧ outs.length ≤ m) ∧ Aside0 (VMid w A0 c0 l0 P wr sn o outs)) (fun _ i _ => l0.length - (intOf i).toNat)
  case atStart => exact ⟨0, _, _, _, by omega, rfl, ⟨rfl⟩, ⟨by simp, by simp⟩, HM0⟩
  case round =>
    clear HM0 hcL
    obtain ⟨m, P, sn, outs, hm, rfl, hst, hln, hM⟩ := hrel
    by_cases hlt : m < l0.length
    · obtain ⟨hsl, hol⟩ := hln.out
      have hcSV : wr.cell? ⟨w.heap.size + 2, 0, none⟩ = some (.slice (some ⟨w.heap.size + 1, 0, none⟩) l0.length l0.length) := (blk_cell hM.out.hSV 0).trans rfl
      have hci : wr.cell? ⟨w.heap.size + 1, m, none⟩ = some (.bool (sn.getD m true)) := (blk_cell hM.out.hSB m).trans (by
        have hil : m < sn.length := by omega
        simp [bools, List.getElem?_eq_getElem hil])
      have hnext : (List.range (m + 1)).foldl (partsStep l0) (List.replicate l0.length false, []) = partsStep l0 (sn, outs) m := by rw [List.range_succ, List.foldl_append, hst.out]; rfl
      have Hnext := Aside0.mk hnext
      clear hnext hst
      cases hsm : sn.getD m true
      · rw [hsm] at hci
        have Hsm := Aside0.mk hsm
        clear hsm
        obtain ⟨ad, A2, c2, e, _⟩ := at_T38 Hr0.out (m : Int) (by omega) (by omega)
        subst e
        obtain ⟨gv0, hG0⟩ := hM.out.hG
        have hcG0 : wr.cell? ⟨w.heap.size + 3, 0, none⟩ = some gv0 := (blk_cell hG0 0).trans rfl
        have hfG0 : wr.frozen? ⟨w.heap.size + 3, 0, none⟩ = false := blk_frozen hG0 0
        clear hG0
        go_upto_region 11 with (fail)
        clear hcG0 hfG0
        obtain ⟨hS0, ho0⟩ := hM.out.empty
        generalize wr.setCell ⟨w.heap.size + 3, 0, none⟩ (.slice none 0 0) = Wg at *
        have hcV : Wg.cell? ⟨w.heap.size + 4, 0, none⟩ = some (.func (.func 52) #[] (vcaps w.heap.size)) := (blk_cell hS0.hV 0).trans rfl
        unfold vcaps at hcV
        have hcall := visit_calls w ad c0 l0 Hr0.out hc0 hbig (unseen sn) (by have := unseen_le sn; omega) l0.length m sn [] Wg P hlt Hsm.out ⟨hsl, by have := unseen_le sn; simp only []; omega, by simp⟩ hS0
        have hvis := visit_vis l0 l0.length m (sn, []) (unseen sn) hlt Hsm.out ⟨hsl, by have := unseen_le sn; simp only []; omega, by simp⟩
        have hgrow := (visit_grows l0 l0.length m (sn, [])).2 (by omega)
        have hst2 : partsStep l0 (sn, outs) m = ((visitP l0 l0.length m (sn, [])).1, outs ++ [(visitP l0 l0.length m (sn, [])).2.mergeSort fun x y => decide (x ≤ y)]) := by unfold partsStep; rw [show (sn, outs).1 = sn from rfl, Hsm.out]; rfl
        have hst3 := Hnext.out.trans hst2
        generalize visitP l0 l0.length m (sn, []) = vp at *
        obtain ⟨sn2, gr2⟩ := vp
        simp only [] at hcall hvis hgrow hst3
        have hgl2 : gr2.length ≤ 1000000 := by have h1 := hvis.2.2; have h2 := unseen_le sn; simp only [] at h1; omega
        have hsl2 : sn2.length = l0.length := hvis.1
        have Hcall := Aside0.mk hcall
        have Hst3 := Aside0.mk hst3
        have Ho0 := Aside0.mk ho0
        have Hgrow := Aside0.mk hgrow
        clear hcall hst3 ho0 hgrow hst2 hvis hS0 hcSV hci hM Hnext hln
        go_wp2_with fail
        refine Hcall.out.mono ?_
        rintro e w2 ⟨rfl, hS2, hP2, hz2⟩
        have ho2 := Kd.S_move Ho0.out hP2
        obtain ⟨gv, k1, k2⟩ := hS2.row
        obtain ⟨g, cap, hgv, hgb, hgl, _⟩ := Kd.R_form k2 (by have := Hgrow.out; simp at this; omega)
        subst hgv
        have hcG : w2.cell? ⟨w.heap.size + 3, 0, none⟩ = some (.slice (some ⟨g, 0, none⟩) gr2.length cap) := (blk_cell k1 0).trans rfl
        have hsort := Go.Proofs.Try.slices_Sort_int g 0 cap gr2 w2 (sorted_R (n := 0) (os := #[]) k2).1 hgl (by omega)
        have hys : (gr2.mergeSort fun x y => decide (x ≤ y)).length = gr2.length := List.length_mergeSort _
        generalize (gr2.mergeSort fun x y => decide (x ≤ y)) = ys at *
        have Hsort := Aside0.mk hsort
        have HS2 := Aside0.mk hS2
        have Ho2 := Aside0.mk ho2
        have K1 := Aside0.mk k1
        have K2 := Aside0.mk k2
        have Hys := Aside0.mk hys
        clear hsort hS2 ho2 k1 k2 hys hP2 hz2 hcV Hcall Ho0 Hgrow
        go_wp2_with fail
        refine Hsort.out.mono ?_
        rintro e w3 ⟨rfl, n3, os3, hw3⟩
        obtain ⟨hG3, hR3, hS3, hM3⟩ := HS2.out.sort (gv := .slice none 0 0) K1.out K2.out ys Hys.out Ho2.out hw3
        have hcG3 : w3.cell? ⟨w.heap.size + 3, 0, none⟩ = some (.slice (some ⟨g, 0, none⟩) ys.length cap) := (blk_cell hG3 0).trans rfl
        have hown : ∀ k, u6.ownBlock = some k → P k := by obtain ⟨f_, hf_⟩ := hS3; exact hf_.1
        have h5 : w.heap.size + 5 ≤ w3.heap.size := hM3.size
        have HR3 := Aside0.mk hR3
        have HS3 := Aside0.mk hS3
        have HM3 := Aside0.mk hM3
        have Hown := Aside0.mk hown
        clear hG3 hR3 hS3 hM3 hown hw3 hcG Hsort HS2 Ho2 K1 K2 Hys
        go_wp2_with (first | ((with_reducible refine gate_builtin (b := .append) (xs := #[.tmp 26, .tmp 28]) rfl ?_); at_builtin; refine Kd.S_append (Kd.slice 3 (Kd.int .i64)) (w0 := w3) (w.heap.size + 5) rfl (.tmp 26) (.tmp 28) 42 22 (.slice none 0 0) 24 rfl Try.underlying42 infoGs rfl (by decide) (by decide) u6 outs ys [.slice (some ⟨g, 0, none⟩) ys.length cap] (fun k => P k ∨ k = g ∨ w3.heap.size ≤ k) (fun k => ¬ P k ∧ k = g) rfl rfl ?aP ?aK ?aF ?aO ?aB ?aS ?aL ?_; (case aP => exact ⟨_, rfl, HR3.out⟩); (case aK => exact fun k hk => ⟨.inr (.inl hk.2), fun e => hk.1 (Hown.out k e.symm)⟩); (case aF => exact fun k hk => .inr (.inr hk)); (case aO => exact Kd.S_mono HS3.out (fun k hk => ⟨.inl hk, fun h => h.1 hk⟩)); (case aB => exact Below.refl _ _); (case aS => exact h5); (case aL => omega); intro v1 w4 hS4 hb4 hg4 hat4; obtain ⟨P', hM4⟩ := HM3.out.appended hS4 hg4; have HM4 := Aside0.mk hM4; clear hM4 hS4 hb4 hg4 hat4))
        go_roundw
        case rel => exact ⟨m + 1, P', sn2, outs ++ [ys], by omega, by go_num, Hst3, ⟨hsl2, by simp; omega⟩, HM4⟩
        case measure => simp [intOf]; omega
      · rw [hsm] at hci
        have hst2 : partsStep l0 (sn, outs) m = (sn, outs) := by unfold partsStep; rw [show (sn, outs).1 = sn from rfl, hsm]; rfl
        have Hst2 := Aside0.mk (Hnext.out.trans hst2)
        clear hsm hst2
        go_wp2
        go_roundw
        case rel => exact ⟨m + 1, P, sn, outs, by omega, by go_num, Hst2, ⟨hsl, by omega⟩, hM⟩
        case measure => simp [intOf]; omega
    · obtain rfl : m = l0.length := by omega
      have hpp : partsP l0 = outs := by unfold partsP; rw [hst.out]
      have Hpp := Aside0.mk hpp
      clear hpp hst
      go_wp2
      go_ret
      exact ⟨_, rfl, by rw [Hpp.out]; exact Kd.S_mono (Kd.S_lower hM.out.outs (by omega)) (fun _ _ => trivial), hM.out.below⟩
end Go.Proofs.Ytdbpdkmnnlippaa.H

/- What Valid tells. Plain. -/
namespace Go.Proofs.Ytdbpdkmnnlippaa.H
open Go.RowKit Go.Proofs.YtdbpdkmnnlippaaW.PrintWords Go.Proofs.YtdbpdkmnnlippaaW.PrintLast Go.Proofs.YtdbpdkmnnlippaaW.PrintMore
set_option linter.unusedVariables false
set_option linter.unusedSimpArgs false
theorem rd_at (l : List Int) (i : Nat) (x : Int) (h : l[i]? = some x) : rd l (i : Int) = x := by
  simp [rd, List.getD, h]
end Go.Proofs.Ytdbpdkmnnlippaa.H
