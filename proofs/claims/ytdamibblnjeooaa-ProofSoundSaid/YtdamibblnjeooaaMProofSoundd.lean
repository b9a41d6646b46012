/- Texts of this claim, one behind the other. -/
import Derived.Test.YtdamibblnjeooaaMProofSoundb
import Derived.BigRegion
import Derived.MapFrom
import Derived.Laws.IdiomRangeMap
import Derived.Outline
import Derived.StillTailTactics
import Derived.StillTactics
import Derived.BigQuiet
import Derived.Deep.QuietTactic
import Derived.Deep.RegionHeld3
import Derived.Deep.RegionWith
import Derived.RangeFuncNested
import Derived.RangeFuncBound
import Derived.RangeFuncCalls
import Derived.RangeFuncLeaves
import Derived.OwnWalkIn
import Derived.TacticsInMore
import Derived.LoopNIn
import Derived.LoopIn
import Derived.WalkSpells
import Derived.Laws.EntriesVeiled
import Derived.IntWalk
import Derived.Test.YtdamibblnjeooaaMProofSoundc
import Derived.Laws.CopyOwn

/- The reference's Feasible: its definitions as the kit's printer writes them, its walk by hand. -/
namespace Go.Proofs.Ytdamibblnjeooaa.H
open Go.RowKit Go.Proofs.YtdamibblnjeooaaW.PrintWords Go.Proofs.YtdamibblnjeooaaW.PrintLast Go.Proofs.YtdamibblnjeooaaW.PrintMore
set_option linter.unusedVariables false
set_option linter.unusedSimpArgs false
/-! ### worldmintref27_Feasible: function 45 -/
mutual
def worldmintref27_Feasible.l0 : Nat → List (S85) → List Int → Int → Option (Bool)
 | 0, _, _, _ => none
 | k + 1, x0, x1, x5 => if x5 < (x1.length : Int) then (if 0 ≤ x5 then (if (rd x1 x5) < 0 then (some false) else (if (rd x1 x5) ≥ (x0.length : Int) then (some false) else (if x5 > 0 then (if 0 ≤ (wrap64 (x5 - 1)) then (if (wrap64 (x5 - 1)) < (x1.length : Int) then (if (rd x1 x5) ≤ (rd x1 (wrap64 (x5 - 1))) then (some false) else (worldmintref27_Feasible.l0 k x0 x1 (wrap64 (x5 + 1)))) else (none)) else (none)) else (worldmintref27_Feasible.l0 k x0 x1 (wrap64 (x5 + 1)))))) else (none)) else (worldmintref27_Feasible.l1 k x0 x1 0)
def worldmintref27_Feasible.l1 : Nat → List (S85) → List Int → Int → Option (Bool)
 | 0, _, _, _ => none
 | k + 1, x0, x1, x6 => if x6 < (x1.length : Int) then (worldmintref27_Feasible.l2 k x0 x1 x6 0) else (some true)
def worldmintref27_Feasible.l2 : Nat → List (S85) → List Int → Int → Int → Option (Bool)
 | 0, _, _, _, _ => none
 | k + 1, x0, x1, x6, x7 => if x7 < x6 then (if 0 ≤ x6 then (if x6 < (x1.length : Int) then (if 0 ≤ (rd x1 x6) then (if (rd x1 x6) < (x0.length : Int) then (if 0 ≤ x7 then (if x7 < (x1.length : Int) then (if 0 ≤ (rd x1 x7) then (if (rd x1 x7) < (x0.length : Int) then ((worldmintref27_Conflict.f k ((rd_T85 x0 (rd x1 x6)).f0) ((rd_T85 x0 (rd x1 x6)).f1) ((rd_T85 x0 (rd x1 x6)).f2) ((rd_T85 x0 (rd x1 x7)).f0) ((rd_T85 x0 (rd x1 x7)).f1) ((rd_T85 x0 (rd x1 x7)).f2)).bind fun t155 => (if t155 = true then (some false) else (worldmintref27_Feasible.l2 k x0 x1 x6 (wrap64 (x7 + 1))))) else (none)) else (none)) else (none)) else (none)) else (none)) else (none)) else (none)) else (none)) else (worldmintref27_Feasible.l1 k x0 x1 (wrap64 (x6 + 1)))
end
def worldmintref27_Feasible.f (k : Nat) (l0 : List (S85)) (l1 : List Int) : Option (Bool) := worldmintref27_Feasible.l0 k l0 l1 0
theorem rf_wrap64 (x : Int) (h0 : -9223372036854775808 ≤ x ∧ x ≤ 9223372036854775807) : wrap64 x = x := by
 unfold wrap64
 omega
set_option maxHeartbeats 4000000 in
set_option maxRecDepth 100000 in
theorem worldmintref27_Feasible.calls (k : Nat) (A0 : Option Addr) (c0 : Nat) (l0 : List S85) (A1 : Option Addr) (c1 : Nat) (l1 : List Int) (r : Bool) (w : World) (hr0 : Kd.C k85 w A0 l0.length l0) (hc0 : l0.length ≤ c0) (hr1 : Kd.C (Kd.int .i64) w A1 l1.length l1) (hc1 : l1.length ≤ c1) (h : worldmintref27_Feasible.f k l0 l1 = some r) :
  Calls Try.prog 45 #[.slice A0 l0.length c0, .slice A1 l1.length c1] w fun e w' => e = .returned (.bool r) ∧ Below w.heap.size w w' := by
 have hl0 : l0.length ≤ 9223372036854775807 := Kd.C_max hr0
 have hl1 : l1.length ≤ 9223372036854775807 := Kd.C_max hr1
 have Hr0 := Aside0.mk hr0
 have Hr1 := Aside0.mk hr1
 have Hh : Aside0 (worldmintref27_Feasible.l0 k l0 l1 ((0 : Nat) : Int) = some r) := ⟨h⟩
 clear hr0 hr1 h
 go_enter Try.func45, Try.ntmps45
 go_wp2
 go_loopw [5] (fun a wr => ∃ (m k' : Nat), m ≤ l1.length ∧ a = .int .i64 m ∧ Aside0 (worldmintref27_Feasible.l0 k' l0 l1 (m : Int) = some r) ∧ Aside0 (Below w.heap.size w wr)) (fun a _ => l1.length - (intOf a).toNat)
 case atStart => exact ⟨0, k, by omega, rfl, Hh, ⟨Below.refl _ _⟩⟩
 case round =>
  clear Hh
  obtain ⟨m, k', hm, rfl, Hl, HB⟩ := hrel
  cases k' with
  | zero => exact absurd Hl.out (by simp [worldmintref27_Feasible.l0])
  | succ k' =>
  have hl := Hl.out
  unfold worldmintref27_Feasible.l0 at hl
  by_cases hlt : m < l1.length
  ·rw [if_pos (by omega), if_pos (by omega)] at hl
   have t1 : decide ((m : Int) < (l1.length : Int)) = true := decide_eq_true (by omega)
   have t2 : decide (m < l1.length) = true := decide_eq_true hlt
   have hmI : (m : Int) < (l1.length : Int) := by omega
   obtain ⟨ad, e, hcell⟩ := Kd.at_int (Kd.C_below Hr1.out HB.out) (m : Int) (by omega) (by omega)
   subst e
   rw [Int.toNat_natCast] at hcell
   have hwm : IntKind.i64.wrap ((m : Int) + 1) = (m : Int) + 1 := IntWalk.i64_in _ (by omega)
   have hwm2 : wrap64 ((m : Int) + 1) = ((m + 1 : Nat) : Int) := rf_wrap64 _ (by omega)
   rw [hwm2] at hl
   obtain ⟨x, hx⟩ : ∃ x, x = rd l1 (m : Int) := ⟨_, rfl⟩
   rw [← hx] at hl hcell
   by_cases p1 : x < 0
   ·rw [if_pos p1] at hl
    obtain rfl := Option.some.inj hl
    have d1 : decide (x < 0) = true := decide_eq_true p1
    clear hl Hl hx
    go_upto_region 4 with (fail)
    go_quiet (fail)
    have HB7 := Aside0.mk (pw_below_drewN HB.out nq)
    generalize wr.drewN nq = w7 at *
    go_wp2
    go_ret
    exact ⟨rfl, HB7.out⟩
   rw [if_neg p1] at hl
   have d1 : decide (x < 0) = false := decide_eq_false p1
   by_cases p2 : x ≥ (l0.length : Int)
   ·rw [if_pos p2] at hl
    obtain rfl := Option.some.inj hl
    have d2 : decide ((l0.length : Int) ≤ x) = true := decide_eq_true p2
    clear hl Hl hx
    go_upto_region 4 with (fail)
    go_quiet (fail)
    have HB7 := Aside0.mk (pw_below_drewN HB.out nq)
    generalize wr.drewN nq = w7 at *
    go_wp2
    go_ret
    exact ⟨rfl, HB7.out⟩
   rw [if_neg p2] at hl
   have d2 : decide ((l0.length : Int) ≤ x) = false := decide_eq_false p2
   by_cases p3 : m = 0
   ·rw [if_neg (by omega)] at hl
    have d3 : decide ((0 : Int) < (m : Int)) = false := decide_eq_false (by omega)
    have d4 : decide (0 < m) = false := decide_eq_false (by omega)
    have Hl2 := Aside0.mk hl
    have Hp3 := Aside0.mk p3
    clear hl Hl hx p3
    go_upto_region 4 with (fail)
    go_quiet (fail)
    have HB7 := Aside0.mk (pw_below_drewN HB.out nq)
    generalize wr.drewN nq = w7 at *
    go_wp2
    go_roundw
    case rel => exact ⟨m + 1, k', by omega, by go_num, Hl2, HB7⟩
    case measure => simp [intOf]; omega
   ·obtain ⟨p, hp⟩ : ∃ p, m = p + 1 := ⟨m - 1, by omega⟩
    have hwp : wrap64 ((m : Int) - 1) = (p : Int) := by
     rw [show ((m : Int) - 1) = (p : Int) by omega]
     exact rf_wrap64 _ (by omega)
    rw [if_pos (by omega), hwp, if_pos (by omega), if_pos (by omega)] at hl
    have d3 : decide ((0 : Int) < (m : Int)) = true := decide_eq_true (by omega)
    have d3' : decide (0 < m) = true := decide_eq_true (by omega)
    have hwp4 : IntKind.i64.wrap ((m : Int) - 1) = (p : Int) := by rw [show ((m : Int) - 1) = (p : Int) by omega]; exact IntWalk.i64_in _ (by omega)
    have hpI : (p : Int) < (l1.length : Int) := by omega
    have hpN : p < l1.length := by omega
    obtain ⟨ad2, e2, hcell2⟩ := Kd.at_int (Kd.C_below Hr1.out HB.out) (p : Int) (by omega) (by omega)
    injection e2 with e2
    subst e2
    rw [Int.toNat_natCast] at hcell2
    obtain ⟨y, hy⟩ : ∃ y, y = rd l1 (p : Int) := ⟨_, rfl⟩
    rw [← hy] at hl hcell2
    have Hp := Aside0.mk hp
    clear hx hy Hl p3 hwm2 hp
    by_cases p4 : x ≤ y
    ·rw [if_pos p4] at hl
     obtain rfl := Option.some.inj hl
     have d4 : decide (x ≤ y) = true := decide_eq_true p4
     clear hl
     go_upto_region 4 with (fail)
     go_quiet (fail)
     have HB7 := Aside0.mk (pw_below_drewN HB.out nq)
     generalize wr.drewN nq = w7 at *
     go_wp2
     go_ret
     exact ⟨rfl, HB7.out⟩
    ·rw [if_neg p4] at hl
     have d4 : decide (x ≤ y) = false := decide_eq_false p4
     have Hl2 := Aside0.mk hl
     clear hl
     go_upto_region 4 with (fail)
     go_quiet (fail)
     have HB7 := Aside0.mk (pw_below_drewN HB.out nq)
     generalize wr.drewN nq = w7 at *
     go_wp2
     go_roundw
     case rel => exact ⟨m + 1, k', by omega, by go_num, Hl2, HB7⟩
     case measure => simp [intOf]; omega
  ·obtain rfl : m = l1.length := by omega
   rw [if_neg (by omega)] at hl
   have t1 : decide ((l1.length : Int) < (l1.length : Int)) = false := decide_eq_false (by omega)
   have t2 : decide (l1.length < l1.length) = false := decide_eq_false (by omega)
   have Hl1 : Aside0 (worldmintref27_Feasible.l1 k' l0 l1 ((0 : Nat) : Int) = some r) := ⟨hl⟩
   clear hl Hl
   go_wp2
   clear t1 t2
   go_loopw [6] (fun a wq => ∃ (m k' : Nat), m ≤ l1.length ∧ a = .int .i64 m ∧ Aside0 (worldmintref27_Feasible.l1 k' l0 l1 (m : Int) = some r) ∧ Aside0 (Below w.heap.size w wq)) (fun a _ => l1.length - (intOf a).toNat)
   case atStart => exact ⟨0, k', by omega, rfl, Hl1, HB⟩
   case round =>
    clear HB Hl1 hm
    obtain ⟨m, k1, hm, rfl, Hl, HB⟩ := hrel
    cases k1 with
    | zero => exact absurd Hl.out (by simp [worldmintref27_Feasible.l1])
    | succ k1 =>
    have hl := Hl.out
    unfold worldmintref27_Feasible.l1 at hl
    by_cases hlt : m < l1.length
    ·rw [if_pos (by omega)] at hl
     have t1 : decide ((m : Int) < (l1.length : Int)) = true := decide_eq_true (by omega)
     have t2 : decide (m < l1.length) = true := decide_eq_true hlt
     have hmI : (m : Int) < (l1.length : Int) := by omega
     have hwm : IntKind.i64.wrap ((m : Int) + 1) = (m : Int) + 1 := IntWalk.i64_in _ (by omega)
     have Hl2 : Aside0 (worldmintref27_Feasible.l2 k1 l0 l1 (m : Int) ((0 : Nat) : Int) = some r) := ⟨hl⟩
     clear hl Hl
     go_wp2
     go_loopw [7] (fun a wq => ∃ (q k' : Nat), q ≤ m ∧ a = .int .i64 q ∧ Aside0 (worldmintref27_Feasible.l2 k' l0 l1 (m : Int) (q : Int) = some r) ∧ Aside0 (Below w.heap.size w wq)) (fun a _ => m - (intOf a).toNat)
     case atStart => exact ⟨0, k1, by omega, rfl, Hl2, HB⟩
     case round =>
      clear HB Hl2
      obtain ⟨q, k2, hq, rfl, Hl, HB⟩ := hrel
      cases k2 with
      | zero => exact absurd Hl.out (by simp [worldmintref27_Feasible.l2])
      | succ k2 =>
      have hl := Hl.out
      unfold worldmintref27_Feasible.l2 at hl
      by_cases hqm : q < m
      ·have s1 : decide ((q : Int) < (m : Int)) = true := decide_eq_true (by omega)
       have s2 : decide (q < m) = true := decide_eq_true hqm
       have hqI : (q : Int) < (l1.length : Int) := by omega
       have hqN : q < l1.length := by omega
       rw [if_pos (by omega), if_pos (by omega), if_pos (by omega)] at hl
       obtain ⟨ad, e, hcell⟩ := Kd.at_int (Kd.C_below Hr1.out HB.out) (m : Int) (by omega) (by omega)
       obtain ⟨ad2, e2, hcell2⟩ := Kd.at_int (Kd.C_below Hr1.out HB.out) (q : Int) (by omega) (by omega)
       rw [e] at e2
       injection e2 with e2
       subst e2
       subst e
       rw [Int.toNat_natCast] at hcell hcell2
       obtain ⟨x, hx⟩ : ∃ x, x = rd l1 (m : Int) := ⟨_, rfl⟩
       obtain ⟨y, hy⟩ : ∃ y, y = rd l1 (q : Int) := ⟨_, rfl⟩
       rw [← hx, ← hy] at hl
       rw [← hx] at hcell
       rw [← hy] at hcell2
       by_cases x0 : 0 ≤ x
       case neg => rw [if_neg x0] at hl; cases hl
       rw [if_pos x0] at hl
       by_cases x1 : x < (l0.length : Int)
       case neg => rw [if_neg x1] at hl; cases hl
       rw [if_pos x1, if_pos (by omega), if_pos (by omega)] at hl
       by_cases y0 : 0 ≤ y
       case neg => rw [if_neg y0] at hl; cases hl
       rw [if_pos y0] at hl
       by_cases y1 : y < (l0.length : Int)
       case neg => rw [if_neg y1] at hl; cases hl
       rw [if_pos y1] at hl
       obtain ⟨t, ht, hlz⟩ := Option.bind_eq_some_iff.mp hl
       clear hl
       have hwq : IntKind.i64.wrap ((q : Int) + 1) = (q : Int) + 1 := IntWalk.i64_in _ (by omega)
       have hwq2 : wrap64 ((q : Int) + 1) = ((q + 1 : Nat) : Int) := rf_wrap64 _ (by omega)
       rw [hwq2] at hlz
       obtain ⟨ax, AX, cX, eX, gx0, gx1, gx2, hlx, hCx⟩ := at_T85 (Kd.C_below Hr0.out HB.out) x x0 x1
       obtain ⟨ay, AY, cY, eY, gy0, gy1, gy2, hly, hCy⟩ := at_T85 (Kd.C_below Hr0.out HB.out) y y0 y1
       rw [eX] at eY
       injection eY with eY
       subst eY
       subst eX
       obtain ⟨xn, rfl⟩ := Int.eq_ofNat_of_zero_le x0
       obtain ⟨yn, rfl⟩ := Int.eq_ofNat_of_zero_le y0
       rw [Int.toNat_natCast] at gx0 gx1 gx2 gy0 gy1 gy2
       have x1n : xn < l0.length := by omega
       have y1n : yn < l0.length := by omega
       generalize rd_T85 l0 (xn : Int) = bx at *
       generalize rd_T85 l0 (yn : Int) = by_ at *
       have Hkeep : Aside0 (∀ w', Below wr.heap.size wr w' → w'.cell? (ad.add m) = some (.int .i64 (xn : Int)) ∧ w'.cell? (ad.add q) = some (.int .i64 (yn : Int)) ∧ w'.cell? (ax.add (xn * 3)) = some (.int .i64 bx.f0) ∧ w'.cell? ⟨(ax.add (xn * 3)).block, (ax.add (xn * 3)).off + 1, none⟩ = some (.int .i64 bx.f1) ∧ w'.cell? ⟨(ax.add (xn * 3)).block, (ax.add (xn * 3)).off + 2, none⟩ = some (.slice AX bx.f2.length cX) ∧ w'.cell? (ax.add (yn * 3)) = some (.int .i64 by_.f0) ∧ w'.cell? ⟨(ax.add (yn * 3)).block, (ax.add (yn * 3)).off + 1, none⟩ = some (.int .i64 by_.f1) ∧ w'.cell? ⟨(ax.add (yn * 3)).block, (ax.add (yn * 3)).off + 2, none⟩ = some (.slice AY by_.f2.length cY)) := ⟨fun w' hb => ⟨(hb.cell (World.block_lt_of_cell? wr _ hcell)).trans hcell, (hb.cell (World.block_lt_of_cell? wr _ hcell2)).trans hcell2, (hb.cell (World.block_lt_of_cell? wr _ gx0)).trans gx0, (hb.cell (World.block_lt_of_cell? wr _ gx1)).trans gx1, (hb.cell (World.block_lt_of_cell? wr _ gx2)).trans gx2, (hb.cell (World.block_lt_of_cell? wr _ gy0)).trans gy0, (hb.cell (World.block_lt_of_cell? wr _ gy1)).trans gy1, (hb.cell (World.block_lt_of_cell? wr _ gy2)).trans gy2⟩⟩
       have Hcall := Aside0.mk (worldmintref27_Conflict.calls k2 bx.f0 bx.f1 AX cX bx.f2 by_.f0 by_.f1 AY cY by_.f2 t wr.drew (Kd.C_drew hCx) hlx (Kd.C_drew hCy) hly ht)
       have Hl3 := Aside0.mk hlz
       clear hlz Hl ht hcell hcell2 gx0 gx1 gx2 gy0 gy1 gy2 hCx hCy hlx hly hx hy
       go_upto_region 12 with (fail)
       refine wp_region_held_drew (S := fun w' => w'.cell? (ad.add m) = some (.int .i64 (xn : Int)) ∧ w'.cell? (ad.add q) = some (.int .i64 (yn : Int)) ∧ w'.cell? (ax.add (xn * 3)) = some (.int .i64 bx.f0) ∧ w'.cell? ⟨(ax.add (xn * 3)).block, (ax.add (xn * 3)).off + 1, none⟩ = some (.int .i64 bx.f1) ∧ w'.cell? ⟨(ax.add (xn * 3)).block, (ax.add (xn * 3)).off + 2, none⟩ = some (.slice AX bx.f2.length cX) ∧ w'.cell? (ax.add (yn * 3)) = some (.int .i64 by_.f0) ∧ w'.cell? ⟨(ax.add (yn * 3)).block, (ax.add (yn * 3)).off + 1, none⟩ = some (.int .i64 by_.f1) ∧ w'.cell? ⟨(ax.add (yn * 3)).block, (ax.add (yn * 3)).off + 2, none⟩ = some (.slice AY by_.f2.length cY)) (by kernel_rfl) (Hkeep.out wr.drew (below_drew1 (Below.refl _ _))) ?_
       intro hS0
       refine wpAnyH_take (i := 0) (v := ?_) rfl (by kernel_rfl) (by kernel_rfl) (by kernel_rfl) (fun _ _ _ h => h) (Or.inl ⟨by rfl, ?_⟩) (by assumption) ?_
       rotate_left
       ·(intro w_ hSw_; (try dsimp only at hSw_); go_simp; try with_reducible rfl)
       try simp only [Act.put, List.getElem_toArray, List.getElem_cons_zero, List.getElem_cons_succ, List.setIfInBounds_toArray, List.set_cons_zero, List.set_cons_succ]
       refine wpAnyH_take (i := 1) (v := ?_) rfl (by kernel_rfl) (by kernel_rfl) (by kernel_rfl) (fun _ _ _ h => h) (Or.inl ⟨by rfl, ?_⟩) (by assumption) ?_
       rotate_left
       ·(intro w_ hSw_; (try dsimp only at hSw_); go_simp; try with_reducible rfl)
       try simp only [Act.put, List.getElem_toArray, List.getElem_cons_zero, List.getElem_cons_succ, List.setIfInBounds_toArray, List.set_cons_zero, List.set_cons_succ]
       refine wpAnyH_take (i := 2) (v := ?_) rfl (by kernel_rfl) (by kernel_rfl) (by kernel_rfl) (fun _ _ _ h => h) (Or.inl ⟨by rfl, ?_⟩) (by assumption) ?_
       rotate_left
       ·(intro w_ hSw_; (try dsimp only at hSw_); go_simp; try with_reducible rfl)
       try simp only [Act.put, List.getElem_toArray, List.getElem_cons_zero, List.getElem_cons_succ, List.setIfInBounds_toArray, List.set_cons_zero, List.set_cons_succ]
       refine wpAnyH_take (i := 3) (v := ?_) rfl (by kernel_rfl) (by kernel_rfl) (by kernel_rfl) (fun _ _ _ h => h) (Or.inl ⟨by rfl, ?_⟩) (by assumption) ?_
       rotate_left
       ·(intro w_ hSw_; (try dsimp only at hSw_); go_simp; try with_reducible rfl)
       try simp only [Act.put, List.getElem_toArray, List.getElem_cons_zero, List.getElem_cons_succ, List.setIfInBounds_toArray, List.set_cons_zero, List.set_cons_succ]
       refine wpAnyH_take (i := 4) (v := ?_) rfl (by kernel_rfl) (by kernel_rfl) (by kernel_rfl) (fun _ _ _ h => h) (Or.inl ⟨by rfl, ?_⟩) (by assumption) ?_
       rotate_left
       ·(intro w_ hSw_; (try dsimp only at hSw_); go_simp; try with_reducible rfl)
       try simp only [Act.put, List.getElem_toArray, List.getElem_cons_zero, List.getElem_cons_succ, List.setIfInBounds_toArray, List.set_cons_zero, List.set_cons_succ]
       refine wpAnyH_take (i := 5) (v := ?_) rfl (by kernel_rfl) (by kernel_rfl) (by kernel_rfl) (fun _ _ _ h => h) (Or.inl ⟨by rfl, ?_⟩) (by assumption) ?_
       rotate_left
       ·(intro w_ hSw_; (try dsimp only at hSw_); go_simp; try with_reducible rfl)
       try simp only [Act.put, List.getElem_toArray, List.getElem_cons_zero, List.getElem_cons_succ, List.setIfInBounds_toArray, List.set_cons_zero, List.set_cons_succ]
       refine wpAnyH_take (i := 6) (v := ?_) rfl (by kernel_rfl) (by kernel_rfl) (by kernel_rfl) (fun _ _ _ h => h) (Or.inl ⟨by rfl, ?_⟩) (by assumption) ?_
       rotate_left
       ·(intro w_ hSw_; (try dsimp only at hSw_); go_simp; try with_reducible rfl)
       try simp only [Act.put, List.getElem_toArray, List.getElem_cons_zero, List.getElem_cons_succ, List.setIfInBounds_toArray, List.set_cons_zero, List.set_cons_succ]
       refine wpAnyH_take (i := 7) (v := ?_) rfl (by kernel_rfl) (by kernel_rfl) (by kernel_rfl) (fun _ _ _ h => h) (Or.inl ⟨by rfl, ?_⟩) (by assumption) ?_
       rotate_left
       ·(intro w_ hSw_; (try dsimp only at hSw_); go_simp; try with_reducible rfl)
       try simp only [Act.put, List.getElem_toArray, List.getElem_cons_zero, List.getElem_cons_succ, List.setIfInBounds_toArray, List.set_cons_zero, List.set_cons_succ]
       refine wpAnyH_take (i := 8) (v := ?_) rfl (by kernel_rfl) (by kernel_rfl) (by kernel_rfl) (fun _ _ _ h => h) (Or.inl ⟨by rfl, ?_⟩) (by assumption) ?_
       rotate_left
       ·(intro w_ hSw_; (try dsimp only at hSw_); go_simp; try with_reducible rfl)
       try simp only [Act.put, List.getElem_toArray, List.getElem_cons_zero, List.getElem_cons_succ, List.setIfInBounds_toArray, List.set_cons_zero, List.set_cons_succ]
       refine wpAnyH_take (i := 9) (v := ?_) rfl (by kernel_rfl) (by kernel_rfl) (by kernel_rfl) (fun _ _ _ h => h) (Or.inl ⟨by rfl, ?_⟩) (by assumption) ?_
       rotate_left
       ·(intro w_ hSw_; (try dsimp only at hSw_); go_simp; try with_reducible rfl)
       try simp only [Act.put, List.getElem_toArray, List.getElem_cons_zero, List.getElem_cons_succ, List.setIfInBounds_toArray, List.set_cons_zero, List.set_cons_succ]
       refine wpAnyH_take (i := 10) (v := ?_) rfl (by kernel_rfl) (by kernel_rfl) (by kernel_rfl) (fun _ _ _ h => h) (Or.inl ⟨by rfl, ?_⟩) (by assumption) ?_
       rotate_left
       ·(intro w_ hSw_; (try dsimp only at hSw_); go_simp; try with_reducible rfl)
       try simp only [Act.put, List.getElem_toArray, List.getElem_cons_zero, List.getElem_cons_succ, List.setIfInBounds_toArray, List.set_cons_zero, List.set_cons_succ]
       refine wpAnyH_take (i := 11) (v := ?_) rfl (by kernel_rfl) (by kernel_rfl) (by kernel_rfl) (fun _ _ _ h => h) (Or.inl ⟨by rfl, ?_⟩) (by assumption) ?_
       rotate_left
       ·(intro w_ hSw_; (try dsimp only at hSw_); go_simp; try with_reducible rfl)
       try simp only [Act.put, List.getElem_toArray, List.getElem_cons_zero, List.getElem_cons_succ, List.setIfInBounds_toArray, List.set_cons_zero, List.set_cons_succ]
       refine wpAnyH_take (i := 12) (v := ?_) rfl (by kernel_rfl) (by kernel_rfl) (by kernel_rfl) (fun _ _ _ h => h) (Or.inl ⟨by rfl, ?_⟩) (by assumption) ?_
       rotate_left
       ·(intro w_ hSw_; (try dsimp only at hSw_); go_simp; try with_reducible rfl)
       try simp only [Act.put, List.getElem_toArray, List.getElem_cons_zero, List.getElem_cons_succ, List.setIfInBounds_toArray, List.set_cons_zero, List.set_cons_succ]
       refine wpAnyH_take (i := 13) (v := ?_) rfl (by kernel_rfl) (by kernel_rfl) (by kernel_rfl) (fun _ _ _ h => h) (Or.inl ⟨by rfl, ?_⟩) (by assumption) ?_
       rotate_left
       ·(intro w_ hSw_; (try dsimp only at hSw_); go_simp; try with_reducible rfl)
       try simp only [Act.put, List.getElem_toArray, List.getElem_cons_zero, List.getElem_cons_succ, List.setIfInBounds_toArray, List.set_cons_zero, List.set_cons_succ]
       refine wpAnyH_ready (rs := [14]) (by kernel_rfl) (by simp) ?_
       refine AllReadyH.cons rfl (fun K hK => ?_) AllReadyH.nil
       go_simp
       refine Hcall.out.mono ?_
       rintro e w5 ⟨rfl, hb5⟩
       have hb5' : Below wr.heap.size wr w5 := (below_drew1 (Below.refl _ _)).trans (hb5.mono (below_drew1 (Below.refl wr.heap.size wr)).size)
       have HB5 := Aside0.mk (HB.out.trans (hb5'.mono HB.out.size))
       refine hK.out _ _ (Hkeep.out _ hb5') (fun hSn_ => ?_)
       clear hK K
       try simp only [Act.put, List.getElem_toArray, List.getElem_cons_zero, List.getElem_cons_succ, List.setIfInBounds_toArray, List.set_cons_zero, List.set_cons_succ]
       clear hb5 hb5' Hcall Hkeep
       refine wpAnyH_take (i := 15) (v := ?_) rfl (by kernel_rfl) (by kernel_rfl) (by kernel_rfl) (fun _ _ _ h => h) (Or.inl ⟨by rfl, ?_⟩) (by assumption) ?_
       rotate_left
       ·(intro w_ hSw_; (try dsimp only at hSw_); go_simp; try with_reducible rfl)
       try simp only [Act.put, List.getElem_toArray, List.getElem_cons_zero, List.getElem_cons_succ, List.setIfInBounds_toArray, List.set_cons_zero, List.set_cons_succ]
       refine wpAnyH_done (by kernel_rfl) ?_ _
       cases t
       ·have Hl4 := Aside0.mk (show worldmintref27_Feasible.l2 k2 l0 l1 (m : Int) ((q + 1 : Nat) : Int) = some r from Hl3.out)
        go_wp2
        go_roundw
        case rel => exact ⟨q + 1, k2, by omega, by go_num, Hl4, HB5⟩
        case measure => simp [intOf]; omega
       ·obtain rfl : false = r := Option.some.inj Hl3.out
        go_wp2
        go_ret
        exact ⟨rfl, HB5.out⟩
      ·obtain rfl : q = m := by omega
       have s1 : decide ((q : Int) < (q : Int)) = false := decide_eq_false (by omega)
       have s2 : decide (q < q) = false := decide_eq_false (by omega)
       rw [if_neg (by omega), show wrap64 ((q : Int) + 1) = ((q + 1 : Nat) : Int) from rf_wrap64 _ (by omega)] at hl
       have Hl3 := Aside0.mk hl
       clear hl Hl
       go_wp2
       go_roundw
       case rel => exact ⟨q + 1, k2, by omega, by go_num, Hl3, HB⟩
       case measure => simp [intOf]; omega
    ·obtain rfl : m = l1.length := by omega
     rw [if_neg (by omega)] at hl
     have t1 : decide ((l1.length : Int) < (l1.length : Int)) = false := decide_eq_false (by omega)
     have t2 : decide (l1.length < l1.length) = false := decide_eq_false (by omega)
     obtain rfl := Option.some.inj hl
     clear hl Hl
     go_wp2
     go_ret
     exact ⟨rfl, HB.out⟩
end Go.Proofs.Ytdamibblnjeooaa.H

/- The plain functions that the programs' bids and clear packages compute, over lists: no machine in sight. -/
namespace Go.Proofs.Ytdamibblnjeooaa.H
open Go.RowKit

/-- The bids of a list are few and their prices in range: sums of prices stay far from the bounds of an int. -/
def okBids (l : List S82) : Bool := decide (l.length ≤ 10) && l.all fun b => decide (1 ≤ b.f1) && decide (b.f1 ≤ 1099511627776)

/-- Two bids conflict: one bidder, or a common lot. -/
def conf (a b : S82) : Bool := a.f0 == b.f0 || b.f2.any fun k => a.f2.contains k

/-- The greatest value that bids from i on could add. -/
def restOf (U : S82 → Bool) : List S82 → Int
 | [] => 0
 | b :: l => restOf U l + if U b then b.f1 else 0

/-- The search from bid i on: 'left' are the bids i, i+1, ..; 'win' what is taken; the best value, and what was told last. -/
def tryP (U : S82 → Bool) (l : List S82) : List S82 → Nat → Int → List Int → Int × List Int × Int → Int × List Int × Int
 | [], _, value, win, (best, out, val) => if value ≤ best then (best, out, val) else (value, win, value)
 | b :: left, i, value, win, (best, out, val) =>
  if value + restOf U (b :: left) ≤ best then (best, out, val) else
  let st := if U b && !(win.any fun w => conf (l.getD w.toNat z82) b) then tryP U l left (i + 1) (value + b.f1) (win ++ [(i : Int)]) (best, out, val) else (best, out, val)
  tryP U l left (i + 1) value win st

/-- The best choice of some bids, and its value. -/
def searchP (U : S82 → Bool) (l : List S82) : List Int × Int :=
 let r := tryP U l l 0 0 [] (-1, [], 0)
 (r.2.1, r.2.2)

/-- What is wrong with the lots of a bid. -/
def lotsOk (n : Int) : Int → List Int → Bool
 | _, [] => true
 | last, k :: ks => if k ≤ last || n ≤ k then false else lotsOk n k ks

/-- What is wrong with bids. -/
def bidsErr (n : Int) : List S82 → Int
 | [] => 0
 | b :: l =>
  if b.f0 < 1 || 1073741824 < b.f0 then 1 else
  if b.f1 < 1 || 1099511627776 < b.f1 then 5 else
  if b.f2.length == 0 then 1 else
  if !lotsOk n (-1) b.f2 then 1 else bidsErr n l

def validP (n : Int) (l : List S82) : Int :=
 if n < 1 || 8 < n then 5 else if 10 < l.length then 4 else bidsErr n l

def clear_Best.f (a0 : Int) (l1 : List S82) : Option (List Int × Int × Int) :=
 if validP a0 l1 = 0 then some ((searchP (fun _ => true) l1).1, (searchP (fun _ => true) l1).2, 0) else some ([], 0, validP a0 l1)


/-- The surplus of a bid. -/
def surp (prices : List Int) (b : S82) : Int := b.f1 - (b.f2.map fun k => prices.getD k.toNat 0).sum

def lookI : List (Int × Int) → Int → Option Int
 | [], _ => none
 | (j, v) :: m, k => if j = k then some v else lookI m k
/-- The greatest surplus of each bidder, in the order of their first bids. -/
def addS : List (Int × Int) → Int → Int → List (Int × Int)
 | [], k, s => [(k, if 0 < s then s else 0)]
 | (j, v) :: m, k, s => if j = k then (k, if v < s then s else v) :: m else (j, v) :: addS m k s



/-- Does the choice hold, from place i on? 'pre' are the places before. -/
def feasP (l : List S82) : List Int → List Int → Bool
 | _, [] => true
 | pre, w :: ws =>
  if w < 0 || (l.length : Int) ≤ w || (match pre.getLast? with | some p => decide (w ≤ p) | none => false) then false else
  if pre.any fun v => conf (l.getD v.toNat z82) (l.getD w.toNat z82) then false else feasP l (pre ++ [w]) ws

def bids_Feasible.f (l0 : List S82) (l1 : List Int) : Option Bool := some (feasP l0 [] l1)

def bids_Conflict.f (a0_0 a0_1 : Int) (l0_2 : List Int) (a1_0 a1_1 : Int) (l1_2 : List Int) : Option Bool := some (conf ⟨a0_0, a0_1, l0_2⟩ ⟨a1_0, a1_1, l1_2⟩)



/-- Block b is a map with these entries, in the order of their making. -/
def IMap (w : World) (b : Nat) (m : List (Int × Value)) : Prop :=
 ∃ es clock, w.heap[b]? = some (.map es clock) ∧ es.toList.map (fun e => (e.key, e.val)) = (m.map fun p => (Value.int .i64 p.1, p.2)) ∧ MapKept.Stamped es clock

def lookM : List (Int × Value) → Int → Option Value
 | [], _ => none
 | (j, v) :: m, k => if j = k then some v else lookM m k
def updM : List (Int × Value) → Int → Value → List (Int × Value)
 | [], k, v => [(k, v)]
 | (j, u) :: m, k, v => if j = k then (k, v) :: m else (j, u) :: updM m k v

theorem IMap.keeps {w w' : World} {b : Nat} {m : List (Int × Value)} (h : IMap w b m) (he : w'.heap[b]? = w.heap[b]?) : IMap w' b m := by
 obtain ⟨es, c, hb, hm, hst⟩ := h; exact ⟨es, c, he.trans hb, hm, hst⟩
theorem IMap.lt {w : World} {b : Nat} {m : List (Int × Value)} (h : IMap w b m) : b < w.heap.size := by
 obtain ⟨es, c, hb, hm, hst⟩ := h; exact (Array.getElem?_eq_some_iff.1 hb).1

/-- Block b alone has turned. -/
structure OneTurn (b : Nat) (w w' : World) : Prop where
 os : w'.os = w.os
 tape : w'.tape = w.tape
 output : w'.output = w.output
 size : w'.heap.size = w.heap.size
 block : ∀ j, j ≠ b → w'.heap[j]? = w.heap[j]?
theorem OneTurn.below {b B : Nat} {w w' : World} (h : OneTurn b w w') (hb : B ≤ b) : Below B w w' :=
 ⟨h.os, h.tape, h.output, by rw [h.size]; exact Nat.le_refl _, fun k hk => h.block k (by omega)⟩
theorem OneTurn.cell {b : Nat} {w w' : World} (h : OneTurn b w w') {p : Addr} (hp : p.block ≠ b) : w'.cell? p = w.cell? p := World.cell?_of_block (w := w) (h.block p.block hp)
theorem OneTurn.frozen {b : Nat} {w w' : World} (h : OneTurn b w w') {p : Addr} (hp : p.block ≠ b) : w'.frozen? p = w.frozen? p := World.frozen?_of_block (w := w) (h.block p.block hp)
theorem OneTurn.mk_ (b : Nat) (w : World) (o : Obj) : OneTurn b w { w with heap := w.heap.setIfInBounds b o } :=
 ⟨rfl, rfl, rfl, by simp, fun j hj => by simp only [Array.getElem?_setIfInBounds]; rw [if_neg (fun e => hj e.symm)]⟩

theorem findNow_miss (k : Int) : ∀ (m : List (Int × Value)) (es : List MapEntry) (i : Nat), es.map (fun e => (e.key, e.val)) = m.map (fun p => (Value.int .i64 p.1, p.2)) → lookM m k = none →
  Instr.findNow (.int .i64) (.int .i64 k) es i = some none
 | [], [], _, _, _ => rfl
 | [], _ :: _, _, h, _ => by simp at h
 | _ :: _, [], _, h, _ => by simp at h
 | (j, v) :: m, e :: es, i, h, hl => by
  simp only [List.map_cons, List.cons.injEq, Prod.mk.injEq] at h
  obtain ⟨⟨hk, hv⟩, ht⟩ := h
  simp only [lookM] at hl
  by_cases hj : j = k
  ·rw [if_pos hj] at hl; cases hl
  ·rw [if_neg hj] at hl
   have hb : (k == j) = false := by simpa using fun e => hj e.symm
   simp only [Instr.findNow, hk, Instr.sameNow, if_true, hb]
   exact findNow_miss k m es (i + 1) ht hl

theorem findNow_hit (k : Int) : ∀ (m : List (Int × Value)) (es : List MapEntry) (i : Nat) (v : Value), es.map (fun e => (e.key, e.val)) = m.map (fun p => (Value.int .i64 p.1, p.2)) → lookM m k = some v →
  ∃ j, Instr.findNow (.int .i64) (.int .i64 k) es i = some (some (i + j, v)) ∧ (∃ e, es[j]? = some e ∧ e.key = .int .i64 k) ∧
   ∀ u, (es.modify j fun e => { e with key := .int .i64 k, val := u }).map (fun e => (e.key, e.val)) = (updM m k u).map fun p => (Value.int .i64 p.1, p.2)
 | [], _, _, _, _, hl => by simp [lookM] at hl
 | _ :: _, [], _, _, h, _ => by simp at h
 | (j, v0) :: m, e :: es, i, v, h, hl => by
  simp only [List.map_cons, List.cons.injEq, Prod.mk.injEq] at h
  obtain ⟨⟨hk, hv⟩, ht⟩ := h
  simp only [lookM] at hl
  by_cases hj : j = k
  ·rw [if_pos hj] at hl; cases hl; subst hj
   refine ⟨0, ?_, ⟨e, rfl, hk⟩, fun u => ?_⟩
   ·simp [Instr.findNow, hk, Instr.sameNow, hv]
   ·simp [updM, ht]
  ·rw [if_neg hj] at hl
   have hb : (k == j) = false := by simpa using fun e => hj e.symm
   obtain ⟨q, h1, h2, h3⟩ := findNow_hit k m es (i + 1) v ht hl
   refine ⟨q + 1, ?_, by simpa using h2, fun u => ?_⟩
   ·simp only [Instr.findNow, hk, Instr.sameNow, if_true, hb]
    rw [h1, show i + 1 + q = i + (q + 1) from by omega]
   ·simp only [List.modify_succ_cons, List.map_cons, updM, if_neg hj, h3 u, hk, hv]

set_option linter.unusedVariables false in
theorem findNow_none (k : Int) : ∀ (m : List (Int × Value)) (es : List MapEntry) (i : Nat), es.map (fun e => (e.key, e.val)) = m.map (fun p => (Value.int .i64 p.1, p.2)) → lookM m k = none → ∀ x ∈ es, x.key ≠ .int .i64 k
 | [], [], _, _, _ => by simp
 | [], _ :: _, _, h, _ => by simp at h
 | _ :: _, [], _, h, _ => by simp at h
 | (j, v) :: m, e :: es, i, h, hl => by
  simp only [List.map_cons, List.cons.injEq, Prod.mk.injEq] at h
  obtain ⟨⟨hk, hv⟩, ht⟩ := h
  simp only [lookM] at hl
  by_cases hj : j = k
  ·rw [if_pos hj] at hl; cases hl
  ·rw [if_neg hj] at hl
   intro x hx
   rcases List.mem_cons.1 hx with rfl | hx
   ·rw [hk]; intro e; injection e with _ e; exact hj e
   ·exact findNow_none k m es (i + 1) ht hl x hx

theorem updM_miss (k : Int) (u : Value) : ∀ m, lookM m k = none → updM m k u = m ++ [(k, u)]
 | [], _ => rfl
 | (j, v) :: m, hl => by
  simp only [lookM] at hl
  by_cases hj : j = k
  ·rw [if_pos hj] at hl; cases hl
  ·rw [if_neg hj] at hl
   simp only [updM, if_neg hj, List.cons_append, updM_miss k u m hl]

section
variable {P : Program} {T K E : TypeId}
/-- 'm[k]'. -/
theorem run_look (w : World) (b : Nat) (m : List (Int × Value)) (k : Int) (hT : P.underlying T = some (.map K E)) (hK : P.underlying K = some (.int .i64)) (h : IMap w b m) (z : Value) (hz : ∀ w, (zeroValue E).run P w = .ok z w) :
  (Instr.lookup T (.map (some b)) (.int .i64 k) false).run P w = .ok ((lookM m k).getD z) w := by
 obtain ⟨es, c, hb, hm, hst⟩ := h
 have hc : ∀ em, (Instr.checkKey em 10000 K (.int .i64 k)).run P w = .ok () w := fun em => MapKept.run_checkKey (k := .int .i64 k) hK (by simp [MapKept.IsKey]) em 9999
 have hf : (Instr.findKey K (.int .i64 k) es.toList).run P w = .ok ((Instr.findNow (.int .i64) (.int .i64 k) es.toList 0).getD none) w := by
  have : ∃ r, Instr.findNow (.int .i64) (.int .i64 k) es.toList 0 = some r := by
   cases hl : lookM m k with
   | none => exact ⟨_, findNow_miss k m _ 0 hm hl⟩
   | some v => obtain ⟨j, h1, _⟩ := findNow_hit k m _ 0 v hm hl; exact ⟨_, h1⟩
  obtain ⟨r, hr⟩ := this
  simp [Instr.findKey, run_underlying hK, hr, Result.andThen]
 cases hl : lookM m k with
 | none =>
  have h1 := findNow_miss k m _ 0 hm hl
  simp [Instr.lookup, run_underlying hT, MapKept.run_getObj_map hb, hc, hf, h1, hz, Result.andThen]
 | some v =>
  obtain ⟨j, h1, _⟩ := findNow_hit k m _ 0 v hm hl
  simp [Instr.lookup, run_underlying hT, MapKept.run_getObj_map hb, hc, hf, h1, Result.andThen]

/-- 'm[k] = v': the map's block alone has turned. -/
theorem run_upd (w : World) (b : Nat) (m : List (Int × Value)) (k : Int) (u : Value) (hT : P.underlying T = some (.map K E)) (hK : P.underlying K = some (.int .i64)) (h : IMap w b m) :
  ∃ w', (Instr.mapUpdate T (.map (some b)) (.int .i64 k) u).run P w = .ok () w' ∧ IMap w' b (updM m k u) ∧ OneTurn b w w' := by
 suffices hs : ∃ o, (Instr.mapUpdate T (.map (some b)) (.int .i64 k) u).run P w = .ok () { w with heap := w.heap.setIfInBounds b o } ∧ IMap { w with heap := w.heap.setIfInBounds b o } b (updM m k u) by
  obtain ⟨o, h1, h2⟩ := hs; exact ⟨_, h1, h2, OneTurn.mk_ b w o⟩
 have hlt := h.lt
 obtain ⟨es, c, hb, hm, hst⟩ := h
 have hc : ∀ em, (Instr.checkKey em 10000 K (.int .i64 k)).run P w = .ok () w := fun em => MapKept.run_checkKey (k := .int .i64 k) hK (by simp [MapKept.IsKey]) em 9999
 have hnew : ∀ o : Obj, ({ w with heap := w.heap.setIfInBounds b o } : World).heap[b]? = some o := fun o => by simp [hlt]
 cases hl : lookM m k with
 | none =>
  have h1 := findNow_miss k m _ 0 hm hl
  have hf : (Instr.findKey K (.int .i64 k) es.toList).run P w = .ok none w := by simp [Instr.findKey, run_underlying hK, h1, Result.andThen]
  refine ⟨_, ?_, es.push { key := .int .i64 k, val := u, born := c }, c + 1, hnew _, ?_, ?_⟩
  ·simp [Instr.mapUpdate, run_underlying hT, MapKept.run_getObj_map hb, hc, hf, MapKept.run_setObj_map _ hb, Result.andThen]
  ·rw [updM_miss k u m hl]; simp [hm]
  ·exact MapKept.stamped_push hst (fun x hx e => findNow_none k m _ 0 hm hl x hx e)
 | some v =>
  obtain ⟨j, h1, ⟨e, he, hek⟩, h3⟩ := findNow_hit k m _ 0 v hm hl
  have hf : (Instr.findKey K (.int .i64 k) es.toList).run P w = .ok (some (j, v)) w := by simp [Instr.findKey, run_underlying hK, h1, Result.andThen]
  have hej : es[j]? = some e := by simpa using he
  refine ⟨_, ?_, es.modify j (fun e => { e with key := .int .i64 k, val := u }), c, hnew _, ?_, ?_⟩
  ·simp [Instr.mapUpdate, run_underlying hT, MapKept.run_getObj_map hb, hc, hf, hej, hek, MapKept.run_keyThatStays (d := .int .i64) (k := .int .i64 k) (by simp [MapKept.IsKey]), MapKept.run_setObj_map _ hb, Result.andThen]
  ·rw [Array.toList_modify]; exact h3 u
  ·exact MapKept.stamped_modify hst j _ (fun _ _ => rfl) (fun e' _ he' => by rw [hej] at he'; cases he'; exact hek.symm)
end
end Go.Proofs.Ytdamibblnjeooaa.H

/- What package bids asks of two bids: the set of a bid's lots, slices.ContainsFunc over ints, Conflict. -/
namespace Go.Proofs.Ytdamibblnjeooaa.H
open Go.RowKit Go.Proofs.YtdamibblnjeooaaW.PrintWords Go.Proofs.YtdamibblnjeooaaW.PrintLast Go.Proofs.YtdamibblnjeooaaW.PrintMore
set_option linter.unusedVariables false

/-- The first place at which p holds. -/
def idxP (p : Int → Bool) (xs : List Int) : Int := if xs.any p then (xs.findIdx p : Int) else -1
theorem idxP_yes (p : Int → Bool) (xs : List Int) (k : Nat) (hk : k < xs.length) (h0 : ∀ x ∈ xs.take k, p x = false) (h1 : p (xs.getD k 0) = true) : idxP p xs = k := by
 have hg : xs.getD k 0 = xs[k] := by simp [List.getD, hk]
 have ha : xs.any p = true := by rw [List.any_eq_true]; exact ⟨xs[k], List.getElem_mem hk, by rw [← hg]; exact h1⟩
 unfold idxP; rw [if_pos ha]
 have : xs.findIdx p = k := by
  rw [List.findIdx_eq hk]; refine ⟨by rw [← hg]; exact h1, fun j hj => ?_⟩
  have := h0 (xs[j]'(by omega)) (by rw [List.mem_take_iff_getElem]; exact ⟨j, by omega, rfl⟩)
  simpa using this
 rw [this]
theorem idxP_no (p : Int → Bool) (xs : List Int) (h0 : ∀ x ∈ xs, p x = false) : idxP p xs = -1 := by
 unfold idxP; rw [if_neg]; simp only [List.any_eq_true, not_exists, not_and, Bool.not_eq_true]; exact h0
theorem idxP_ge (p : Int → Bool) (xs : List Int) : decide (0 ≤ idxP p xs) = xs.any p := by
 unfold idxP; split <;> simp_all
theorem take_succ_all (p : Int → Bool) (xs : List Int) (k : Nat) (hk : k < xs.length) (h0 : ∀ x ∈ xs.take k, p x = false) (h1 : p (xs.getD k 0) = false) : ∀ x ∈ xs.take (k + 1), p x = false := by
 have hg : xs.getD k 0 = xs[k] := by simp [List.getD, hk]
 intro x hx
 rw [List.take_succ_eq_append_getElem hk, List.mem_append, List.mem_singleton] at hx
 rcases hx with hx | rfl
 ·exact h0 x hx
 ·rw [← hg]; exact h1
set_option maxHeartbeats 1000000 in
/-- slices.IndexFunc over ints: whatever the predicate, as far as it only makes new memory. -/
theorem indexFunc_calls (g : Nat) (caps : Array Value) (p : Int → Bool) (A : Option Addr) (c : Nat) (xs : List Int) (w : World) (hr : Kd.C (Kd.int .i64) w A xs.length xs)
  (hg : ∀ args w, (callFunc g args).run Try.prog w = .ok (.enter g args) w)
  (hp : ∀ x W, x ∈ xs → Below w.heap.size w W → Calls Try.prog g (#[.int .i64 x] ++ caps) W (fun e W' => e = .returned (.bool (p x)) ∧ Below W.heap.size W W')) :
  Calls Try.prog 76 #[.slice A xs.length c, .func (.func g) #[] caps] w (fun e w' => e = .returned (.int .i64 (idxP p xs)) ∧ Below w.heap.size w w') := by
 have hl : xs.length ≤ 9223372036854775807 := hr.2.1
 go_enter Try.func76, Try.ntmps76
 go_wp2
 go_loopw [8] (fun i wr => ∃ k : Nat, k ≤ xs.length ∧ i = .int .i64 k ∧ Aside0 (∀ x ∈ xs.take k, p x = false) ∧ Below w.heap.size w wr) (fun i _ => xs.length - (intOf i).toNat)
 case atStart => exact ⟨0, by omega, rfl, ⟨by simp⟩, Below.refl _ _⟩
 case round =>
  obtain ⟨k, hk, rfl, hpk, hB⟩ := hrel
  by_cases hlt : k < xs.length
  ·obtain ⟨ad, e, hcell⟩ := Kd.at_int (Kd.C_below hr hB) k (by omega) (by omega)
   have hpx := hp (rd xs k) wr (by simp [rd, List.getD, hlt]) hB
   subst e; rw [Int.toNat_natCast] at hcell
   cases hb : p (rd xs k)
   all_goals
    rw [hb] at hpx
    have Hp := Aside0.mk hpx
    have Hb := Aside0.mk hb
    clear hpx hb hp
    go_wp2_with fail
    refine Hp.out.mono ?_
    rintro e w' ⟨rfl, hb2⟩
    go_wp2
   ·go_roundw
    case rel => exact ⟨k + 1, by omega, by go_num, ⟨take_succ_all p xs k hlt hpk.out Hb.out⟩, hB.trans (hb2.mono hB.size)⟩
    case measure => simp [intOf]; omega
   ·go_ret
    exact ⟨by rw [idxP_yes p xs k hlt hpk.out Hb.out]; rfl, hB.trans (hb2.mono hB.size)⟩
  ·obtain rfl : k = xs.length := by omega
   go_wp2
   go_ret
   exact ⟨by rw [idxP_no p xs (by simpa using hpk.out)]; rfl, hB⟩
set_option maxHeartbeats 1000000 in
/-- slices.ContainsFunc over ints. -/
theorem containsFunc_calls (g : Nat) (caps : Array Value) (p : Int → Bool) (A : Option Addr) (c : Nat) (xs : List Int) (w : World) (hr : Kd.C (Kd.int .i64) w A xs.length xs)
  (hg : ∀ args w, (callFunc g args).run Try.prog w = .ok (.enter g args) w)
  (hp : ∀ x W, x ∈ xs → Below w.heap.size w W → Calls Try.prog g (#[.int .i64 x] ++ caps) W (fun e W' => e = .returned (.bool (p x)) ∧ Below W.heap.size W W')) :
  Calls Try.prog 51 #[.slice A xs.length c, .func (.func g) #[] caps] w (fun e w' => e = .returned (.bool (xs.any p)) ∧ Below w.heap.size w w') := by
 have H := Aside0.mk (indexFunc_calls g caps p A c xs w hr hg hp)
 have hge := idxP_ge p xs
 have Hge := Aside0.mk hge
 clear hge hr hp hg
 go_enter Try.func51, Try.ntmps51
 go_wp2_with fail
 refine H.out.mono ?_
 rintro e w' ⟨rfl, hb⟩
 generalize hz : idxP p xs = z at *
 clear hz
 go_wp2
 go_ret
 exact ⟨by rw [← Hge.out]; rfl, hb⟩

/-- A set of ints. -/
def IsSet (w : World) (b : Nat) (xs : List Int) : Prop := ∃ m, IMap w b m ∧ ∀ k, (lookM m k).getD (.bool false) = .bool (xs.contains k)
theorem look_upd (m : List (Int × Value)) (k : Int) (v : Value) (j : Int) : lookM (updM m k v) j = if j = k then some v else lookM m j := by
 induction m with
 | nil => by_cases h : j = k <;> simp [updM, lookM, h]; exact fun e => absurd e.symm h
 | cons p m ih =>
  obtain ⟨q, u⟩ := p
  by_cases hq : q = k
  ·subst hq; simp only [updM, if_true, lookM]
   by_cases h : q = j
   ·rw [if_pos h, if_pos h.symm]
   ·rw [if_neg h, if_neg (fun e => h e.symm), if_neg h]
  ·simp only [updM, if_neg hq, lookM, ih]
   by_cases h : q = j
   ·subst h; rw [if_pos rfl, if_neg hq, if_pos rfl]
   ·rw [if_neg h, if_neg h]
theorem set_snoc {m : List (Int × Value)} {xs : List Int} {x : Int} (h : ∀ k, (lookM m k).getD (.bool false) = .bool (xs.contains k)) : ∀ k, (lookM (updM m x (.bool true)) k).getD (.bool false) = .bool ((xs ++ [x]).contains k) := by
 intro k
 rw [look_upd]
 by_cases hk : k = x
 ·subst hk; rw [if_pos rfl]; simp
 ·rw [if_neg hk, h k]; simp [hk]
theorem zero_bool (w : World) : (zeroValue 4).run Try.prog w = .ok (.bool false) w := by kernel_rfl
set_option maxHeartbeats 1000000 in
/-- bids.set: a new map. -/
theorem set_calls (b0 b1 : Int) (A : Option Addr) (c : Nat) (xs : List Int) (w : World) (hr : Kd.C (Kd.int .i64) w A xs.length xs) :
  Calls Try.prog 83 #[.agg #[.int .i64 b0, .int .i64 b1, .slice A xs.length c]] w (fun e w' => ∃ b, e = .returned (.map (some b)) ∧ IsSet w' b xs ∧ w.heap.size ≤ b ∧ Below w.heap.size w w') := by
 have hl : xs.length ≤ 9223372036854775807 := hr.2.1
 have hmm := @run_makeMap Try.prog
 go_enter Try.func83, Try.ntmps83
 go_wp2
 have hset0 : IsSet ((w.alloc (.cells #[.int .i64 b0, .int .i64 b1, .slice A xs.length c] 82)).alloc (.map #[] 0)) (w.heap.size + 1) [] :=
  ⟨[], ⟨#[], 0, by simpa using heap_alloc_new (w.alloc (.cells #[.int .i64 b0, .int .i64 b1, .slice A xs.length c] 82)) (.map #[] 0), rfl, MapKept.stamped_empty 0⟩, fun k => rfl⟩
 have hB0 : Below w.heap.size w ((w.alloc (.cells #[.int .i64 b0, .int .i64 b1, .slice A xs.length c] 82)).alloc (.map #[] 0)) := ((Below.refl _ w).alloc (Nat.le_refl _) _).alloc (by simp) _
 go_loopw [10] (fun i wr => ∃ k : Nat, k ≤ xs.length ∧ i = .int .i64 k ∧ Aside0 (IsSet wr (w.heap.size + 1) (xs.take k)) ∧ Aside0 (Below w.heap.size w wr)) (fun i _ => xs.length - (intOf i).toNat)
 case atStart => exact ⟨0, by omega, rfl, ⟨by simpa using hset0⟩, ⟨hB0⟩⟩
 case round =>
  clear hset0 hB0
  obtain ⟨k, hk, rfl, hS, hB⟩ := hrel
  by_cases hlt : k < xs.length
  ·obtain ⟨ad, e, hcell⟩ := Kd.at_int (Kd.C_below hr hB.out) k (by omega) (by omega)
   subst e; rw [Int.toNat_natCast] at hcell
   obtain ⟨m, him, hm⟩ := hS.out
   have hm' := Aside0.mk (set_snoc (x := rd xs k) hm)
   obtain ⟨w', hrun, him', hot⟩ := run_upd (P := Try.prog) wr (w.heap.size + 1) m (rd xs k) (.bool true) Try.underlying138 Try.underlying3 him
   have Him := Aside0.mk him'
   have Hot := Aside0.mk hot
   clear hm him him' hot
   have hts : xs.take (k + 1) = xs.take k ++ [rd xs k] := by rw [List.take_succ_eq_append_getElem hlt]; simp [rd, List.getD, hlt]
   have Hts := Aside0.mk hts
   clear hts hr
   go_wp2
   go_roundw
   case rel => exact ⟨k + 1, by omega, by go_num, ⟨by rw [Hts.out]; exact ⟨_, Him.out, hm'.out⟩⟩, ⟨hB.out.trans (Hot.out.below (by omega))⟩⟩
   case measure => simp [intOf]; omega
  ·obtain rfl : k = xs.length := by omega
   go_wp2
   go_ret
   exact ⟨w.heap.size + 1, rfl, by simpa using hS.out, by omega, hB.out⟩
set_option maxHeartbeats 1000000 in
/-- The closure of Conflict: is x in the set? -/
theorem conflict1_calls (x : Int) (W : World) (bc b : Nat) (xs : List Int) (hc : W.cell? ⟨bc, 0, none⟩ = some (.map (some b))) (hs : IsSet W b xs) :
  Calls Try.prog 84 #[.int .i64 x, .pointer (some ⟨bc, 0, none⟩)] W (fun e W' => e = .returned (.bool (xs.contains x)) ∧ Below W.heap.size W W') := by
 obtain ⟨m, him, hm⟩ := hs
 have hrun := run_look (P := Try.prog) W b m x Try.underlying138 Try.underlying3 him (.bool false) zero_bool
 rw [hm x] at hrun
 generalize xs.contains x = r at *
 clear him hm
 go_enter Try.func84, Try.ntmps84
 go_wp2
 go_ret
 exact ⟨rfl, Below.refl _ _⟩
theorem enter_conflict1 : ∀ args w, (callFunc 84 args).run Try.prog w = .ok (.enter 84 args) w := fun args w => by kernel_rfl
/-- What lay before lies as it lay. -/
theorem bcell {W w1 : World} (hb : Below W.heap.size W w1) : (∀ b o, b < W.heap.size → w1.cell? ⟨b, o, none⟩ = W.cell? ⟨b, o, none⟩) ∧ (∀ b o, b < W.heap.size → w1.frozen? ⟨b, o, none⟩ = W.frozen? ⟨b, o, none⟩) :=
 ⟨fun b o h => hb.cell (p := ⟨b, o, none⟩) h, fun b o h => hb.frozen (p := ⟨b, o, none⟩) h⟩
set_option maxHeartbeats 1000000 in
/-- bids.Conflict. -/
theorem bids_Conflict.calls (a0_0 : Int) (a0_1 : Int) (A0_2 : Option Addr) (c0_2 : Nat) (l0_2 : List Int) (a1_0 : Int) (a1_1 : Int) (A1_2 : Option Addr) (c1_2 : Nat) (l1_2 : List Int) (r : Bool) (w : World) (hr0_2 : Kd.C (Kd.int .i64) w A0_2 l0_2.length l0_2) (hc0_2 : l0_2.length ≤ c0_2) (hr1_2 : Kd.C (Kd.int .i64) w A1_2 l1_2.length l1_2) (hc1_2 : l1_2.length ≤ c1_2) (h : bids_Conflict.f a0_0 a0_1 l0_2 a1_0 a1_1 l1_2 = some r) :
  Calls Try.prog 67 #[.agg #[.int .i64 a0_0, .int .i64 a0_1, .slice A0_2 l0_2.length c0_2], .agg #[.int .i64 a1_0, .int .i64 a1_1, .slice A1_2 l1_2.length c1_2]] w fun e w' => e = .returned (.bool r) ∧ Below w.heap.size w w' := by
 obtain rfl := Option.some.inj h
 clear h
 simp only [conf]
 have Hset := fun W (hW : Below w.heap.size w W) => set_calls a0_0 a0_1 A0_2 c0_2 l0_2 W (Kd.C_below hr0_2 hW)
 have HS := Aside0.mk Hset
 clear Hset
 by_cases hb : a0_0 = a1_0
 ·subst hb
  simp only [BEq.rfl, Bool.true_or]
  go_enter Try.func67, Try.ntmps67
  go_wp2_with fail
  refine (HS.out _ (((Below.refl _ w).alloc (Nat.le_refl _) _).alloc (by simp) _)).mono ?_
  rintro e w1 ⟨b, rfl, hs, hge, hb1⟩
  obtain ⟨hc, hf⟩ := bcell hb1
  have hz : w.heap.size + 1 < w1.heap.size := by have := hb1.size; simp at this; omega
  have hz0 : w.heap.size < w1.heap.size := by omega
  clear hs hge
  go_wp2
  go_ret
  exact ⟨rfl, ((((Below.refl _ w).alloc (Nat.le_refl _) _).alloc (by simp) _).trans (hb1.mono (by simp; omega))).alloc (by omega) _⟩
 ·have hbf : (a0_0 == a1_0) = false := by simpa using hb
  rw [hbf, Bool.false_or]
  clear hb
  go_enter Try.func67, Try.ntmps67
  go_wp2_with fail
  refine (HS.out _ (((Below.refl _ w).alloc (Nat.le_refl _) _).alloc (by simp) _)).mono ?_
  rintro e w1 ⟨b, rfl, hs, hge, hb1⟩
  have hBw : Below w.heap.size w w1 := (((Below.refl _ w).alloc (Nat.le_refl _) _).alloc (by simp) _).trans (hb1.mono (by simp; omega))
  obtain ⟨hc, hf⟩ := bcell hb1
  have hz : w.heap.size + 1 < w1.heap.size := by have := hb1.size; simp at this; omega
  have hz0 : w.heap.size < w1.heap.size := by omega
  have hC : Kd.C (Kd.int .i64) (w1.alloc (.cells #[.map (some b)] 138)) A1_2 l1_2.length l1_2 := Kd.C_below hr1_2 (hBw.alloc (by omega) _)
  have hbl : b < w1.heap.size := by obtain ⟨m, him, _⟩ := hs; exact him.lt
  have Hcf := Aside0.mk (containsFunc_calls 84 #[.pointer (some ⟨w1.heap.size, 0, none⟩)] (fun x => l0_2.contains x) A1_2 c1_2 l1_2 _ hC enter_conflict1 (fun x W' _ hW' => conflict1_calls x W' w1.heap.size b l0_2
   ((hW'.cell (p := ⟨w1.heap.size, 0, none⟩) (by simp)).trans ((blk_cell (heap_alloc_new w1 _) 0).trans rfl))
   (by obtain ⟨m, him, hm⟩ := hs; exact ⟨m, him.keeps ((hW'.block b (by simp; omega)).trans (Below.heap_alloc w1 _ b hbl)), hm⟩)))
  clear hs hge hC
  obtain ⟨r0, hr0⟩ : ∃ r0, (l1_2.any fun x => l0_2.contains x) = r0 := ⟨_, rfl⟩
  rw [hr0] at Hcf
  have Hr0 := Aside0.mk hr0
  clear hr0
  go_wp2_with fail
  refine Hcf.out.mono ?_
  rintro e w2 ⟨rfl, hb2⟩
  go_wp2
  go_ret
  exact ⟨by rw [Hr0.out]; rfl, (hBw.alloc (by omega) _).trans (hb2.mono (by simp; omega))⟩
end Go.Proofs.Ytdamibblnjeooaa.H

/- The search of package clear: the closures of better, the iterator, search. -/
namespace Go.Proofs.Ytdamibblnjeooaa.H
open Go.RowKit Go.Proofs.YtdamibblnjeooaaW.PrintWords Go.Proofs.YtdamibblnjeooaaW.PrintLast Go.Proofs.YtdamibblnjeooaaW.PrintMore
set_option linter.unusedVariables false
set_option maxHeartbeats 1000000 in
set_option maxRecDepth 100000 in
/-- The closure that asks whether bid x conflicts with bid i. -/
theorem better111_calls (x i : Int) (W : World) (L I : Nat) (A : Option Addr) (c : Nat) (l : List S82) (hl : W.cell? ⟨L, 0, none⟩ = some (.slice A l.length c)) (hi : W.cell? ⟨I, 0, none⟩ = some (.int .i64 i))
  (hr : Kd.C k82 W A l.length l) (hx0 : 0 ≤ x) (hx : x < l.length) (hi0 : 0 ≤ i) (hil : i < l.length) :
  Calls Try.prog 88 #[.int .i64 x, .pointer (some ⟨L, 0, none⟩), .pointer (some ⟨I, 0, none⟩)] W (fun e W' => e = .returned (.bool (conf (rd_T82 l x) (rd_T82 l i))) ∧ Below W.heap.size W W') := by
 obtain ⟨ad, A2, c2, e, h0, h1, h2, hl2, hk2⟩ := at_T82 hr x hx0 (by omega)
 obtain ⟨ad', A3, c3, e', h0', h1', h2', hl3, hk3⟩ := at_T82 hr i hi0 (by omega)
 rw [e] at e'; cases e'; subst e
 have Hk2 := Aside0.mk hk2
 have Hk3 := Aside0.mk hk3
 have Hl2 := Aside0.mk hl2
 have Hl3 := Aside0.mk hl3
 clear hk2 hk3 hl2 hl3 hr
 go_enter Try.func88, Try.ntmps88
 go_wp2
 go_still_tail 8, (by kernel_rfl)
 change wpList _ _ _ _ _ W.drew
 go_wp2_with fail
 refine (bids_Conflict.calls _ _ _ _ _ _ _ _ _ _ _ W.drew (Kd.C_drew Hk2.out) Hl2.out (Kd.C_drew Hk3.out) Hl3.out rfl).mono ?_
 rintro e w1 ⟨rfl, hb1⟩
 obtain ⟨r0, hr0⟩ : ∃ r0, conf ⟨(rd_T82 l x).f0, (rd_T82 l x).f1, (rd_T82 l x).f2⟩ ⟨(rd_T82 l i).f0, (rd_T82 l i).f1, (rd_T82 l i).f2⟩ = r0 := ⟨_, rfl⟩
 rw [hr0]
 have Hr0 := Aside0.mk hr0
 clear hr0
 go_wp2
 go_ret
 exact ⟨by rw [← Hr0.out]; rfl, ⟨hb1.os, hb1.tape, hb1.output, hb1.size, hb1.block⟩⟩
theorem enter_better111 : ∀ args w, (callFunc 88 args).run Try.prog w = .ok (.enter 88 args) w := fun args w => by kernel_rfl
/-- Best takes every bid. -/
theorem useAll_calls (b0 b1 b2 : Value) (w : World) : Calls Try.prog 61 #[.agg #[b0, b1, b2]] w fun e w' => e = .returned (.bool true) ∧ Below w.heap.size w w' := by
 go_enter Try.func61, Try.ntmps61
 go_wp2
 go_ret
 exact ⟨rfl, (Below.refl _ _).alloc (Nat.le_refl _) _⟩
end Go.Proofs.Ytdamibblnjeooaa.H

/- The recursion of the search: what the closure 'try' of clear.better does to the machine. -/
namespace Go.Proofs.Ytdamibblnjeooaa.H
open Go.RowKit Go.Proofs.YtdamibblnjeooaaW.PrintWords Go.Proofs.YtdamibblnjeooaaW.PrintLast Go.Proofs.YtdamibblnjeooaaW.PrintMore
set_option linter.unusedVariables false
set_option linter.unusedSimpArgs false

/-- The sums of what bids from a place on could add: one more than there are bids. -/
def restsOf (U : S82 → Bool) : List S82 → List Int
 | [] => [0]
 | b :: l => restOf U (b :: l) :: restsOf U l

/-- A search under way: what does not change. w0: the world in which search was called; W1: that in which try is called first. -/
structure SC where
 w0 : World
 W1 : World
 A : Option Addr
 c : Nat
 l : List S82
 u : Nat
 ucaps : Array Value
 U : S82 → Bool
 O : Nat
 V : Nat
 L : Nat
 Uc : Nat
 RR : Nat
 R : Nat
 lp : Nat
 Y : Nat
 B : Nat
 Wn : Nat
 T : Nat
 rec_ : Loop

def SC.caps (s : SC) : Array Value := #[.pointer (some ⟨s.R, 0, none⟩), .pointer (some ⟨s.B, 0, none⟩), .pointer (some ⟨s.L, 0, none⟩), .pointer (some ⟨s.Y, 0, none⟩), .pointer (some ⟨s.Wn, 0, none⟩), .pointer (some ⟨s.Uc, 0, none⟩), .pointer (some ⟨s.T, 0, none⟩)]

structure SC.Ok (s : SC) : Prop where
 read : Kd.C k82 s.w0 s.A s.l.length s.l
 cap : s.l.length ≤ s.c
 few : okBids s.l = true
 use : ∀ (b : S82) (A2 : Option Addr) (c2 : Nat) (W : World), Below s.w0.heap.size s.w0 W → Calls Try.prog s.u (#[.agg #[.int .i64 b.f0, .int .i64 b.f1, .slice A2 b.f2.length c2]] ++ s.ucaps) W (fun e W' => e = .returned (.bool (s.U b)) ∧ Below W.heap.size W W')
 enter : ∀ args w, (callFunc s.u args).run Try.prog w = .ok (.enter s.u args) w
 below : Below s.w0.heap.size s.w0 s.W1
 o1 : s.w0.heap.size ≤ s.O
 o2 : s.O < s.V
 o3 : s.V < s.L
 o4 : s.L < s.Uc
 o5 : s.Uc < s.RR
 o6 : s.RR < s.R
 o7 : s.R < s.lp
 o8 : s.lp < s.Y
 o9 : s.Y < s.B
 o10 : s.B < s.Wn
 o11 : s.Wn < s.T
 o12 : s.T < s.W1.heap.size
 hR : s.W1.heap[s.R]? = some (.cells #[.slice (some ⟨s.RR, 0, none⟩) (s.l.length + 1) (s.l.length + 1)] 22 (0, 0))
 hRR : s.W1.heap[s.RR]? = some (.cells ((restsOf s.U s.l).map (Value.int .i64)).toArray 3 (0, 0))
 hL : s.W1.heap[s.L]? = some (.cells #[.slice s.A s.l.length s.c] 40 (0, 0))
 hU : s.W1.heap[s.Uc]? = some (.cells #[.func (.func s.u) #[] s.ucaps] 113 (0, 0))
 hY : s.W1.heap[s.Y]? = some (.cells #[.func (.yield s.lp) #[] #[]] 80 (0, 0))
 hT : s.W1.heap[s.T]? = some (.cells #[.func (.func 87) #[] s.caps] 124 (0, 0))
 hlp : s.W1.heap[s.lp]? = some (.loop s.rec_)

/-- How a search stands in W. P: blocks that are not to be touched. -/
structure SC.St (s : SC) (P : Nat → Prop) (W : World) (win : List Int) (best : Int) (out : List Int) (val : Int) : Prop where
 os : W.os = s.W1.os
 tape : W.tape = s.W1.tape
 output : W.output = s.W1.output
 size : s.W1.heap.size ≤ W.heap.size
 fix : ∀ k, k < s.W1.heap.size → k ≠ s.O → k ≠ s.V → k ≠ s.B → k ≠ s.Wn → W.heap[k]? = s.W1.heap[k]?
 best : W.heap[s.B]? = some (.cells #[.int .i64 best] 3 (0, 0))
 val : W.heap[s.V]? = some (.cells #[.int .i64 val] 3 (0, 0))
 rows : ∃ vw vo, W.heap[s.Wn]? = some (.cells #[vw] 22 (0, 0)) ∧ W.heap[s.O]? = some (.cells #[vo] 22 (0, 0)) ∧
  Kd.R (Kd.int .i64) 3 W s.W1.heap.size (fun k => ¬ P k) vw win ∧ Kd.R (Kd.int .i64) 3 W s.W1.heap.size (fun k => some k ≠ vw.ownBlock) vo out
 prot : ∀ k, P k → s.W1.heap.size ≤ k ∧ k < W.heap.size

/-- What a round of the loop over the iterator does: it takes what is told. -/
def SC.Yields (s : SC) : Prop := ∀ (P : Nat → Prop) (W : World) (win : List Int) (best : Int) (out : List Int) (val : Int) (vw : Value) (v : Int),
 s.St P W win best out val → W.heap[s.Wn]? = some (.cells #[vw] 22 (0, 0)) → win.length ≤ 1099511627776 →
 YieldAt Fence.wide 0 Try.prog s.lp #[vw, .int .i64 v] W (fun e W' => e = .returned (.bool true) ∧ s.St P W' win best win v ∧ (∀ k, P k → W'.heap[k]? = W.heap[k]?) ∧ W.heap.size ≤ W'.heap.size)
theorem infoI : (Try.prog.info? 3).map (fun i => (i.zero, i.size, i.bytes)) = some (some (.int .i64 0), 1, 8) := by kernel_rfl
theorem SC.Ok.n1 {s : SC} (h : s.Ok) : s.w0.heap.size < s.W1.heap.size := by
 have := h.o1; have := h.o2; have := h.o3; have := h.o4; have := h.o5; have := h.o6; have := h.o7; have := h.o8; have := h.o9; have := h.o10; have := h.o11; have := h.o12; omega
theorem restsOf_len (U : S82 → Bool) (l : List S82) : (restsOf U l).length = l.length + 1 := by
 induction l with
 | nil => rfl
 | cons b l ih => simp [restsOf, ih]
theorem restsOf_get (U : S82 → Bool) : ∀ (l : List S82) (i : Nat), i ≤ l.length → (restsOf U l)[i]? = some (restOf U (l.drop i))
 | [], i, h => by
  obtain rfl : i = 0 := by simpa using h
  rfl
 | b :: l, 0, _ => rfl
 | b :: l, i + 1, h => by simp only [restsOf, List.getElem?_cons_succ, List.drop_succ_cons]; exact restsOf_get U l i (by simpa using h)

theorem sum_okBids (U : S82 → Bool) : ∀ l : List S82, (l.all fun b => decide (1 ≤ b.f1) && decide (b.f1 ≤ 1099511627776)) = true → 0 ≤ restOf U l ∧ restOf U l ≤ (l.length : Int) * 1099511627776
 | [], _ => by simp [restOf]
 | b :: l, h => by
  simp only [List.all_cons, Bool.and_eq_true, decide_eq_true_eq] at h
  have := sum_okBids U l h.2
  simp only [restOf, List.length_cons]
  split <;> omega
theorem restOf_bounds {l : List S82} (h : okBids l = true) (i : Nat) (U : S82 → Bool) (hi : i ≤ l.length) : 0 ≤ restOf U (l.drop i) ∧ restOf U (l.drop i) ≤ ((l.length : Int) - i) * 1099511627776 := by
 simp only [okBids, Bool.and_eq_true, decide_eq_true_eq] at h
 have := sum_okBids U (l.drop i) (by
  rw [List.all_eq_true] at h ⊢
  exact fun x hx => by simpa using h.2 x (List.mem_of_mem_drop hx))
 simp only [List.length_drop] at this
 omega
theorem SC.Ok.len {s : SC} (h : s.Ok) : s.l.length ≤ 10 := by
 have := h.few
 simp only [okBids, Bool.and_eq_true, decide_eq_true_eq] at this
 exact this.1
section
variable {s : SC} {P : Nat → Prop} {W W' : World} {win : List Int} {best : Int} {out : List Int} {val : Int}
theorem blk_lt' {W : World} {k : Nat} {o : Obj} (h : W.heap[k]? = some o) : k < W.heap.size := (Array.getElem?_eq_some_iff.1 h).1
/-- Whatever is new alone. -/
theorem SC.St.step (h : s.St P W win best out val) (hb : Below W.heap.size W W') : s.St P W' win best out val := by
 obtain ⟨vw, vo, h1, h2, h3, h4⟩ := h.rows
 exact ⟨hb.os.trans h.os, hb.tape.trans h.tape, hb.output.trans h.output, Nat.le_trans h.size hb.size, fun k hk a b c d => (hb.block k (Nat.lt_of_lt_of_le hk h.size)).trans (h.fix k hk a b c d),
  (hb.block _ (blk_lt' h.best)).trans h.best, (hb.block _ (blk_lt' h.val)).trans h.val,
  ⟨vw, vo, (hb.block _ (blk_lt' h1)).trans h1, (hb.block _ (blk_lt' h2)).trans h2, Kd.R_below h3 hb, Kd.R_below h4 hb⟩, fun k hk => ⟨(h.prot k hk).1, Nat.lt_of_lt_of_le (h.prot k hk).2 hb.size⟩⟩
theorem SC.St.protect (h : s.St P W win best out val) (o : Obj) : s.St (fun k => P k ∨ k = W.heap.size) (W.alloc o) win best out val := by
 have hb : Below W.heap.size W (W.alloc o) := (Below.refl _ W).alloc (Nat.le_refl _) o
 have h' := h.step hb
 obtain ⟨vw, vo, h1, h2, h3, h4⟩ := h.rows
 obtain ⟨vw', vo', h1', h2', h3', h4'⟩ := h'.rows
 have e : vw' = vw := by rw [hb.block _ (blk_lt' h1), h1] at h1'; simpa using h1'.symm
 subst e
 refine ⟨h'.os, h'.tape, h'.output, h'.size, h'.fix, h'.best, h'.val, ⟨vw', vo', h1', h2', ?_, h4'⟩, ?_⟩
 ·have h5 := Kd.R_bound h3
  exact Kd.R_mono (Kd.R_below h5 hb) (fun k hk hp => hp.elim hk.1 (fun e => absurd hk.2.2.1 (by omega)))
 ·rintro k (hk | rfl)
  ·exact h'.prot k hk
  ·exact ⟨h.size, by simp⟩
theorem SC.St.weaken {P' : Nat → Prop} (h : s.St P W win best out val) (hp : ∀ k, P' k → P k) : s.St P' W win best out val := by
 obtain ⟨vw, vo, h1, h2, h3, h4⟩ := h.rows
 exact ⟨h.os, h.tape, h.output, h.size, h.fix, h.best, h.val, ⟨vw, vo, h1, h2, Kd.R_mono h3 (fun k hk hp' => hk (hp k hp')), h4⟩, fun k hk => h.prot k (hp k hk)⟩
theorem SC.St.setBest (h : s.St P W win best out val) (hs : s.Ok) (v : Int) : s.St P (W.setCell ⟨s.B, 0, none⟩ (.int .i64 v)) win v out val := by
 have a := hs.o1; have b := hs.o2; have c := hs.o3; have d := hs.o4; have e := hs.o5; have f := hs.o6; have g := hs.o7; have i := hs.o8; have j := hs.o9; have k' := hs.o10; have l := hs.o11; have m := hs.o12
 have hf : ∀ k, k ≠ s.B → (W.setCell ⟨s.B, 0, none⟩ (.int .i64 v)).heap[k]? = W.heap[k]? := fun k hk => Below.heap_setCell W ⟨s.B, 0, none⟩ _ k hk
 obtain ⟨vw, vo, h1, h2, h3, h4⟩ := h.rows
 have hB : Below s.B W (W.setCell ⟨s.B, 0, none⟩ (.int .i64 v)) := (Below.refl _ W).setCell (p := ⟨s.B, 0, none⟩) (Nat.le_refl _) _
 refine ⟨h.os, h.tape, h.output, Nat.le_trans h.size hB.size, fun k hk a b c d => (hf k c).trans (h.fix k hk a b c d), by simpa using blk_set h.best 0 (.int .i64 v), (hf _ (by omega)).trans h.val,
  ⟨vw, vo, (hf _ (by omega)).trans h1, (hf _ (by omega)).trans h2, ?_, ?_⟩, fun k hk => ⟨(h.prot k hk).1, Nat.lt_of_lt_of_le (h.prot k hk).2 hB.size⟩⟩
 ·exact Kd.R_mono (Kd.R_far (Kd.R_bound h3) (fun k hk => by have := hk.2.1; show k ≠ s.B; omega) _) (fun k hk => hk.1)
 ·exact Kd.R_mono (Kd.R_far (Kd.R_bound h4) (fun k hk => by have := hk.2.1; show k ≠ s.B; omega) _) (fun k hk => hk.1)
theorem SC.St.push {vw vA : Value} {wA : World} {xs : List Int} (h : s.St P W win best out val) (hs : s.Ok) (hv : W.heap[s.Wn]? = some (.cells #[vw] 22 (0, 0))) (hr : Kd.R (Kd.int .i64) 3 W s.W1.heap.size (fun k => ¬ P k) vw win)
  (hA : Kd.R (Kd.int .i64) 3 wA s.W1.heap.size (fun k => ¬ P k) vA xs) (hg : W.grownBy wA vw.ownBlock) (hat : vA.ownBlock = vw.ownBlock ∨ ∃ b, vA.ownBlock = some b ∧ W.heap.size ≤ b) :
  s.St P (wA.setCell ⟨s.Wn, 0, none⟩ vA) xs best out val ∧ (∀ k, P k → (wA.setCell ⟨s.Wn, 0, none⟩ vA).heap[k]? = W.heap[k]?) ∧ W.heap.size ≤ (wA.setCell ⟨s.Wn, 0, none⟩ vA).heap.size := by
 have a := hs.o1; have b := hs.o2; have c := hs.o3; have d := hs.o4; have e := hs.o5; have f := hs.o6; have g := hs.o7; have i := hs.o8; have j := hs.o9; have k' := hs.o10; have l := hs.o11; have m := hs.o12
 have hf : ∀ k, k ≠ s.Wn → (wA.setCell ⟨s.Wn, 0, none⟩ vA).heap[k]? = wA.heap[k]? := fun k hk => Below.heap_setCell wA ⟨s.Wn, 0, none⟩ _ k hk
 have hB : Below s.Wn wA (wA.setCell ⟨s.Wn, 0, none⟩ vA) := (Below.refl _ wA).setCell (p := ⟨s.Wn, 0, none⟩) (Nat.le_refl _) _
 have hlow : ∀ k, k < s.W1.heap.size → wA.heap[k]? = W.heap[k]? := fun k hk => hg.block k (Nat.lt_of_lt_of_le hk h.size) (fun e => by have := Kd.R_base hr k e.symm; omega)
 have hP : ∀ k, P k → (wA.setCell ⟨s.Wn, 0, none⟩ vA).heap[k]? = W.heap[k]? := fun k hk => (hf k (by have := (h.prot k hk).1; omega)).trans (hg.block k (h.prot k hk).2 (fun e => hr.1 k e.symm hk))
 have hsz : W.heap.size ≤ (wA.setCell ⟨s.Wn, 0, none⟩ vA).heap.size := Nat.le_trans hg.size hB.size
 obtain ⟨vw', vo, h1, h2, h3, h4⟩ := h.rows
 obtain rfl : vw' = vw := by rw [hv] at h1; simpa using h1.symm
 have hne : ∀ k, s.W1.heap.size ≤ k → k ≠ s.Wn := fun k hk => by omega
 refine ⟨⟨hg.os.trans h.os, hg.tape.trans h.tape, hg.output.trans h.output, Nat.le_trans h.size hsz, fun k hk a b c d => (hf k d).trans ((hlow k hk).trans (h.fix k hk a b c d)),
  (hf _ (by omega)).trans ((hlow _ (by omega)).trans h.best), (hf _ (by omega)).trans ((hlow _ (by omega)).trans h.val),
  ⟨vA, vo, by simpa using blk_set ((hlow _ (by omega)).trans hv) 0 vA, (hf _ (by omega)).trans ((hlow _ (by omega)).trans h2), ?_, ?_⟩, fun k hk => ⟨(h.prot k hk).1, Nat.lt_of_lt_of_le (h.prot k hk).2 hsz⟩⟩, hP, hsz⟩
 ·exact Kd.R_mono (Kd.R_far (Kd.R_bound hA) (fun k hk => hne k hk.2.1) _) (fun k hk => hk.1)
 ·have h5 := Kd.R_grown (Kd.R_bound h4) hg (fun k hk => hk.1)
  refine Kd.R_mono (Kd.R_far h5 (fun k hk => hne k hk.2.1) _) (fun k hk => ?_)
  rcases hat with hat | ⟨b, hat, hb⟩
  ·rw [hat]; exact hk.1
  ·rw [hat]; intro e; injection e with e; have := hk.2.2.1; omega
theorem SC.St.below (h : s.St P W win best out val) (hs : s.Ok) : Below s.w0.heap.size s.w0 W := by
 have a := hs.o1; have b := hs.o2; have c := hs.n1; have d := hs.o3; have e := hs.o9; have f := hs.o10; have g := hs.o4; have i := hs.o5; have j := hs.o6; have k' := hs.o7; have l := hs.o8
 refine ⟨h.os.trans hs.below.os, h.tape.trans hs.below.tape, h.output.trans hs.below.output, Nat.le_trans hs.below.size h.size, fun k hk => ?_⟩
 exact (h.fix k (by omega) (by omega) (by omega) (by omega) (by omega)).trans (hs.below.block k hk)
end
section
variable {s : SC} {P : Nat → Prop} {W : World} {win : List Int} {best : Int} {out : List Int} {val : Int}
theorem SC.St.hR (h : s.St P W win best out val) (hs : s.Ok) : W.heap[s.R]? = some (.cells #[.slice (some ⟨s.RR, 0, none⟩) (s.l.length + 1) (s.l.length + 1)] 22 (0, 0)) := by
 have a := hs.o1; have b := hs.o2; have c := hs.o3; have d := hs.o4; have e := hs.o5; have f := hs.o6; have g := hs.o7; have i := hs.o8; have j := hs.o9; have k' := hs.o10; have l := hs.o11; have m := hs.o12
 exact (h.fix _ (by omega) (by omega) (by omega) (by omega) (by omega)).trans hs.hR
theorem SC.St.hRR (h : s.St P W win best out val) (hs : s.Ok) : W.heap[s.RR]? = some (.cells ((restsOf s.U s.l).map (Value.int .i64)).toArray 3 (0, 0)) := by
 have a := hs.o1; have b := hs.o2; have c := hs.o3; have d := hs.o4; have e := hs.o5; have f := hs.o6; have g := hs.o7; have i := hs.o8; have j := hs.o9; have k' := hs.o10; have l := hs.o11; have m := hs.o12
 exact (h.fix _ (by omega) (by omega) (by omega) (by omega) (by omega)).trans hs.hRR
theorem SC.St.hL (h : s.St P W win best out val) (hs : s.Ok) : W.heap[s.L]? = some (.cells #[.slice s.A s.l.length s.c] 40 (0, 0)) := by
 have a := hs.o1; have b := hs.o2; have c := hs.o3; have d := hs.o4; have e := hs.o5; have f := hs.o6; have g := hs.o7; have i := hs.o8; have j := hs.o9; have k' := hs.o10; have l := hs.o11; have m := hs.o12
 exact (h.fix _ (by omega) (by omega) (by omega) (by omega) (by omega)).trans hs.hL
theorem SC.St.hU (h : s.St P W win best out val) (hs : s.Ok) : W.heap[s.Uc]? = some (.cells #[.func (.func s.u) #[] s.ucaps] 113 (0, 0)) := by
 have a := hs.o1; have b := hs.o2; have c := hs.o3; have d := hs.o4; have e := hs.o5; have f := hs.o6; have g := hs.o7; have i := hs.o8; have j := hs.o9; have k' := hs.o10; have l := hs.o11; have m := hs.o12
 exact (h.fix _ (by omega) (by omega) (by omega) (by omega) (by omega)).trans hs.hU
theorem SC.St.hY (h : s.St P W win best out val) (hs : s.Ok) : W.heap[s.Y]? = some (.cells #[.func (.yield s.lp) #[] #[]] 80 (0, 0)) := by
 have a := hs.o1; have b := hs.o2; have c := hs.o3; have d := hs.o4; have e := hs.o5; have f := hs.o6; have g := hs.o7; have i := hs.o8; have j := hs.o9; have k' := hs.o10; have l := hs.o11; have m := hs.o12
 exact (h.fix _ (by omega) (by omega) (by omega) (by omega) (by omega)).trans hs.hY
theorem SC.St.hT (h : s.St P W win best out val) (hs : s.Ok) : W.heap[s.T]? = some (.cells #[.func (.func 87) #[] s.caps] 124 (0, 0)) := by
 have a := hs.o1; have b := hs.o2; have c := hs.o3; have d := hs.o4; have e := hs.o5; have f := hs.o6; have g := hs.o7; have i := hs.o8; have j := hs.o9; have k' := hs.o10; have l := hs.o11; have m := hs.o12
 exact (h.fix _ (by omega) (by omega) (by omega) (by omega) (by omega)).trans hs.hT
theorem SC.St.hcRR (h : s.St P W win best out val) (hs : s.Ok) (i : Nat) (hi : i ≤ s.l.length) : W.cell? ⟨s.RR, i, none⟩ = some (.int .i64 (restOf s.U (s.l.drop i))) :=
 (blk_cell (h.hRR hs) i).trans (by simp [restsOf_get s.U s.l i hi])
end
set_option maxHeartbeats 1000000 in
set_option maxRecDepth 100000 in
theorem try_calls (s : SC) (hs : s.Ok) (hy : s.Yields) : ∀ (left : List S82) (i : Nat) (value : Int) (win : List Int) (best : Int) (out : List Int) (val : Int) (W : World) (P : Nat → Prop),
  s.l.drop i = left → i ≤ s.l.length → 0 ≤ value → value + (s.l.length - i : Int) * 1099511627776 ≤ 10 * 1099511627776 → (∀ x ∈ win, 0 ≤ x ∧ x < s.l.length) → win.length ≤ i →
  s.St P W win best out val →
  Calls Try.prog 87 (#[.int .i64 i, .int .i64 value] ++ s.caps) W (fun e W' => e = .returned (.bool true) ∧
   s.St P W' win (tryP s.U s.l left i value win (best, out, val)).1 (tryP s.U s.l left i value win (best, out, val)).2.1 (tryP s.U s.l left i value win (best, out, val)).2.2 ∧
   (∀ k, P k → W'.heap[k]? = W.heap[k]?) ∧ W.heap.size ≤ W'.heap.size) := by
 intro left
 induction left with
 | nil =>
  intro i value win best out val W P hd hi hv0 hv1 hwin hwl hS
  obtain rfl : i = s.l.length := by
   have := congrArg List.length hd
   simp at this; omega
  have hSa := hS.protect (.cells #[.int .i64 (s.l.length : Int)] 3)
  have hIa : (W.alloc (.cells #[.int .i64 (s.l.length : Int)] 3)).heap[W.heap.size]? = some (.cells #[.int .i64 (s.l.length : Int)] 3 (0, 0)) := heap_alloc_new W _
  have hPa : ∀ k, P k → (W.alloc (.cells #[.int .i64 (s.l.length : Int)] 3)).heap[k]? = W.heap[k]? := fun k hk => Below.heap_alloc W _ k (hS.prot k hk).2
  have hza : W.heap.size < (W.alloc (.cells #[.int .i64 (s.l.length : Int)] 3)).heap.size := by simp
  unfold SC.caps
  go_enter Try.func87, Try.ntmps87
  go_wp2
  generalize W.alloc (.cells #[.int .i64 (s.l.length : Int)] 3) = Wa at *
  have hcI : Wa.cell? ⟨W.heap.size, 0, none⟩ = some (.int .i64 (s.l.length : Int)) := (blk_cell hIa 0).trans rfl
  have hcR : Wa.cell? ⟨s.R, 0, none⟩ = some (.slice (some ⟨s.RR, 0, none⟩) (s.l.length + 1) (s.l.length + 1)) := (blk_cell (hSa.hR hs) 0).trans rfl
  have hcB : Wa.cell? ⟨s.B, 0, none⟩ = some (.int .i64 best) := (blk_cell hSa.best 0).trans rfl
  have hcRR : Wa.cell? ⟨s.RR, s.l.length, none⟩ = some (.int .i64 0) := by
   have := hSa.hcRR hs s.l.length (Nat.le_refl _)
   rwa [List.drop_length] at this
  have Hd := Aside0.mk hd
  clear hd
  have hv2 : value ≤ 10995116277760 := by omega
  by_cases hle : value ≤ best
  ·go_quiet (fail)
   generalize hWb : Wa.drewN _ = Wb
   have hSb := hSa.step (W' := Wb) (by rw [← hWb]; exact pw_below_drewN (Below.refl _ _) _)
   have hPb : ∀ k, P k → Wb.heap[k]? = W.heap[k]? := by rw [← hWb]; exact hPa
   have hzb : W.heap.size ≤ Wb.heap.size := by rw [← hWb]; exact Nat.le_of_lt hza
   clear hWb
   go_wp2
   go_ret
   refine ⟨rfl, ?_, hPb, hzb⟩
   simp only [tryP, if_pos hle]
   exact hSb.weaken (fun k hk => .inl hk)
  ·go_quiet (fail)
   generalize hWb : Wa.drewN _ = Wb
   have hSb := hSa.step (W' := Wb) (by rw [← hWb]; exact pw_below_drewN (Below.refl _ _) _)
   have hPb : ∀ k, P k → Wb.heap[k]? = W.heap[k]? := by rw [← hWb]; exact hPa
   have hzb : W.heap.size ≤ Wb.heap.size := by rw [← hWb]; exact Nat.le_of_lt hza
   have hIb : Wb.heap[W.heap.size]? = some (.cells #[.int .i64 (s.l.length : Int)] 3 (0, 0)) := by rw [← hWb]; exact hIa
   clear hWb hcI hcR hcB hcRR hPa hza hIa
   have hcI : Wb.cell? ⟨W.heap.size, 0, none⟩ = some (.int .i64 (s.l.length : Int)) := (blk_cell hIb 0).trans rfl
   have hcL : Wb.cell? ⟨s.L, 0, none⟩ = some (.slice s.A s.l.length s.c) := (blk_cell (hSb.hL hs) 0).trans rfl
   have hcB : Wb.cell? ⟨s.B, 0, none⟩ = some (.int .i64 best) := (blk_cell hSb.best 0).trans rfl
   have hfB : Wb.frozen? ⟨s.B, 0, none⟩ = false := blk_frozen hSb.best 0
   have hSc := hSb.setBest hs value
   have hPc : ∀ k, P k → (Wb.setCell ⟨s.B, 0, none⟩ (.int .i64 value)).heap[k]? = W.heap[k]? := fun k hk => (Below.heap_setCell Wb ⟨s.B, 0, none⟩ _ k (by have := hs.o12; have := hs.o11; have := hs.o10; have := (hS.prot k hk).1; show k ≠ s.B; omega)).trans (hPb k hk)
   have hzc : W.heap.size ≤ (Wb.setCell ⟨s.B, 0, none⟩ (.int .i64 value)).heap.size := Nat.le_trans hzb ((Below.refl s.B Wb).setCell (p := ⟨s.B, 0, none⟩) (Nat.le_refl _) _).size
   go_upto_region 5 with (fail)
   generalize Wb.setCell ⟨s.B, 0, none⟩ (.int .i64 value) = Wc at *
   obtain ⟨vw, vo, h1, h2, h3, h4⟩ := hSc.rows
   obtain ⟨fn, tmps, assign, body, hyr, hR⟩ := hy _ Wc win value out val vw value hSc h1 (by have := hs.len; omega)
   have hcY : Wc.cell? ⟨s.Y, 0, none⟩ = some (.func (.yield s.lp) #[] #[]) := (blk_cell (hSc.hY hs) 0).trans rfl
   have hcW : Wc.cell? ⟨s.Wn, 0, none⟩ = some vw := (blk_cell h1 0).trans rfl
   have HR := Aside0.mk hR
   have HPc := Aside0.mk hPc
   clear hR h1 h2 h3 h4 hPc hcI hcL hcB hfB hPb hSa hSb hS hIb
   refine (wpIn_wide (n := 1)).1 ?_
   gi_wp2
   refine HR.out.mono ?_
   rintro e W3 ⟨rfl, hS3, hP3, hz3⟩
   gi_wp2
   go_wp2
   go_ret
   refine ⟨rfl, ?_, fun k hk => (hP3 k (.inl hk)).trans (HPc.out k hk), Nat.le_trans hzc hz3⟩
   simp only [tryP, if_neg (show ¬ value ≤ best by omega)]
   exact hS3.weaken (fun k hk => .inl hk)
 | cons b left ih =>
  intro i value win best out val W P hd hi hv0 hv1 hwin hwl hS
  have hil : i < s.l.length := by
   have := congrArg List.length hd
   simp at this; omega
  have hgi : rd_T82 s.l i = b := by
   have h1 : s.l[i]? = some b := by
    have := congrArg (fun z => z[0]?) hd
    simpa using this
   simp [rd_T82, List.getD, h1]
  have hd1 : s.l.drop (i + 1) = left := by
   have := congrArg List.tail hd
   simpa using this
  have hrest := restOf_bounds hs.few i (s.U) hi
  rw [hd] at hrest
  obtain ⟨ρ, hρ⟩ : ∃ ρ, restOf s.U (b :: left) = ρ := ⟨_, rfl⟩
  have hcRR0 := fun W' (hSt : s.St (fun k => P k ∨ k = W.heap.size) W' win best out val) => hSt.hcRR hs i hi
  simp only [hd, hρ] at hcRR0
  rw [hρ] at hrest
  have Hρ := Aside0.mk hρ
  have Hd := Aside0.mk hd1
  have Hgi := Aside0.mk hgi
  have HcRR := Aside0.mk hcRR0
  clear hρ hd hd1 hgi hcRR0
  obtain ⟨hr0, hr1⟩ := hrest
  have hl10 : s.l.length ≤ 10 := hs.len
  have hSa := hS.protect (.cells #[.int .i64 (i : Int)] 3)
  have hIa : (W.alloc (.cells #[.int .i64 (i : Int)] 3)).heap[W.heap.size]? = some (.cells #[.int .i64 (i : Int)] 3 (0, 0)) := heap_alloc_new W _
  have hPa : ∀ k, P k → (W.alloc (.cells #[.int .i64 (i : Int)] 3)).heap[k]? = W.heap[k]? := fun k hk => Below.heap_alloc W _ k (hS.prot k hk).2
  have hza : W.heap.size < (W.alloc (.cells #[.int .i64 (i : Int)] 3)).heap.size := by simp
  unfold SC.caps
  go_enter Try.func87, Try.ntmps87
  go_wp2
  generalize W.alloc (.cells #[.int .i64 (i : Int)] 3) = Wa at *
  have hcI : Wa.cell? ⟨W.heap.size, 0, none⟩ = some (.int .i64 (i : Int)) := (blk_cell hIa 0).trans rfl
  have hcR : Wa.cell? ⟨s.R, 0, none⟩ = some (.slice (some ⟨s.RR, 0, none⟩) (s.l.length + 1) (s.l.length + 1)) := (blk_cell (hSa.hR hs) 0).trans rfl
  have hcB : Wa.cell? ⟨s.B, 0, none⟩ = some (.int .i64 best) := (blk_cell hSa.best 0).trans rfl
  have hcRR : Wa.cell? ⟨s.RR, i, none⟩ = some (.int .i64 ρ) := HcRR.out Wa hSa
  have hv2 : value ≤ 10995116277760 := by omega
  by_cases hle : value + ρ ≤ best
  ·go_quiet (fail)
   generalize hWb : Wa.drewN _ = Wb
   have hSb := hSa.step (W' := Wb) (by rw [← hWb]; exact pw_below_drewN (Below.refl _ _) _)
   have hPb : ∀ k, P k → Wb.heap[k]? = W.heap[k]? := by rw [← hWb]; exact hPa
   have hzb : W.heap.size ≤ Wb.heap.size := by rw [← hWb]; exact Nat.le_of_lt hza
   clear hWb
   go_wp2
   go_ret
   refine ⟨rfl, ?_, hPb, hzb⟩
   simp only [tryP, Hρ.out, if_pos hle]
   exact hSb.weaken (fun k hk => .inl hk)
  ·go_quiet (fail)
   generalize hWb : Wa.drewN _ = Wb
   have hSb := hSa.step (W' := Wb) (by rw [← hWb]; exact pw_below_drewN (Below.refl _ _) _)
   have hPb : ∀ k, P k → Wb.heap[k]? = W.heap[k]? := by rw [← hWb]; exact hPa
   have hzb : W.heap.size < Wb.heap.size := by rw [← hWb]; exact hza
   have hIb : Wb.heap[W.heap.size]? = some (.cells #[.int .i64 (i : Int)] 3 (0, 0)) := by rw [← hWb]; exact hIa
   clear hWb hcI hcR hcB hcRR hPa hza hIa
   have hcI : Wb.cell? ⟨W.heap.size, 0, none⟩ = some (.int .i64 (i : Int)) := (blk_cell hIb 0).trans rfl
   have hcL : Wb.cell? ⟨s.L, 0, none⟩ = some (.slice s.A s.l.length s.c) := (blk_cell (hSb.hL hs) 0).trans rfl
   go_upto_region 6 with (fail)
   obtain ⟨vw, vo, h1, h2, h3, h4⟩ := hSb.rows
   obtain ⟨A, c, hvw, hwc, hwr⟩ := Kd.R_reads h3
   subst hvw
   have hcW : Wb.cell? ⟨s.Wn, 0, none⟩ = some (.slice A win.length c) := (blk_cell h1 0).trans rfl
   have hcU : Wb.cell? ⟨s.Uc, 0, none⟩ = some (.func (.func s.u) #[] s.ucaps) := (blk_cell (hSb.hU hs) 0).trans rfl
   obtain ⟨ad, A2, c2, e, g0, g1, g2, gl2, gk2⟩ := at_T82 (Kd.C_below hs.read (hSb.below hs)) (i : Int) (by omega) (by omega)
   rw [Int.toNat_natCast] at g0 g1 g2
   rw [Hgi.out] at g0 g1 g2 gl2 gk2
   rw [e] at hcL
   have hbb := hSb.below hs
   have hlI := blk_lt hIb
   have hlL := World.block_lt_of_cell? Wb _ hcL
   have hlW := World.block_lt_of_cell? Wb _ hcW
   have hlg := World.block_lt_of_cell? Wb _ g0
   have huse := hs.use b A2 c2 Wb.drew ⟨hbb.os, hbb.tape, hbb.output, hbb.size, hbb.block⟩
   have hent := hs.enter
   have hlU := World.block_lt_of_cell? Wb _ hcU
   have hkeep : ∀ w', Below Wb.heap.size Wb w' → w'.cell? ⟨s.Uc, 0, none⟩ = some (.func (.func s.u) #[] s.ucaps) ∧ w'.cell? ⟨s.L, 0, none⟩ = some (.slice (some ad) s.l.length s.c) ∧ w'.cell? ⟨W.heap.size, 0, none⟩ = some (.int .i64 (i : Int)) ∧
     w'.cell? (ad.add (i * 3)) = some (.int .i64 b.f0) ∧ w'.cell? ⟨(ad.add (i * 3)).block, (ad.add (i * 3)).off + 1, none⟩ = some (.int .i64 b.f1) ∧ w'.cell? ⟨(ad.add (i * 3)).block, (ad.add (i * 3)).off + 2, none⟩ = some (.slice A2 b.f2.length c2) ∧ w'.cell? ⟨s.Wn, 0, none⟩ = some (.slice A win.length c) := fun w' hb =>
    ⟨(hb.cell (p := ⟨s.Uc, 0, none⟩) hlU).trans hcU, (hb.cell (p := ⟨s.L, 0, none⟩) hlL).trans hcL, (hb.cell (p := ⟨W.heap.size, 0, none⟩) hlI).trans hcI, (hb.cell (p := ad.add (i * 3)) hlg).trans g0,
     (hb.cell (p := ⟨(ad.add (i * 3)).block, (ad.add (i * 3)).off + 1, none⟩) hlg).trans g1, (hb.cell (p := ⟨(ad.add (i * 3)).block, (ad.add (i * 3)).off + 2, none⟩) hlg).trans g2, (hb.cell (p := ⟨s.Wn, 0, none⟩) hlW).trans hcW⟩
   have Hkeep := Aside0.mk hkeep
   have HSb := Aside0.mk hSb
   have HPb := Aside0.mk hPb
   have H1 := Aside0.mk h1
   have H3 := Aside0.mk h3
   have Hwr := Aside0.mk hwr
   have Hbb := Aside0.mk hbb
   clear hkeep hSb hPb h1 h2 h3 h4 hwr hbb gk2
   cases hUb : s.U b
   ·rw [hUb] at huse
    have Hu := Aside0.mk huse
    have HUb := Aside0.mk hUb
    clear huse hUb
    refine wp_region_held_drew (S := fun w' => w'.cell? ⟨s.Uc, 0, none⟩ = some (.func (.func s.u) #[] s.ucaps) ∧ w'.cell? ⟨s.L, 0, none⟩ = some (.slice (some ad) s.l.length s.c) ∧ w'.cell? ⟨W.heap.size, 0, none⟩ = some (.int .i64 (i : Int)) ∧
     w'.cell? (ad.add (i * 3)) = some (.int .i64 b.f0) ∧ w'.cell? ⟨(ad.add (i * 3)).block, (ad.add (i * 3)).off + 1, none⟩ = some (.int .i64 b.f1) ∧ w'.cell? ⟨(ad.add (i * 3)).block, (ad.add (i * 3)).off + 2, none⟩ = some (.slice A2 b.f2.length c2) ∧ w'.cell? ⟨s.Wn, 0, none⟩ = some (.slice A win.length c)) (by kernel_rfl) (Hkeep.out Wb.drew ⟨rfl, rfl, rfl, Nat.le_refl _, fun _ _ => rfl⟩) ?_
    intro hS0
    refine wpAnyH_take (i := 0) (v := ?_) rfl (by kernel_rfl) (by kernel_rfl) (by kernel_rfl) (fun _ _ _ h => h) (Or.inl ⟨by rfl, ?_⟩) (by assumption) ?_
    rotate_left
    ·(intro w_ hSw_; (try dsimp only at hSw_); go_simp; try with_reducible rfl)
    try simp only [Act.put, List.getElem_toArray, List.getElem_cons_zero, List.getElem_cons_succ, List.setIfInBounds_toArray, List.set_cons_zero, List.set_cons_succ]
    refine wpAnyH_take (i := 1) (v := ?_) rfl (by kernel_rfl) (by kernel_rfl) (by kernel_rfl) (fun _ _ _ h => h) (Or.inl ⟨by rfl, ?_⟩) (by assumption) ?_
    rotate_left
    ·(intro w_ hSw_; (try dsimp only at hSw_); go_simp; try with_reducible rfl)
    try simp only [Act.put, List.getElem_toArray, List.getElem_cons_zero, List.getElem_cons_succ, List.setIfInBounds_toArray, List.set_cons_zero, List.set_cons_succ]
    refine wpAnyH_take (i := 2) (v := ?_) rfl (by kernel_rfl) (by kernel_rfl) (by kernel_rfl) (fun _ _ _ h => h) (Or.inl ⟨by rfl, ?_⟩) (by assumption) ?_
    rotate_left
    ·(intro w_ hSw_; (try dsimp only at hSw_); go_simp; try with_reducible rfl)
    try simp only [Act.put, List.getElem_toArray, List.getElem_cons_zero, List.getElem_cons_succ, List.setIfInBounds_toArray, List.set_cons_zero, List.set_cons_succ]
    refine wpAnyH_take (i := 3) (v := ?_) rfl (by kernel_rfl) (by kernel_rfl) (by kernel_rfl) (fun _ _ _ h => h) (Or.inl ⟨by rfl, ?_⟩) (by assumption) ?_
    rotate_left
    ·(intro w_ hSw_; (try dsimp only at hSw_); go_simp; try with_reducible rfl)
    try simp only [Act.put, List.getElem_toArray, List.getElem_cons_zero, List.getElem_cons_succ, List.setIfInBounds_toArray, List.set_cons_zero, List.set_cons_succ]
    refine wpAnyH_take (i := 4) (v := ?_) rfl (by kernel_rfl) (by kernel_rfl) (by kernel_rfl) (fun _ _ _ h => h) (Or.inl ⟨by rfl, ?_⟩) (by assumption) ?_
    rotate_left
    ·(intro w_ hSw_; (try dsimp only at hSw_); go_simp; try with_reducible rfl)
    try simp only [Act.put, List.getElem_toArray, List.getElem_cons_zero, List.getElem_cons_succ, List.setIfInBounds_toArray, List.set_cons_zero, List.set_cons_succ]
    refine wpAnyH_ready (rs := [5]) (by kernel_rfl) (by simp) ?_
    refine AllReadyH.cons rfl (fun K hK => ?_) AllReadyH.nil
    go_simp
    refine Hu.out.mono ?_
    rintro e w1 ⟨rfl, hb1⟩
    refine hK.out _ _ (Hkeep.out w1 ⟨hb1.os, hb1.tape, hb1.output, hb1.size, hb1.block⟩) (fun hSn_ => ?_)
    clear hK K
    try simp only [Act.put, List.getElem_toArray, List.getElem_cons_zero, List.getElem_cons_succ, List.setIfInBounds_toArray, List.set_cons_zero, List.set_cons_succ]
    refine wpAnyH_take (i := 6) (v := ?_) rfl (by kernel_rfl) (by kernel_rfl) (by kernel_rfl) (fun _ _ _ h => h) (Or.inl ⟨by rfl, ?_⟩) (by assumption) ?_
    rotate_left
    ·(intro w_ hSw_; (try dsimp only at hSw_); go_simp; try with_reducible rfl)
    try simp only [Act.put, List.getElem_toArray, List.getElem_cons_zero, List.getElem_cons_succ, List.setIfInBounds_toArray, List.set_cons_zero, List.set_cons_succ]
    refine wpAnyH_take (i := 7) rfl (by kernel_rfl) (by kernel_rfl) (by kernel_rfl) (fun _ _ _ h => h) (Or.inr ⟨by rfl, rfl⟩) (by assumption) ?_
    try simp only [Act.put, List.getElem_toArray, List.getElem_cons_zero, List.getElem_cons_succ, List.setIfInBounds_toArray, List.set_cons_zero, List.set_cons_succ]
    refine wpAnyH_take (i := 8) rfl (by kernel_rfl) (by kernel_rfl) (by kernel_rfl) (fun _ _ _ h => h) (Or.inr ⟨by rfl, rfl⟩) (by assumption) ?_
    try simp only [Act.put, List.getElem_toArray, List.getElem_cons_zero, List.getElem_cons_succ, List.setIfInBounds_toArray, List.set_cons_zero, List.set_cons_succ]
    refine wpAnyH_take (i := 9) rfl (by kernel_rfl) (by kernel_rfl) (by kernel_rfl) (fun _ _ _ h => h) (Or.inr ⟨by rfl, rfl⟩) (by assumption) ?_
    try simp only [Act.put, List.getElem_toArray, List.getElem_cons_zero, List.getElem_cons_succ, List.setIfInBounds_toArray, List.set_cons_zero, List.set_cons_succ]
    refine wpAnyH_take (i := 10) rfl (by kernel_rfl) (by kernel_rfl) (by kernel_rfl) (fun _ _ _ h => h) (Or.inr ⟨by rfl, rfl⟩) (by assumption) ?_
    try simp only [Act.put, List.getElem_toArray, List.getElem_cons_zero, List.getElem_cons_succ, List.setIfInBounds_toArray, List.set_cons_zero, List.set_cons_succ]
    refine wpAnyH_take (i := 11) (v := ?_) rfl (by kernel_rfl) (by kernel_rfl) (by kernel_rfl) (fun _ _ _ h => h) (Or.inl ⟨by rfl, ?_⟩) (by assumption) ?_
    rotate_left
    ·(intro w_ hSw_; (try dsimp only at hSw_); go_simp; try with_reducible rfl)
    try simp only [Act.put, List.getElem_toArray, List.getElem_cons_zero, List.getElem_cons_succ, List.setIfInBounds_toArray, List.set_cons_zero, List.set_cons_succ]
    refine wpAnyH_done (by kernel_rfl) ?_ _
    have hW1 : Below Wb.heap.size Wb w1 := ⟨hb1.os, hb1.tape, hb1.output, hb1.size, hb1.block⟩
    have hS1 := HSb.out.step hW1
    have hP1 : ∀ k, P k → w1.heap[k]? = W.heap[k]? := fun k hk => (hW1.block k (Nat.lt_of_lt_of_le (hS.prot k hk).2 (Nat.le_of_lt hzb))).trans (HPb.out k hk)
    have hI1 : w1.heap[W.heap.size]? = some (.cells #[.int .i64 (i : Int)] 3 (0, 0)) := (hW1.block _ hlI).trans hIb
    have Hfin : Aside0 (tryP s.U s.l (b :: left) i value win (best, out, val) = tryP s.U s.l left (i + 1) value win (best, out, val)) := ⟨by
     simp only [tryP, Hρ.out, if_neg (show ¬ value + ρ ≤ best by omega), HUb.out, Bool.false_and, Bool.false_eq_true, if_false]⟩
    have hz1 : W.heap.size ≤ w1.heap.size := Nat.le_trans (Nat.le_of_lt hzb) hW1.size
    obtain ⟨wz, bz, oz, vz, hSz, hPz, hIz, Hfin, hzz, hwz⟩ : ∃ wz bz oz vz, s.St (fun k => P k ∨ k = W.heap.size) wz win bz oz vz ∧ (∀ k, P k → wz.heap[k]? = W.heap[k]?) ∧ wz.heap[W.heap.size]? = some (.cells #[.int .i64 (i : Int)] 3 (0, 0)) ∧
      Aside0 (tryP s.U s.l (b :: left) i value win (best, out, val) = tryP s.U s.l left (i + 1) value win (bz, oz, vz)) ∧ W.heap.size ≤ wz.heap.size ∧ wz = w1 := ⟨w1, best, out, val, hS1, hP1, hI1, Hfin, hz1, rfl⟩
    subst hwz
    clear hS1 hP1 hI1 hz1 hb1 hW1 hSn_ hS0 hcI hcL hcW hcU g0 g1 g2 gl2 Hkeep HSb HPb H1 H3 Hbb
    go_upto_region 11 with (fail)
    have hcT : wz.cell? ⟨s.T, 0, none⟩ = some (.func (.func 87) #[] s.caps) := (blk_cell (hSz.hT hs) 0).trans rfl
    have hcIz : wz.cell? ⟨W.heap.size, 0, none⟩ = some (.int .i64 (i : Int)) := (blk_cell hIz 0).trans rfl
    have hih := ih (i + 1) value win bz oz vz wz (fun k => P k ∨ k = W.heap.size) Hd.out (by omega) hv0 (by omega) hwin (by omega) hSz
    rw [show ((i + 1 : Nat) : Int) = (i : Int) + 1 from by omega] at hih
    have Hih := Aside0.mk hih
    have HPz := Aside0.mk hPz
    unfold SC.caps at hcT
    clear hih ih hSz hPz hIz
    go_wp2_with fail
    refine Hih.out.mono ?_
    rintro e w2 ⟨rfl, hS2, hP2, hz2⟩
    go_wp2
    go_ret
    refine ⟨rfl, ?_, fun k hk => (hP2 k (.inl hk)).trans (HPz.out k hk), Nat.le_trans hzz hz2⟩
    rw [Hfin.out]
    exact hS2.weaken (fun k hk => .inl hk)
   ·rw [hUb] at huse
    have Hu := Aside0.mk huse
    have HUb := Aside0.mk hUb
    clear huse hUb
    have hcf : ∀ w1, Below Wb.heap.size Wb w1 → Calls Try.prog 51 #[.slice A win.length c, .func (.func 88) #[] #[.pointer (some ⟨s.L, 0, none⟩), .pointer (some ⟨W.heap.size, 0, none⟩)]] w1
      (fun e w' => e = .returned (.bool (win.any fun x => conf (rd_T82 s.l x) (rd_T82 s.l i))) ∧ Below w1.heap.size w1 w') := fun w1 hb =>
     containsFunc_calls 88 _ _ A c win w1 (Kd.C_below (Kd.R_reads' H3.out).2.2 hb) enter_better111 (fun x W2 hx hW2 => by
      have hk := Hkeep.out W2 (hb.trans (hW2.mono hb.size))
      have hx' := hwin x hx
      have hbz : s.w0.heap.size ≤ Wb.heap.size := Hbb.out.size
      exact better111_calls x i W2 s.L W.heap.size s.A s.c s.l (by rw [e]; exact hk.2.1) hk.2.2.1 (Kd.C_below hs.read (Hbb.out.trans ((hb.trans (hW2.mono hb.size)).mono hbz))) hx'.1 hx'.2 (by omega) (by omega))
    obtain ⟨r, hr⟩ : ∃ r, (win.any fun x => conf (rd_T82 s.l x) (rd_T82 s.l i)) = r := ⟨_, rfl⟩
    rw [hr] at hcf
    have Hcf := Aside0.mk hcf
    have Hr := Aside0.mk hr
    clear hcf hr
    go_region_held3 (fun w' => w'.cell? ⟨s.Uc, 0, none⟩ = some (.func (.func s.u) #[] s.ucaps) ∧ w'.cell? ⟨s.L, 0, none⟩ = some (.slice (some ad) s.l.length s.c) ∧ w'.cell? ⟨W.heap.size, 0, none⟩ = some (.int .i64 (i : Int)) ∧
     w'.cell? (ad.add (i * 3)) = some (.int .i64 b.f0) ∧ w'.cell? ⟨(ad.add (i * 3)).block, (ad.add (i * 3)).off + 1, none⟩ = some (.int .i64 b.f1) ∧ w'.cell? ⟨(ad.add (i * 3)).block, (ad.add (i * 3)).off + 2, none⟩ = some (.slice A2 b.f2.length c2) ∧ w'.cell? ⟨s.Wn, 0, none⟩ = some (.slice A win.length c))
     (first | go_keep | exact Hkeep.out w1 ⟨hb1.os, hb1.tape, hb1.output, hb1.size, hb1.block⟩ | exact Hkeep.out w2 (Below.trans ⟨hb1.os, hb1.tape, hb1.output, hb1.size, hb1.block⟩ (hb2.mono hb1.size)))
     (first | (go_at_call 51; refine (Hcf.out _ ⟨hb1.os, hb1.tape, hb1.output, hb1.size, hb1.block⟩).mono ?_; rintro e w2 ⟨rfl, hb2⟩) | (refine Hu.out.mono ?_; rintro e w1 ⟨rfl, hb1⟩))
    have hW1 : Below Wb.heap.size Wb w2 := Below.trans ⟨hb1.os, hb1.tape, hb1.output, hb1.size, hb1.block⟩ (hb2.mono hb1.size)
    have hS1 := HSb.out.step hW1
    have hP1 : ∀ k, P k → w2.heap[k]? = W.heap[k]? := fun k hk => (hW1.block k (Nat.lt_of_lt_of_le (hS.prot k hk).2 (Nat.le_of_lt hzb))).trans (HPb.out k hk)
    have hI1 : w2.heap[W.heap.size]? = some (.cells #[.int .i64 (i : Int)] 3 (0, 0)) := (hW1.block _ hlI).trans hIb
    have hz1 : W.heap.size ≤ w2.heap.size := Nat.le_trans (Nat.le_of_lt hzb) hW1.size
    have h11 := (hW1.block _ (blk_lt H1.out)).trans H1.out
    have h31 := Kd.R_below H3.out hW1
    have hbw := Hbb.out.trans (hW1.mono Hbb.out.size)
    have hany : (win.any fun w => conf (s.l.getD w.toNat z82) b) = r := by
     have := Hr.out
     rw [Hgi.out] at this
     exact this
    have Hany := Aside0.mk hany
    clear hany
    cases r
    ·have hpr : b.f1 = (rd_T82 s.l i).f1 := by rw [Hgi.out]
     have hcW2 : w2.cell? ⟨s.Wn, 0, none⟩ = some (.slice A win.length c) := (blk_cell h11 0).trans rfl
     have hcI2 : w2.cell? ⟨W.heap.size, 0, none⟩ = some (.int .i64 (i : Int)) := (blk_cell hI1 0).trans rfl
     have hlW2 : s.Wn < w2.heap.size := World.block_lt_of_cell? w2 _ hcW2
     have hlI2 : W.heap.size < w2.heap.size := World.block_lt_of_cell? w2 _ hcI2
     have hfr : ∀ k, w2.heap.size ≤ k → ¬ (P k ∨ k = W.heap.size) := fun k hk hp => hp.elim (fun hp => by have := (hS.prot k hp).2; omega) (fun e => by omega)
     have Hfr := Aside0.mk hfr
     have HS1 := Aside0.mk hS1
     have H31 := Aside0.mk h31
     have H11 := Aside0.mk h11
     have HP1 := Aside0.mk hP1
     have HI1 := Aside0.mk hI1
     have Hbw := Aside0.mk hbw
     have Hpr := Aside0.mk hpr
     have hwb : s.W1.heap.size ≤ w2.heap.size := hS1.size
     clear hpr hfr hS1 h31 h11 hP1 hI1 hbw hW1 hb1 hb2 hcI hcL hcW hcU g0 g1 g2 gl2 Hkeep HSb HPb H1 H3 Hbb hlI hlL hlW hlg hlU
     have hpush : ∀ vA wA, Kd.R (Kd.int .i64) 3 wA s.W1.heap.size (fun k => ¬ (P k ∨ k = W.heap.size)) vA (win ++ [(i : Int)]) → w2.grownBy wA (Value.slice A win.length c).ownBlock → (vA.ownBlock = (Value.slice A win.length c).ownBlock ∨ ∃ b, vA.ownBlock = some b ∧ w2.heap.size ≤ b) →
       (∃ A3 c3, vA = .slice A3 (win.length + 1) c3) ∧ wA.cell? ⟨s.Wn, 0, none⟩ = some (.slice A win.length c) ∧ wA.frozen? ⟨s.Wn, 0, none⟩ = false ∧
       Aside0 (s.St (fun k => P k ∨ k = W.heap.size) (wA.setCell ⟨s.Wn, 0, none⟩ vA) (win ++ [(i : Int)]) best out val ∧ (∀ k, (P k ∨ k = W.heap.size) → (wA.setCell ⟨s.Wn, 0, none⟩ vA).heap[k]? = w2.heap[k]?) ∧ w2.heap.size ≤ (wA.setCell ⟨s.Wn, 0, none⟩ vA).heap.size) := by
      intro vA wA ho hg hat
      obtain ⟨A3, c3, hvA⟩ := Kd.R_slice ho
      have hlow : wA.heap[s.Wn]? = some (.cells #[.slice A win.length c] 22 (0, 0)) := (hg.block _ hlW2 (fun e_ => by have := Kd.R_base H31.out _ e_.symm; have := hs.o12; have := hs.o11; omega)).trans H11.out
      exact ⟨⟨A3, c3, by rw [hvA]; simp⟩, (blk_cell hlow 0).trans rfl, blk_frozen hlow 0, ⟨HS1.out.push hs H11.out H31.out ho hg hat⟩⟩
     have Hpush := Aside0.mk hpush
     clear hpush
     go_wp2_with (first | ((with_reducible refine gate_builtin (b := .append) (xs := #[.tmp 41, .tmp 43]) rfl ?_); at_builtin; refine Kd.R_append (Kd.int .i64) (w0 := w2) s.W1.heap.size rfl (.tmp 41) (.tmp 43) 22 3 (.int .i64 0) 8 rfl Try.underlying22 infoI rfl (by decide) (by omega) (.slice A win.length c) win (i : Int) [.int .i64 (i : Int)] (fun k => ¬ (P k ∨ k = W.heap.size)) (fun _ => False) rfl rfl ?aP (fun _ hk => hk.elim) ?aF ?aO ?aB ?aS ?aL ?_; (case aP => exact rfl); (case aB => exact Below.refl _ _); (case aF => exact Hfr.out); (case aO => exact H31.out); (case aS => exact hwb); (case aL => omega); intro vA wA ho hbA hgA hatA; obtain ⟨⟨A3, c3, rfl⟩, hcA, hfA, HA⟩ := Hpush.out vA wA ho hgA hatA; clear ho hbA hgA hatA))
     obtain ⟨Wp, hWp⟩ : ∃ Wp, Wp = wA.setCell ⟨s.Wn, 0, none⟩ (.slice A3 (win.length + 1) c3) := ⟨_, rfl⟩
     rw [← hWp]
     rw [← hWp] at HA
     clear hWp hcA hfA
     obtain ⟨hSp, hPp, hzp⟩ := HA.out
     have hIp : Wp.heap[W.heap.size]? = some (.cells #[.int .i64 (i : Int)] 3 (0, 0)) := (hPp _ (.inr rfl)).trans HI1.out
     have hcIp : Wp.cell? ⟨W.heap.size, 0, none⟩ = some (.int .i64 (i : Int)) := (blk_cell hIp 0).trans rfl
     have hcTp : Wp.cell? ⟨s.T, 0, none⟩ = some (.func (.func 87) #[] s.caps) := (blk_cell (hSp.hT hs) 0).trans rfl
     have hcLp : Wp.cell? ⟨s.L, 0, none⟩ = some (.slice s.A s.l.length s.c) := (blk_cell (hSp.hL hs) 0).trans rfl
     obtain ⟨ad', A2', c2', e', g0', g1', g2', gl2', gk2'⟩ := at_T82 (Kd.C_below hs.read (hSp.below hs)) (i : Int) (by omega) (by omega)
     rw [e] at e'
     cases e'
     rw [Int.toNat_natCast, Hgi.out] at g1'
     rw [e] at hcLp
     have hmore : value + b.f1 + ((s.l.length : Int) - ((i + 1 : Nat) : Int)) * 1099511627776 ≤ 10 * 1099511627776 ∧ 0 ≤ value + b.f1 ∧ b.f1 ≤ 1099511627776 ∧ 0 ≤ b.f1 := by
      have hfew := hs.few
      simp only [okBids, Bool.and_eq_true, List.all_eq_true, decide_eq_true_eq] at hfew
      have hbm : b ∈ s.l := by
       have h1 : s.l[i]? = some b := by
        have hgi := Hgi.out
        rw [← hgi]; simp [rd_T82, List.getD, hil]
       exact List.mem_of_getElem? h1
      have := hfew.2 b hbm
      omega
     have hwin2 : ∀ x ∈ win ++ [(i : Int)], 0 ≤ x ∧ x < s.l.length := by
      intro x hx
      rw [List.mem_append, List.mem_singleton] at hx
      rcases hx with hx | rfl
      ·exact hwin x hx
      ·omega
     obtain ⟨hm1, hm2, hm3, hm4⟩ := hmore
     have hih2 : ∀ Wq, Below Wp.heap.size Wp Wq → _ := fun Wq hq => ih (i + 1) (value + b.f1) (win ++ [(i : Int)]) best out val Wq (fun k => P k ∨ k = W.heap.size) Hd.out (by omega) hm2 hm1 hwin2 (by simp; omega) (hSp.step hq)
     rw [show ((i + 1 : Nat) : Int) = (i : Int) + 1 from by omega] at hih2
     have Hih2 := Aside0.mk hih2
     have Hih := Aside0.mk ih
     unfold SC.caps at hcTp
     clear hih2 ih hSp hPp hIp g0' g2' gl2' gk2' hwin2 hm1
     go_still_tail 10, (by kernel_rfl)
     change wpList _ _ _ _ _ Wp.drew
     go_wp2_with fail
     refine (Hih2.out Wp.drew ⟨rfl, rfl, rfl, Nat.le_refl _, fun _ _ => rfl⟩).mono ?_
     rintro e3 w3 ⟨rfl, hS3, hP3, hz3⟩
     have hpop : ∃ A4 c4, w3.cell? ⟨s.Wn, 0, none⟩ = some (.slice A4 (win.length + 1) c4) ∧ win.length + 1 ≤ c4 ∧ w3.frozen? ⟨s.Wn, 0, none⟩ = false ∧
       Aside0 (s.St (fun k => P k ∨ k = W.heap.size) (w3.setCell ⟨s.Wn, 0, none⟩ (.slice A4 win.length c4)) win (tryP s.U s.l left (i + 1) (value + b.f1) (win ++ [(i : Int)]) (best, out, val)).1 (tryP s.U s.l left (i + 1) (value + b.f1) (win ++ [(i : Int)]) (best, out, val)).2.1 (tryP s.U s.l left (i + 1) (value + b.f1) (win ++ [(i : Int)]) (best, out, val)).2.2 ∧
        (∀ k, (P k ∨ k = W.heap.size) → (w3.setCell ⟨s.Wn, 0, none⟩ (.slice A4 win.length c4)).heap[k]? = w3.heap[k]?) ∧ w3.heap.size ≤ (w3.setCell ⟨s.Wn, 0, none⟩ (.slice A4 win.length c4)).heap.size) := by
      obtain ⟨vw3, vo3, k1, k2, k3, k4⟩ := hS3.rows
      obtain ⟨A4, c4, hv4⟩ := Kd.R_slice k3
      have hl4 : (win ++ [(i : Int)]).length = win.length + 1 := by simp
      rw [hl4] at hv4
      subst hv4
      have hk := Kd.R_reads' k3
      have ht := Kd.R_take k3 (m := win.length) (by rw [hl4]; omega)
      rw [List.take_left'  rfl] at ht
      refine ⟨A4, c4, (blk_cell k1 0).trans rfl, hk.2.1, blk_frozen k1 0, ⟨hS3.push hs k1 k3 ht ⟨rfl, rfl, rfl, Nat.le_refl _, fun _ _ _ => rfl⟩ (.inl ?_)⟩⟩
      cases A4 <;> rfl
     obtain ⟨A4, c4, hcW3, hc4, hfW3, HA3⟩ := hpop
     have HS3 := Aside0.mk hS3
     have HP3 := Aside0.mk hP3
     clear hS3 hP3 Hih2 hcIp hcTp hcLp g1'
     go_upto_region 11 with (fail)
     have hfin3 : tryP s.U s.l (b :: left) i value win (best, out, val) = tryP s.U s.l left (i + 1) value win (tryP s.U s.l left (i + 1) (value + b.f1) (win ++ [(i : Int)]) (best, out, val)) := by
      simp only [tryP, Hρ.out, if_neg (show ¬ value + ρ ≤ best by omega), HUb.out, Hany.out, Bool.not_false, Bool.and_self, if_true]
     obtain ⟨wz, bz, oz, vz, hSz, hPz, hIz, Hfin, hzz, hwz⟩ : ∃ wz bz oz vz, s.St (fun k => P k ∨ k = W.heap.size) wz win bz oz vz ∧ (∀ k, P k → wz.heap[k]? = W.heap[k]?) ∧ wz.heap[W.heap.size]? = some (.cells #[.int .i64 (i : Int)] 3 (0, 0)) ∧
       Aside0 (tryP s.U s.l (b :: left) i value win (best, out, val) = tryP s.U s.l left (i + 1) value win (bz, oz, vz)) ∧ W.heap.size ≤ wz.heap.size ∧ wz = w3.setCell ⟨s.Wn, 0, none⟩ (.slice A4 win.length c4) := by
      obtain ⟨a1, a2, a3⟩ := HA3.out
      obtain ⟨b1, b2, b3⟩ := HA.out
      refine ⟨_, _, _, _, a1, fun k hk => (a2 k (.inl hk)).trans ((HP3.out k (.inl hk)).trans ((b2 k (.inl hk)).trans (HP1.out k hk))), (a2 _ (.inr rfl)).trans ((HP3.out _ (.inr rfl)).trans ((b2 _ (.inr rfl)).trans HI1.out)), ⟨hfin3⟩, ?_, rfl⟩
      have hz3' : Wp.heap.size ≤ w3.heap.size := hz3
      omega
     rw [← hwz]
     have ih := Hih.out
     clear hwz hfin3 hcW3 hfW3 HA3 HS3 HP3 HA HP1 HI1 Hih Hpush Hfr HS1 H31 H11 hzp hz3 hlW2 hlI2 hcI2 hcW2 hwb
     have hcT : wz.cell? ⟨s.T, 0, none⟩ = some (.func (.func 87) #[] s.caps) := (blk_cell (hSz.hT hs) 0).trans rfl
     have hcIz : wz.cell? ⟨W.heap.size, 0, none⟩ = some (.int .i64 (i : Int)) := (blk_cell hIz 0).trans rfl
     have hih := ih (i + 1) value win bz oz vz wz (fun k => P k ∨ k = W.heap.size) Hd.out (by omega) hv0 (by omega) hwin (by omega) hSz
     rw [show ((i + 1 : Nat) : Int) = (i : Int) + 1 from by omega] at hih
     have Hih := Aside0.mk hih
     have HPz := Aside0.mk hPz
     unfold SC.caps at hcT
     clear hih ih hSz hPz hIz
     go_wp2_with fail
     refine Hih.out.mono ?_
     rintro e w2 ⟨rfl, hS2, hP2, hz2⟩
     go_wp2
     go_ret
     refine ⟨rfl, ?_, fun k hk => (hP2 k (.inl hk)).trans (HPz.out k hk), Nat.le_trans hzz hz2⟩
     rw [Hfin.out]
     exact hS2.weaken (fun k hk => .inl hk)
    ·have Hfin : Aside0 (tryP s.U s.l (b :: left) i value win (best, out, val) = tryP s.U s.l left (i + 1) value win (best, out, val)) := ⟨by
      simp only [tryP, Hρ.out, if_neg (show ¬ value + ρ ≤ best by omega), HUb.out, Hany.out, Bool.not_true, Bool.and_false, Bool.false_eq_true, if_false]⟩
     obtain ⟨wz, bz, oz, vz, hSz, hPz, hIz, Hfin, hzz, hwz⟩ : ∃ wz bz oz vz, s.St (fun k => P k ∨ k = W.heap.size) wz win bz oz vz ∧ (∀ k, P k → wz.heap[k]? = W.heap[k]?) ∧ wz.heap[W.heap.size]? = some (.cells #[.int .i64 (i : Int)] 3 (0, 0)) ∧
       Aside0 (tryP s.U s.l (b :: left) i value win (best, out, val) = tryP s.U s.l left (i + 1) value win (bz, oz, vz)) ∧ W.heap.size ≤ wz.heap.size ∧ wz = w2 := ⟨w2, best, out, val, hS1, hP1, hI1, Hfin, hz1, rfl⟩
     subst hwz
     clear hS1 hP1 hI1 hz1 hb1 hb2 hW1 hcI hcL hcW hcU g0 g1 g2 gl2 Hkeep HSb HPb H1 H3 Hbb h11 h31 hbw
     go_upto_region 11 with (fail)
     have hcT : wz.cell? ⟨s.T, 0, none⟩ = some (.func (.func 87) #[] s.caps) := (blk_cell (hSz.hT hs) 0).trans rfl
     have hcIz : wz.cell? ⟨W.heap.size, 0, none⟩ = some (.int .i64 (i : Int)) := (blk_cell hIz 0).trans rfl
     have hih := ih (i + 1) value win bz oz vz wz (fun k => P k ∨ k = W.heap.size) Hd.out (by omega) hv0 (by omega) hwin (by omega) hSz
     rw [show ((i + 1 : Nat) : Int) = (i : Int) + 1 from by omega] at hih
     have Hih := Aside0.mk hih
     have HPz := Aside0.mk hPz
     unfold SC.caps at hcT
     clear hih ih hSz hPz hIz
     go_wp2_with fail
     refine Hih.out.mono ?_
     rintro e w2 ⟨rfl, hS2, hP2, hz2⟩
     go_wp2
     go_ret
     refine ⟨rfl, ?_, fun k hk => (hP2 k (.inl hk)).trans (HPz.out k hk), Nat.le_trans hzz hz2⟩
     rw [Hfin.out]
     exact hS2.weaken (fun k hk => .inl hk)
end Go.Proofs.Ytdamibblnjeooaa.H

/- slices.Clone over ints; the iterator of package clear, from its making to its end. -/
namespace Go.Proofs.Ytdamibblnjeooaa.H
open Go.RowKit Go.Proofs.YtdamibblnjeooaaW.PrintWords Go.Proofs.YtdamibblnjeooaaW.PrintLast Go.Proofs.YtdamibblnjeooaaW.PrintMore
set_option linter.unusedVariables false
set_option linter.unusedSimpArgs false
set_option maxHeartbeats 1000000 in
set_option maxRecDepth 100000 in
/-- slices.Clone over ints, of a row of one's own. -/
theorem clone_calls (v : Value) (xs : List Int) (W : World) (base : Nat) (ok : Nat → Prop) (h : Kd.R (Kd.int .i64) 3 W base ok v xs) (hl : xs.length ≤ 1099511627776) :
  Calls Try.prog 82 #[v] W (fun e W' => ∃ v', e = .returned v' ∧ Kd.R (Kd.int .i64) 3 W' W.heap.size (fun _ => True) v' xs ∧ Below W.heap.size W W') := by
 obtain ⟨A, c, rfl, hc, hC⟩ := Kd.R_reads h
 have hnil : A = none → xs = [] ∧ c = 0 := by
  rintro rfl
  obtain ⟨h0, inner, ho, hr⟩ := h
  rcases ho.2 with ⟨e, hn⟩ | ⟨g, cap, cur, e, _⟩
  ·injection e with e1 e2 e3
   exact ⟨List.eq_nil_of_length_eq_zero hn, e3⟩
  ·cases e
 have hq := fun (w : World) (n c : Nat) => Lib.run_eql_slice_nil (P := Try.prog) w 22 3 A n c 0 0 Try.underlying22
 cases A with
 | none =>
  obtain ⟨rfl, rfl⟩ := hnil rfl
  simp only [Option.isNone] at hq
  clear hnil h hC
  go_enter Try.func82, Try.ntmps82
  go_wp2
  go_ret
  exact ⟨_, rfl, Kd.R_nil _ _ _ _ _, Below.refl _ _⟩
 | some ad =>
  simp only [Option.isNone] at hq
  have HC := Aside0.mk hC
  clear hnil h hC
  go_enter Try.func82, Try.ntmps82
  have hR0 : Kd.R (Kd.int .i64) 3 (W.alloc (.cells #[] 3)) W.heap.size (fun _ => True) (.slice (some ⟨W.heap.size, 0, none⟩) 0 0) [] :=
   ⟨fun _ _ => trivial, [], ⟨rfl, .inr ⟨W.heap.size, 0, #[], rfl, Nat.le_refl _, heap_alloc_new W _, Nat.le_refl _, by decide, rfl, rfl⟩⟩, Reps.none _ _⟩
  have hB0 : Below W.heap.size W (W.alloc (.cells #[] 3)) := (Below.refl _ W).alloc (Nat.le_refl _) _
  have hC0 := Kd.C_below HC.out hB0
  have HR0 := Aside0.mk hR0
  have HB0 := Aside0.mk hB0
  have HC0 := Aside0.mk hC0
  clear hR0 hB0 hC0
  go_wp2_with (first | ((with_reducible refine gate_builtin (b := .append) (xs := #[.tmp 5, .tmp 6]) rfl ?_); at_builtin; refine Kd.R_append_row (Value.int .i64) (0 : Int) (h1 := fun _ => rfl) (w0 := W) W.heap.size rfl (.tmp 5) (.tmp 6) 22 3 (.int .i64 0) 8 rfl Try.underlying22 infoI rfl (by decide) (.slice (some ⟨W.heap.size, 0, none⟩) 0 0) [] xs (some ad) xs.length c (fun _ => True) rfl rfl (fun _ _ => trivial) ?aO ?aR ?aB ?aS ?aL ?_; (case aO => exact HR0.out); (case aR => exact HC0.out); (case aB => exact HB0.out); (case aS => simp); (case aL => simp; omega); intro v1 w1 ho hb hg hat; obtain ⟨A3, c3, hv3⟩ := Kd.R_slice ho; simp only [List.nil_append] at hv3 ho; subst hv3; have Ho := Aside0.mk ho; have Hb := Aside0.mk hb; clear ho hb hg hat))
  go_ret
  exact ⟨_, rfl, Ho.out, Hb.out⟩
end Go.Proofs.Ytdamibblnjeooaa.H

/- The iterator of package clear, from its making to its end; search; Best and others. -/
namespace Go.Proofs.Ytdamibblnjeooaa.H
open Go.RowKit Go.Proofs.YtdamibblnjeooaaW.PrintWords Go.Proofs.YtdamibblnjeooaaW.PrintLast Go.Proofs.YtdamibblnjeooaaW.PrintMore
set_option linter.unusedVariables false
set_option linter.unusedSimpArgs false

section
variable {s : SC} {P : Nat → Prop} {W W' : World} {win : List Int} {best : Int} {out : List Int} {val : Int}
/-- What a round leaves: the row that was told, cloned, and its value. -/
theorem SC.St.take_ (h : s.St P W win best out val) (hs : s.Ok) {vo : Value} {v : Int} {W4 : World} (hos : W4.os = W.os) (htp : W4.tape = W.tape) (hou : W4.output = W.output) (hsz : W.heap.size ≤ W4.heap.size)
  (hfr : ∀ k, k < W.heap.size → k ≠ s.O → k ≠ s.V → k ≠ s.lp → W4.heap[k]? = W.heap[k]?) (hlp : W4.heap[s.lp]? = some (.loop s.rec_)) (hO : W4.heap[s.O]? = some (.cells #[vo] 22 (0, 0))) (hV : W4.heap[s.V]? = some (.cells #[.int .i64 v] 3 (0, 0)))
  (hr : Kd.R (Kd.int .i64) 3 W4 W.heap.size (fun _ => True) vo win) :
  s.St P W4 win best win v ∧ (∀ k, P k → W4.heap[k]? = W.heap[k]?) ∧ W.heap.size ≤ W4.heap.size := by
 have a := hs.o1; have b := hs.o2; have c := hs.o3; have d := hs.o4; have e := hs.o5; have f := hs.o6; have g := hs.o7; have i := hs.o8; have j := hs.o9; have k' := hs.o10; have l := hs.o11; have m := hs.o12
 have hz := h.size
 obtain ⟨vw, vo0, h1, h2, h3, h4⟩ := h.rows
 refine ⟨⟨hos.trans h.os, htp.trans h.tape, hou.trans h.output, Nat.le_trans h.size hsz, fun k hk ha hb hc hd => ?_, (hfr _ (by omega) (by omega) (by omega) (by omega)).trans h.best, hV,
  ⟨vw, vo, (hfr _ (by omega) (by omega) (by omega) (by omega)).trans h1, hO, ?_, ?_⟩, fun k hk => ⟨(h.prot k hk).1, Nat.lt_of_lt_of_le (h.prot k hk).2 hsz⟩⟩, fun k hk => hfr k (h.prot k hk).2 (by have := (h.prot k hk).1; omega) (by have := (h.prot k hk).1; omega) (by have := (h.prot k hk).1; omega), hsz⟩
 ·by_cases hl : k = s.lp
  ·rw [hl, hlp, hs.hlp]
  ·exact (hfr k (by omega) ha hb hl).trans (h.fix k hk ha hb hc hd)
 ·exact Kd.R_mono (Kd.R_step (Kd.R_bound h3) (fun k hk hlt => hfr k hlt (by have := hk.2.1; omega) (by have := hk.2.1; omega) (by have := hk.2.1; omega))) (fun k hk => hk.1)
 ·have hvw : ∀ k, vw.ownBlock = some k → k < W.heap.size := fun k hk => ((Kd.R_bound h3).1 k hk).2.2.1
  refine Kd.R_mono (Kd.R_lower (Kd.R_bound hr) h.size) (fun k hk e => ?_)
  have := hvw k e.symm
  have := hk.2.1
  omega
end
theorem four_allocs (w : World) (a b c d : Obj) : (∀ k, k < w.heap.size → ((((w.alloc a).alloc b).alloc c).alloc d).heap[k]? = w.heap[k]?) ∧ ((((w.alloc a).alloc b).alloc c).alloc d).heap[w.heap.size]? = some a ∧ ((((w.alloc a).alloc b).alloc c).alloc d).heap[w.heap.size + 1]? = some b ∧
  ((((w.alloc a).alloc b).alloc c).alloc d).heap[w.heap.size + 1 + 1]? = some c ∧ ((((w.alloc a).alloc b).alloc c).alloc d).heap[w.heap.size + 1 + 1 + 1]? = some d ∧ ((((w.alloc a).alloc b).alloc c).alloc d).heap.size = w.heap.size + 1 + 1 + 1 + 1 := by
 have h1 := heap_alloc_new w a
 have h2 := heap_alloc_new (w.alloc a) b
 have h3 := heap_alloc_new ((w.alloc a).alloc b) c
 have h4 := heap_alloc_new (((w.alloc a).alloc b).alloc c) d
 simp only [World.size_alloc] at h2 h3 h4
 have p1 := fun k (h : k < w.heap.size) => Below.heap_alloc w a k h
 have p2 := fun k (h : k < w.heap.size + 1) => Below.heap_alloc (w.alloc a) b k (by simpa using h)
 have p3 := fun k (h : k < w.heap.size + 1 + 1) => Below.heap_alloc ((w.alloc a).alloc b) c k (by simpa using h)
 have p4 := fun k (h : k < w.heap.size + 1 + 1 + 1) => Below.heap_alloc (((w.alloc a).alloc b).alloc c) d k (by simpa using h)
 refine ⟨fun k h => by rw [p4 k (by omega), p3 k (by omega), p2 k (by omega), p1 k h], by rw [p4 _ (by omega), p3 _ (by omega), p2 _ (by omega), h1], by rw [p4 _ (by omega), p3 _ (by omega), h2], by rw [p4 _ (by omega), h3], h4, by simp⟩
set_option maxHeartbeats 1000000 in
set_option maxRecDepth 100000 in
/-- better's iterator: given the caller's round, it tells the best choice last. -/
theorem better1_calls (w0 w : World) (A : Option Addr) (c : Nat) (l : List S82) (u : Nat) (ucaps : Array Value) (U : S82 → Bool) (O V L Uc RR R lp : Nat) (rec : Loop)
  (read : Kd.C k82 w0 A l.length l) (cap : l.length ≤ c) (few : okBids l = true)
  (use : ∀ (b : S82) (A2 : Option Addr) (c2 : Nat) (W : World), Below w0.heap.size w0 W → Calls Try.prog u (#[.agg #[.int .i64 b.f0, .int .i64 b.f1, .slice A2 b.f2.length c2]] ++ ucaps) W (fun e W' => e = .returned (.bool (U b)) ∧ Below W.heap.size W W'))
  (enter : ∀ args w, (callFunc u args).run Try.prog w = .ok (.enter u args) w) (below : Below w0.heap.size w0 w)
  (o1 : w0.heap.size ≤ O) (o2 : O < V) (o3 : V < L) (o4 : L < Uc) (o5 : Uc < RR) (o6 : RR < R) (o7 : R < lp) (o8 : lp < w.heap.size)
  (hR : w.heap[R]? = some (.cells #[.slice (some ⟨RR, 0, none⟩) (l.length + 1) (l.length + 1)] 22 (0, 0)))
  (hRR : w.heap[RR]? = some (.cells ((restsOf U l).map (Value.int .i64)).toArray 3 (0, 0)))
  (hL : w.heap[L]? = some (.cells #[.slice A l.length c] 40 (0, 0)))
  (hU : w.heap[Uc]? = some (.cells #[.func (.func u) #[] ucaps] 113 (0, 0)))
  (hlp : w.heap[lp]? = some (.loop rec)) (hO : w.heap[O]? = some (.cells #[.slice none 0 0] 22 (0, 0))) (hV : w.heap[V]? = some (.cells #[.int .i64 0] 3 (0, 0)))
  (hy : ∀ s : SC, s.Ok → s.rec_ = rec → s.lp = lp → s.O = O → s.V = V → s.l = l → s.Yields) :
  Calls Try.prog 86 #[.func (.yield lp) #[] #[], .pointer (some ⟨R, 0, none⟩), .pointer (some ⟨L, 0, none⟩), .pointer (some ⟨Uc, 0, none⟩)] w (fun e W' => e = .returned (.tuple #[]) ∧
   ∃ s : SC, s.Ok ∧ s.w0 = w0 ∧ s.O = O ∧ s.V = V ∧ s.lp = lp ∧ s.rec_ = rec ∧ (∀ k, k < w.heap.size → s.W1.heap[k]? = w.heap[k]?) ∧ (∃ best, s.St (fun _ => False) W' [] best (tryP U l l 0 0 [] (-1, [], 0)).2.1 (tryP U l l 0 0 [] (-1, [], 0)).2.2)) := by
 have hfour := four_allocs w (.cells #[.func (.yield lp) #[] #[]] 80) (.cells #[.int .i64 (-1)] 3) (.cells #[.slice none 0 0] 22) (.cells #[.func (.func 87) #[] #[.pointer (some ⟨R, 0, none⟩), .pointer (some ⟨w.heap.size + 1, 0, none⟩), .pointer (some ⟨L, 0, none⟩), .pointer (some ⟨w.heap.size, 0, none⟩), .pointer (some ⟨w.heap.size + 1 + 1, 0, none⟩), .pointer (some ⟨Uc, 0, none⟩), .pointer (some ⟨w.heap.size + 1 + 1 + 1, 0, none⟩)]] 124)
 have hbw : Below w.heap.size w ((((w.alloc (.cells #[.func (.yield lp) #[] #[]] 80)).alloc (.cells #[.int .i64 (-1)] 3)).alloc (.cells #[.slice none 0 0] 22)).alloc (.cells #[.func (.func 87) #[] #[.pointer (some ⟨R, 0, none⟩), .pointer (some ⟨w.heap.size + 1, 0, none⟩), .pointer (some ⟨L, 0, none⟩), .pointer (some ⟨w.heap.size, 0, none⟩), .pointer (some ⟨w.heap.size + 1 + 1, 0, none⟩), .pointer (some ⟨Uc, 0, none⟩), .pointer (some ⟨w.heap.size + 1 + 1 + 1, 0, none⟩)]] 124)) :=
  ((((Below.refl _ w).alloc (Nat.le_refl _) _).alloc (by simp) _).alloc (by simp; omega) _).alloc (by simp; omega) _
 obtain ⟨W1, hW1⟩ : ∃ W1, W1 = ((((w.alloc (.cells #[.func (.yield lp) #[] #[]] 80)).alloc (.cells #[.int .i64 (-1)] 3)).alloc (.cells #[.slice none 0 0] 22)).alloc (.cells #[.func (.func 87) #[] #[.pointer (some ⟨R, 0, none⟩), .pointer (some ⟨w.heap.size + 1, 0, none⟩), .pointer (some ⟨L, 0, none⟩), .pointer (some ⟨w.heap.size, 0, none⟩), .pointer (some ⟨w.heap.size + 1 + 1, 0, none⟩), .pointer (some ⟨Uc, 0, none⟩), .pointer (some ⟨w.heap.size + 1 + 1 + 1, 0, none⟩)]] 124)) := ⟨_, rfl⟩
 rw [← hW1] at hfour hbw
 obtain ⟨f0, f1, f2, f3, f4, f5⟩ := hfour
 obtain ⟨s, hse⟩ : ∃ s : SC, s = { w0 := w0, W1 := W1, A := A, c := c, l := l, u := u, ucaps := ucaps, U := U, O := O, V := V, L := L, Uc := Uc, RR := RR, R := R, lp := lp, Y := w.heap.size, B := w.heap.size + 1, Wn := w.heap.size + 1 + 1, T := w.heap.size + 1 + 1 + 1, rec_ := rec } := ⟨_, rfl⟩
 have hs : s.Ok := by
  subst hse
  exact ⟨read, cap, few, use, enter, below.trans (hbw.mono below.size), o1, o2, o3, o4, o5, o6, o7, o8, Nat.lt_succ_self _, Nat.lt_succ_self _, Nat.lt_succ_self _, by show w.heap.size + 1 + 1 + 1 < W1.heap.size; omega,
   (f0 R (by omega)).trans hR, (f0 RR (by omega)).trans hRR, (f0 L (by omega)).trans hL, (f0 Uc (by omega)).trans hU, f1, f4, (f0 lp (by omega)).trans hlp⟩
 have hS : s.St (fun _ => False) W1 [] (-1) [] 0 := by
  subst hse
  exact ⟨rfl, rfl, rfl, Nat.le_refl _, fun _ _ _ _ _ _ => rfl, f2, (f0 V (by omega)).trans hV, ⟨.slice none 0 0, .slice none 0 0, f3, (f0 O (by omega)).trans hO, Kd.R_nil _ _ _ _ _, Kd.R_nil _ _ _ _ _⟩, fun k hk => hk.elim⟩
 have htry := try_calls s hs (hy s hs (by rw [hse]) (by rw [hse]) (by rw [hse]) (by rw [hse]) (by rw [hse])) s.l 0 0 [] (-1) [] 0 W1 (fun _ => False) rfl (Nat.zero_le _) (by omega) (by have := hs.len; omega) (by simp) (by simp) hS
 have hfin : s.Ok ∧ s.w0 = w0 ∧ s.O = O ∧ s.V = V ∧ s.lp = lp ∧ s.rec_ = rec ∧ (∀ k, k < w.heap.size → s.W1.heap[k]? = w.heap[k]?) := by
  refine ⟨hs, ?_⟩
  subst hse
  exact ⟨rfl, rfl, rfl, rfl, rfl, f0⟩
 have hcaps : s.caps = #[.pointer (some ⟨R, 0, none⟩), .pointer (some ⟨w.heap.size + 1, 0, none⟩), .pointer (some ⟨L, 0, none⟩), .pointer (some ⟨w.heap.size, 0, none⟩), .pointer (some ⟨w.heap.size + 1 + 1, 0, none⟩), .pointer (some ⟨Uc, 0, none⟩), .pointer (some ⟨w.heap.size + 1 + 1 + 1, 0, none⟩)] := by rw [hse]; rfl
 have hsl : s.l = l ∧ s.U = U := by rw [hse]; exact ⟨rfl, rfl⟩
 rw [hcaps, hsl.1, hsl.2] at htry
 have Htry := Aside0.mk htry
 have Hfin := Aside0.mk hfin
 have HW1 := Aside0.mk hW1
 clear htry hfin hcaps hsl hS hs hse f0 f1 f2 f3 f4 f5 hbw hW1 hy hV hO hlp hU hL hRR hR o1 o2 o3 o4 o5 o6 o7 o8 below enter use few cap read
 go_enter Try.func86, Try.ntmps86
 go_wp2_with fail
 rw [← HW1.out]
 refine Htry.out.mono ?_
 rintro e w2 ⟨rfl, hS2, _, _⟩
 go_wp2
 go_end0
 exact ⟨rfl, s, Hfin.out.1, Hfin.out.2.1, Hfin.out.2.2.1, Hfin.out.2.2.2.1, Hfin.out.2.2.2.2.1, Hfin.out.2.2.2.2.2.1, Hfin.out.2.2.2.2.2.2, _, hS2⟩
theorem made_zeros (n : Nat) : madeCells #[.int .i64 0] n = (List.replicate n (Value.int .i64 0)).toArray := by
 apply Array.ext
 ·simp [size_madeCells]
 ·intro i h1 h2
  simp [madeCells, Nat.mod_one]
/-- better's variables, while it sums. -/
structure BI (w : World) (A : Option Addr) (c : Nat) (l : List S82) (u : Nat) (ucaps : Array Value) (arr : List Int) (wr : World) : Prop where
 below : Below w.heap.size w wr
 size : w.heap.size + 1 + 1 + 1 < wr.heap.size
 hL : wr.heap[w.heap.size]? = some (.cells #[.slice A l.length c] 40 (0, 0))
 hU : wr.heap[w.heap.size + 1]? = some (.cells #[.func (.func u) #[] ucaps] 113 (0, 0))
 hA : wr.heap[w.heap.size + 1 + 1]? = some (.cells (arr.map (Value.int .i64)).toArray 3 (0, 0))
 hR : wr.heap[w.heap.size + 1 + 1 + 1]? = some (.cells #[.slice (some ⟨w.heap.size + 1 + 1, 0, none⟩) (l.length + 1) (l.length + 1)] 22 (0, 0))
section
variable {w : World} {A : Option Addr} {c : Nat} {l : List S82} {u : Nat} {ucaps : Array Value} {arr : List Int} {wr w' : World}
theorem BI.step (h : BI w A c l u ucaps arr wr) (hb : Below wr.heap.size wr w') : BI w A c l u ucaps arr w' :=
 ⟨h.below.trans (hb.mono h.below.size), Nat.lt_of_lt_of_le h.size hb.size, (hb.block _ (blk_lt h.hL)).trans h.hL, (hb.block _ (blk_lt h.hU)).trans h.hU, (hb.block _ (blk_lt h.hA)).trans h.hA, (hb.block _ (blk_lt h.hR)).trans h.hR⟩
theorem BI.set (h : BI w A c l u ucaps arr wr) (i : Nat) (x : Int) : BI w A c l u ucaps (arr.set i x) (wr.setCell ⟨w.heap.size + 1 + 1, i, none⟩ (.int .i64 x)) := by
 have hb : Below (w.heap.size + 1 + 1) wr (wr.setCell ⟨w.heap.size + 1 + 1, i, none⟩ (.int .i64 x)) := (Below.refl _ wr).setCell (p := ⟨w.heap.size + 1 + 1, i, none⟩) (Nat.le_refl _) _
 refine ⟨h.below.trans (hb.mono (by omega)), Nat.lt_of_lt_of_le h.size hb.size, (hb.block _ (by omega)).trans h.hL, (hb.block _ (by omega)).trans h.hU, ?_, (Below.heap_setCell wr ⟨w.heap.size + 1 + 1, i, none⟩ _ _ (by simp)).trans h.hR⟩
 rw [blk_set h.hA i]
 simp [List.map_set]
end
/-- The sums as far as they are made. -/
def arrOf (U : S82 → Bool) (l : List S82) (m : Nat) : List Int := List.replicate m 0 ++ restsOf U (l.drop m)
theorem arrOf_len (U : S82 → Bool) (l : List S82) (m : Nat) (h : m ≤ l.length) : (arrOf U l m).length = l.length + 1 := by
 simp [arrOf, restsOf_len]; omega
theorem arrOf_set (U : S82 → Bool) (l : List S82) (m : Nat) (h : m < l.length) : (arrOf U l (m + 1)).set m (restOf U (l.drop m)) = arrOf U l m := by
 have hd : l.drop m = l[m] :: l.drop (m + 1) := List.drop_eq_getElem_cons h
 unfold arrOf
 rw [List.replicate_succ', List.append_assoc, List.set_append_right _ _ (by simp)]
 simp only [List.length_replicate, Nat.sub_self, List.singleton_append, List.set_cons_zero]
 conv => rhs; rw [hd]
 rw [hd]
 rfl
theorem arrOf_get (U : S82 → Bool) (l : List S82) (m : Nat) (h : m < l.length) : (arrOf U l (m + 1))[m + 1]? = some (restOf U (l.drop (m + 1))) := by
 unfold arrOf
 rw [List.getElem?_append_right (by simp)]
 have := restsOf_get U (l.drop (m + 1)) 0 (Nat.zero_le _)
 simpa using this
set_option maxHeartbeats 1000000 in
set_option maxRecDepth 100000 in
/-- better: its sums, its variables, its iterator. -/
theorem better_calls (w : World) (A : Option Addr) (c : Nat) (l : List S82) (u : Nat) (ucaps : Array Value) (U : S82 → Bool)
  (read : Kd.C k82 w A l.length l) (cap : l.length ≤ c) (few : okBids l = true)
  (use : ∀ (b : S82) (A2 : Option Addr) (c2 : Nat) (W : World), Below w.heap.size w W → Calls Try.prog u (#[.agg #[.int .i64 b.f0, .int .i64 b.f1, .slice A2 b.f2.length c2]] ++ ucaps) W (fun e W' => e = .returned (.bool (U b)) ∧ Below W.heap.size W W'))
  (enter : ∀ args w, (callFunc u args).run Try.prog w = .ok (.enter u args) w) :
  Calls Try.prog 81 #[.slice A l.length c, .func (.func u) #[] ucaps] w (fun e W' =>
   e = .returned (.func (.func 86) #[] #[.pointer (some ⟨w.heap.size + 1 + 1 + 1, 0, none⟩), .pointer (some ⟨w.heap.size, 0, none⟩), .pointer (some ⟨w.heap.size + 1, 0, none⟩)]) ∧ Below w.heap.size w W' ∧ w.heap.size + 1 + 1 + 1 < W'.heap.size ∧
   W'.heap[w.heap.size]? = some (.cells #[.slice A l.length c] 40 (0, 0)) ∧ W'.heap[w.heap.size + 1]? = some (.cells #[.func (.func u) #[] ucaps] 113 (0, 0)) ∧
   W'.heap[w.heap.size + 1 + 1]? = some (.cells ((restsOf U l).map (Value.int .i64)).toArray 3 (0, 0)) ∧ W'.heap[w.heap.size + 1 + 1 + 1]? = some (.cells #[.slice (some ⟨w.heap.size + 1 + 1, 0, none⟩) (l.length + 1) (l.length + 1)] 22 (0, 0))) := by
 have hl10 : l.length ≤ 10 := by
  simp only [okBids, Bool.and_eq_true, decide_eq_true_eq] at few
  exact few.1
 have hmk := print_make (P := Try.prog) 22 3 .i64 8 Try.underlying22 infoI (by decide) (l.length + 1) (by omega)
 have ec : ((l.length + 1 : Nat) : Int) = (l.length : Int) + 1 := by omega
 rw [ec, made_zeros] at hmk
 clear ec
 go_enter Try.func81, Try.ntmps81
 go_wp2
 have hfour := four_allocs w (.cells #[.slice A l.length c] 40) (.cells #[.func (.func u) #[] ucaps] 113) (.cells (List.replicate (l.length + 1) (Value.int .i64 0)).toArray 3) (.cells #[.slice (some ⟨w.heap.size + 1 + 1, 0, none⟩) (l.length + 1) (l.length + 1)] 22)
 simp only [List.toArray_replicate] at hfour
 obtain ⟨f0, f1, f2, f3, f4, f5⟩ := hfour
 have hb0 : BI w A c l u ucaps (arrOf U l l.length) ((((w.alloc (.cells #[.slice A l.length c] 40)).alloc (.cells #[.func (.func u) #[] ucaps] 113)).alloc (.cells (Array.replicate (l.length + 1) (Value.int .i64 0)) 3)).alloc (.cells #[.slice (some ⟨w.heap.size + 1 + 1, 0, none⟩) (l.length + 1) (l.length + 1)] 22)) := by
  refine ⟨((((Below.refl _ w).alloc (Nat.le_refl _) _).alloc (by simp) _).alloc (by simp; omega) _).alloc (by simp; omega) _, by rw [f5]; omega, f1, f2, ?_, f4⟩
  have ha : (arrOf U l l.length).map (Value.int .i64) = List.replicate (l.length + 1) (Value.int .i64 0) := by
   rw [List.replicate_succ']
   simp [arrOf, restsOf]
  rw [f3, ha, List.toArray_replicate]
 have Hb0 := Aside0.mk hb0
 clear f0 f1 f2 f3 f4 f5 hb0
 go_loopw [6] (fun i wr => ∃ m : Nat, m ≤ l.length ∧ i = .int .i64 ((m : Int) - 1) ∧ Aside0 (BI w A c l u ucaps (arrOf U l m) wr)) (fun i _ => (intOf i + 1).toNat)
 case atStart => exact ⟨l.length, Nat.le_refl _, rfl, Hb0⟩
 case round =>
  clear Hb0
  obtain ⟨m, hm, rfl, hBI⟩ := hrel
  cases m with
  | zero =>
   go_wp2
   go_ret
   have h := hBI.out
   have ha : arrOf U l 0 = restsOf U l := by simp [arrOf]
   rw [ha] at h
   exact ⟨rfl, h.below, h.size, h.hL, h.hU, h.hA, h.hR⟩
  | succ m =>
   have hml : m < l.length := by omega
   obtain ⟨ρ, hρ⟩ : ∃ ρ, restOf U (l.drop (m + 1)) = ρ := ⟨_, rfl⟩
   have hρb := restOf_bounds few (m + 1) U (by omega)
   rw [hρ] at hρb
   obtain ⟨b, hb⟩ : ∃ b, l[m]? = some b := ⟨l[m], List.getElem?_eq_getElem hml⟩
   have hrd : rd_T82 l m = b := by simp [rd_T82, List.getD, hb]
   have hdm : l.drop m = b :: l.drop (m + 1) := by
    rw [List.drop_eq_getElem_cons hml]
    have := List.getElem?_eq_getElem hml
    rw [hb] at this; injection this with this; rw [this]
   have hpb : 1 ≤ b.f1 ∧ b.f1 ≤ 1099511627776 := by
    simp only [okBids, Bool.and_eq_true, List.all_eq_true, decide_eq_true_eq] at few
    exact few.2 b (List.mem_of_getElem? hb)
   have h := hBI.out
   have hx := arrOf_get U l m hml
   rw [hρ] at hx
   have hlen := arrOf_len U l (m + 1) hm
   have hcL : wr.cell? ⟨w.heap.size, 0, none⟩ = some (.slice A l.length c) := (blk_cell h.hL 0).trans rfl
   have hcU : wr.cell? ⟨w.heap.size + 1, 0, none⟩ = some (.func (.func u) #[] ucaps) := (blk_cell h.hU 0).trans rfl
   have hcR : wr.cell? ⟨w.heap.size + 1 + 1 + 1, 0, none⟩ = some (.slice (some ⟨w.heap.size + 1 + 1, 0, none⟩) (l.length + 1) (l.length + 1)) := (blk_cell h.hR 0).trans rfl
   have hcX : wr.cell? ⟨w.heap.size + 1 + 1, m + 1, none⟩ = some (.int .i64 ρ) := (blk_cell h.hA (m + 1)).trans (by simp [hx])
   have hcY : ∃ y, wr.cell? ⟨w.heap.size + 1 + 1, m, none⟩ = some (.int .i64 y) := by
    have : m < (arrOf U l (m + 1)).length := by omega
    exact ⟨(arrOf U l (m + 1))[m], (blk_cell h.hA m).trans (by simp [this])⟩
   obtain ⟨y, hcY⟩ := hcY
   have hfY : wr.frozen? ⟨w.heap.size + 1 + 1, m, none⟩ = false := blk_frozen h.hA m
   obtain ⟨hρ0, hρ1⟩ := hρb
   have Hx := Aside0.mk hx
   have Hrd := Aside0.mk hrd
   have Hdm := Aside0.mk hdm
   have Hρ := Aside0.mk hρ
   have Huse := Aside0.mk use
   have Hread := Aside0.mk read
   clear h hx hrd hdm hρ hb hlen use read
   rw [show (((m + 1 : Nat) : Int) - 1) = (m : Int) from by omega]
   go_upto_region 5 with (fail)
   have hw1 : IntKind.i64.wrap ((m : Int) + 1) = (m : Int) + 1 := IntWalk.i64_in _ (by omega)
   have hw2 : (0 : Int) ≤ (m : Int) + 1 := by omega
   have hw3 : ((m : Int) + 1).toNat = m + 1 := by omega
   have hw4 : (m : Int) + 1 < (l.length : Int) + 1 := by omega
   have hw5 : (m : Int) < (l.length : Int) + 1 := by omega
   have hw6 : (0 : Int) ≤ (m : Int) := by omega
   have hw7 : (m : Int) < (l.length : Int) := by omega
   go_still_tail 8, (by kernel_rfl)
   change wpList _ _ _ _ _ wr.drew
   have h5 : BI w A c l u ucaps ((arrOf U l (m + 1)).set m ρ) (wr.setCell ⟨w.heap.size + 1 + 1, m, none⟩ (.int .i64 ρ)).drew := (hBI.out.set m ρ).step ⟨rfl, rfl, rfl, Nat.le_refl _, fun _ _ => rfl⟩
   have H5 := Aside0.mk h5
   clear h5 hw1 hw2 hw3 hw4 hw5 hw6 hw7
   go_upto_region 6 with (fail)
   generalize (wr.setCell ⟨w.heap.size + 1 + 1, m, none⟩ (.int .i64 ρ)).drew = w5 at *
   clear hcL hcU hcR hcX hcY hfY hBI
   have h := H5.out
   have hcL : w5.cell? ⟨w.heap.size, 0, none⟩ = some (.slice A l.length c) := (blk_cell h.hL 0).trans rfl
   have hcU : w5.cell? ⟨w.heap.size + 1, 0, none⟩ = some (.func (.func u) #[] ucaps) := (blk_cell h.hU 0).trans rfl
   obtain ⟨ad, A2, c2, e, g0, g1, g2, gl2, gk2⟩ := at_T82 (Kd.C_below Hread.out h.below) (m : Int) (by omega) (by omega)
   rw [Int.toNat_natCast, Hrd.out] at g0 g1 g2
   rw [Hrd.out] at gl2 gk2
   rw [e] at hcL
   clear e
   have huse := Huse.out b A2 c2 w5.drew ⟨h.below.os, h.below.tape, h.below.output, h.below.size, h.below.block⟩
   have Hu := Aside0.mk huse
   clear h huse gl2 gk2
   have hw6 : (0 : Int) ≤ (m : Int) := by omega
   have hw7 : (m : Int) < (l.length : Int) := by omega
   go_still_tail 5, (by kernel_rfl)
   change wpList _ _ _ _ _ w5.drew
   go_wp2_with fail
   refine Hu.out.mono ?_
   rintro e6 w6 ⟨rfl, hb6⟩
   have h6 : BI w A c l u ucaps ((arrOf U l (m + 1)).set m ρ) w6 := H5.out.step (Below.trans (b := w5.drew) ⟨rfl, rfl, rfl, Nat.le_refl _, fun _ _ => rfl⟩ hb6)
   have H6 := Aside0.mk h6
   clear hcL hcU g0 g1 g2 Hu hb6 H5
   cases hUb : U b
   ·have hz : restOf U (l.drop m) = ρ := by rw [Hdm.out]; simp [restOf, Hρ.out, hUb]
    have hset := arrOf_set U l m hml
    rw [hz] at hset
    rw [hset] at h6
    have H7 := Aside0.mk h6
    clear hz hset h6 H6 hUb
    go_wp2
    go_roundw
    case rel => exact ⟨m, by omega, by go_num, H7⟩
    case measure => simp [intOf]
   ·have hz : restOf U (l.drop m) = ρ + b.f1 := by rw [Hdm.out]; simp [restOf, Hρ.out, hUb]
    have hset := arrOf_set U l m hml
    rw [hz] at hset
    have hcL : w6.cell? ⟨w.heap.size, 0, none⟩ = some (.slice A l.length c) := (blk_cell h6.hL 0).trans rfl
    have hcR : w6.cell? ⟨w.heap.size + 1 + 1 + 1, 0, none⟩ = some (.slice (some ⟨w.heap.size + 1 + 1, 0, none⟩) (l.length + 1) (l.length + 1)) := (blk_cell h6.hR 0).trans rfl
    have hcY : w6.cell? ⟨w.heap.size + 1 + 1, m, none⟩ = some (.int .i64 ρ) := (blk_cell h6.hA m).trans (by
     have := arrOf_len U l (m + 1) hm
     rw [List.getElem?_toArray, List.getElem?_map, List.getElem?_set_self (by omega)]; rfl)
    have hfY : w6.frozen? ⟨w.heap.size + 1 + 1, m, none⟩ = false := blk_frozen h6.hA m
    obtain ⟨ad', A2', c2', e', g0, g1, g2, gl2, gk2⟩ := at_T82 (Kd.C_below Hread.out h6.below) (m : Int) (by omega) (by omega)
    rw [Int.toNat_natCast, Hrd.out] at g1
    rw [e'] at hcL
    clear e'
    have h7 : BI w A c l u ucaps (arrOf U l m) (w6.setCell ⟨w.heap.size + 1 + 1, m, none⟩ (.int .i64 (ρ + b.f1))).drew := by
     have := (h6.set m (ρ + b.f1)).step (w' := (w6.setCell ⟨w.heap.size + 1 + 1, m, none⟩ (.int .i64 (ρ + b.f1))).drew) ⟨rfl, rfl, rfl, Nat.le_refl _, fun _ _ => rfl⟩
     rwa [List.set_set, hset] at this
    have H7 := Aside0.mk h7
    have hsum : 0 ≤ ρ + b.f1 := by omega
    have hw1 : IntKind.i64.wrap (ρ + b.f1) = ρ + b.f1 := IntWalk.i64_in _ (by omega)
    have hw5 : (m : Int) < (l.length : Int) + 1 := by omega
    have hw6 : (0 : Int) ≤ (m : Int) := by omega
    have hw7 : (m : Int) < (l.length : Int) := by omega
    clear hz hset h6 H6 h7 hUb g0 g2 gl2 gk2
    go_upto_region 7 with (fail)
    go_still_tail 11, (by kernel_rfl)
    change wpList _ _ _ _ _ w6.drew
    clear hw1
    go_wp2
    go_roundw
    case rel => exact ⟨m, by omega, by go_num, H7⟩
    case measure => simp [intOf]
end Go.Proofs.Ytdamibblnjeooaa.H

/- search: the loop over the iterator of package clear; Best and others. -/
namespace Go.Proofs.Ytdamibblnjeooaa.H
open Go.RowKit Go.Proofs.YtdamibblnjeooaaW.PrintWords Go.Proofs.YtdamibblnjeooaaW.PrintLast Go.Proofs.YtdamibblnjeooaaW.PrintMore
set_option linter.unusedVariables false
set_option linter.unusedSimpArgs false
attribute [local go_sem] Oper.semAt_some
theorem enters_better1 : ∀ args w, (callFunc 86 args).run Try.prog w = .ok (.enter 86 args) w := fun args w => by kernel_rfl
theorem putObj_at {W W2 : World} {r : Nat} {o : Obj} (e : W.putObj r o = W2) (h : r < W.heap.size) : W2.heap[r]? = some o := by rw [← e]; exact World.putObj_heap_same h
set_option maxHeartbeats 1000000 in
set_option maxRecDepth 100000 in
/-- search: the last that is told. -/
theorem search_calls (w : World) (A : Option Addr) (c : Nat) (l : List S82) (u : Nat) (ucaps : Array Value) (U : S82 → Bool)
  (read : Kd.C k82 w A l.length l) (cap : l.length ≤ c) (few : okBids l = true)
  (use : ∀ (b : S82) (A2 : Option Addr) (c2 : Nat) (W : World), Below w.heap.size w W → Calls Try.prog u (#[.agg #[.int .i64 b.f0, .int .i64 b.f1, .slice A2 b.f2.length c2]] ++ ucaps) W (fun e W' => e = .returned (.bool (U b)) ∧ Below W.heap.size W W'))
  (enter : ∀ args w, (callFunc u args).run Try.prog w = .ok (.enter u args) w) :
  Calls Try.prog 60 #[.slice A l.length c, .func (.func u) #[] ucaps] w (fun e W' => ∃ v, e = .returned (.tuple #[v, .int .i64 (searchP U l).2]) ∧
   Kd.R (Kd.int .i64) 3 W' w.heap.size (fun _ => True) v (searchP U l).1 ∧ Below w.heap.size w W') := by
 refine (callsIn_wide (n := 3)).1 ?_
 refine callsIn_of_wp_marks Try.func60 rfl trivial ?_ rfl
 simp only [Try.ntmps60, List.size_toArray, List.length_cons, List.length_nil, Nat.reduceAdd, Nat.reduceSub, Array.replicate_succ, Array.replicate_zero, List.push_toArray, List.append_toArray, List.nil_append, List.cons_append]
 have hb0 : Below w.heap.size w ((w.alloc (.cells #[.slice none 0 0] 22)).alloc (.cells #[.int .i64 0] 3)) := ((Below.refl _ w).alloc (Nat.le_refl _) _).alloc (by simp) _
 have hbc := better_calls ((w.alloc (.cells #[.slice none 0 0] 22)).alloc (.cells #[.int .i64 0] 3)) A c l u ucaps U (Kd.C_below read hb0) cap few (fun b A2 c2 W hW => use b A2 c2 W (hb0.trans (hW.mono (by simp; omega)))) enter
 simp only [World.size_alloc] at hbc
 have Hbc := Aside0.mk hbc
 have Hb0 := Aside0.mk hb0
 clear hbc hb0
 gi_wp2_with (refine ⟨trivial, ?_⟩; gi_at_call 81; refine (callsIn_wide.2 Hbc.out).mono ?_; rintro e w1 ⟨rfl, hb1, hz1, hL, hU, hRR, hR⟩)
 have hO1 : w1.heap[w.heap.size]? = some (.cells #[.slice none 0 0] 22 (0, 0)) := (hb1.block _ (by omega)).trans ((Below.heap_alloc _ _ _ (by simp)).trans (heap_alloc_new w _))
 have hV1 : w1.heap[w.heap.size + 1]? = some (.cells #[.int .i64 0] 3 (0, 0)) := (hb1.block _ (by omega)).trans (by simpa using heap_alloc_new (w.alloc (.cells #[.slice none 0 0] 22)) (.cells #[.int .i64 0] 3))
 have hB1 : Below w.heap.size w w1 := Hb0.out.trans (hb1.mono (by omega))
 have hW2 : ∀ r : Loop, (∀ k, k < w1.heap.size → ((w1.alloc (.deferred (some []))).alloc (.loop r)).heap[k]? = w1.heap[k]?) ∧ ((w1.alloc (.deferred (some []))).alloc (.loop r)).heap[w1.heap.size]? = some (.deferred (some [])) ∧ ((w1.alloc (.deferred (some []))).alloc (.loop r)).heap[w1.heap.size + 1]? = some (.loop r) ∧
   ((w1.alloc (.deferred (some []))).alloc (.loop r)).heap.size = w1.heap.size + 1 + 1 ∧ Below w.heap.size w ((w1.alloc (.deferred (some []))).alloc (.loop r)) := fun r => by
  have e1 := heap_alloc_new w1 (.deferred (some []))
  have e2 := heap_alloc_new (w1.alloc (.deferred (some []))) (.loop r)
  simp only [World.size_alloc] at e2
  have p1 := fun k (h : k < w1.heap.size) => Below.heap_alloc w1 (.deferred (some [])) k h
  have p2 := fun k (h : k < w1.heap.size + 1) => Below.heap_alloc (w1.alloc (.deferred (some []))) (.loop r) k (by simpa using h)
  have := hB1.size
  exact ⟨fun k h => by rw [p2 k (by omega), p1 k h], by rw [p2 _ (by omega), e1], e2, by simp, (hB1.alloc (by omega) _).alloc (by simp; omega) _⟩
 refine wpIn_rangeFunc ?_
 intro fn hfn
 simp only [Fence.wide_round]
 refine ⟨w1.heap.size + 1, [{ target := .collected w1.heap.size, args := #[] }], ?_⟩
 apply Exists.intro
 refine ⟨{ target := .fn (.func 86) #[.pointer (some ⟨w.heap.size + 1 + 1 + 1 + 1 + 1, 0, none⟩), .pointer (some ⟨w.heap.size + 1 + 1, 0, none⟩), .pointer (some ⟨w.heap.size + 1 + 1 + 1, 0, none⟩)], args := #[.func (.yield (w1.heap.size + 1)) #[] #[]] }, ?_⟩
 apply Exists.intro
 refine ⟨86, #[.func (.yield (w1.heap.size + 1)) #[] #[], .pointer (some ⟨w.heap.size + 1 + 1 + 1 + 1 + 1, 0, none⟩), .pointer (some ⟨w.heap.size + 1 + 1, 0, none⟩), .pointer (some ⟨w.heap.size + 1 + 1 + 1, 0, none⟩)], ?_⟩
 apply Exists.intro
 refine ⟨run_enterLoop_outer _ _ _ _ _, ?_, fun _ _ => trivial, ?_, fun h => by simp [Fence.wide] at h, ?_⟩
 ·simp only [resolve, rangeCall]
  simp [go_sem, Act.eval]
  rfl
 ·simp [invoke, go_sem, enters_better1]
  rfl
 ·refine (callsIn_wide.2 (better1_calls w _ A c l u ucaps U w.heap.size (w.heap.size + 1) (w.heap.size + 1 + 1) (w.heap.size + 1 + 1 + 1) (w.heap.size + 1 + 1 + 1 + 1) (w.heap.size + 1 + 1 + 1 + 1 + 1) (w1.heap.size + 1) _ read cap few use enter (hW2 _).2.2.2.2 (Nat.le_refl _) (Nat.lt_succ_self _) (Nat.lt_succ_self _) (Nat.lt_succ_self _) (Nat.lt_succ_self _) (Nat.lt_succ_self _) (by omega) (by rw [(hW2 _).2.2.2.1]; omega)
   (((hW2 _).1 _ (by omega)).trans hR) (((hW2 _).1 _ (by omega)).trans hRR) (((hW2 _).1 _ (by omega)).trans hL) (((hW2 _).1 _ (by omega)).trans hU) (hW2 _).2.2.1 (((hW2 _).1 _ (by omega)).trans hO1) (((hW2 _).1 _ (by omega)).trans hV1) ?_)).mono ?_
  ·intro s hs hrec hlp hO hV hl P W win best out val vw v hS hvw hwl
   have hlW : W.heap[s.lp]? = some (.loop s.rec_) := (hS.fix s.lp (by have := hs.o8; have := hs.o9; have := hs.o10; have := hs.o11; have := hs.o12; omega) (by have := hs.o2; have := hs.o3; have := hs.o4; have := hs.o5; have := hs.o6; have := hs.o7; omega) (by have := hs.o3; have := hs.o4; have := hs.o5; have := hs.o6; have := hs.o7; omega) (by have := hs.o8; have := hs.o9; omega) (by have := hs.o8; have := hs.o9; have := hs.o10; omega)).trans hs.hlp
   have hrow : Kd.R (Kd.int .i64) 3 W s.W1.heap.size (fun k => ¬ P k) vw win := by
    obtain ⟨vw', vo, h1, h2, h3, h4⟩ := hS.rows
    obtain rfl : vw' = vw := by rw [hvw] at h1; simpa using h1.symm
    exact h3
   have hY := run_yield (P := Try.prog) (args := #[vw, .int .i64 v]) hlW (by rw [hrec]; rfl)
   rw [hrec] at hY hlW
   refine ⟨_, _, _, _, hY, roundIn_of_wpIn trivial ?_⟩
   have Hs := Aside0.mk hs
   have HS := Aside0.mk hS
   have Hrow := Aside0.mk hrow
   have Hvw := Aside0.mk hvw
   have HlW := Aside0.mk hlW
   clear hY hs hS hrow hvw hlW hW2 hB1 hV1 hO1 hR hRR hU hL hz1 hb1 Hb0 Hbc use enter read cap few
   have Hrec := Aside0.mk hrec
   clear hrec
   gi_wp2
   have hlt : s.lp < W.heap.size := blk_lt HlW.out
   refine ⟨_, run_beginRound HlW.out rfl, ?_⟩
   generalize hW2 : World.putObj W s.lp _ = W2
   have HW2 := Aside0.mk hW2
   clear hW2
   have hB2 : W.heap.size ≤ W2.heap.size := by rw [← HW2.out]; simp [World.putObj]
   have hf2 : ∀ k, k ≠ s.lp → W2.heap[k]? = W.heap[k]? := fun k hk => by rw [← HW2.out]; exact World.putObj_heap_other hk
   have hrow2 : Kd.R (Kd.int .i64) 3 W2 s.W1.heap.size (fun k => ¬ P k) vw win := Kd.R_mono (Kd.R_step (Kd.R_bound Hrow.out) (fun k hk hlt => hf2 k (by have := Hs.out.o8; have := Hs.out.o9; have := Hs.out.o10; have := Hs.out.o11; have := Hs.out.o12; have := hk.2.1; omega))) (fun k hk => hk.1)
   have hcl := clone_calls vw win W2 _ _ hrow2 hwl
   have hl2 := putObj_at HW2.out hlt
   have hO2 : ∃ vo, W2.heap[s.O]? = some (.cells #[vo] 22 (0, 0)) := by
    obtain ⟨vw', vo, h1, h2, h3, h4⟩ := HS.out.rows
    exact ⟨vo, (hf2 _ (by have := Hs.out.o2; have := Hs.out.o3; have := Hs.out.o4; have := Hs.out.o5; have := Hs.out.o6; have := Hs.out.o7; omega)).trans h2⟩
   have hV2 : W2.heap[s.V]? = some (.cells #[.int .i64 val] 3 (0, 0)) := (hf2 _ (by have := Hs.out.o3; have := Hs.out.o4; have := Hs.out.o5; have := Hs.out.o6; have := Hs.out.o7; omega)).trans HS.out.val
   obtain ⟨vo, hO2⟩ := hO2
   rw [hO] at hO2
   rw [hV] at hV2
   have hlO : s.lp ≠ w.heap.size ∧ s.lp ≠ w.heap.size + 1 := by have := Hs.out.o2; have := Hs.out.o3; have := Hs.out.o4; have := Hs.out.o5; have := Hs.out.o6; have := Hs.out.o7; omega
   have Hcl := Aside0.mk hcl
   have Hl2 := Aside0.mk hl2
   have HO2 := Aside0.mk hO2
   have HV2 := Aside0.mk hV2
   have Hf2 := Aside0.mk hf2
   clear hcl hl2 hO2 hV2 hf2 hrow2 Hrow Hvw
   gi_wp2_with (refine ⟨trivial, rfl, ?_⟩; gi_at_call 82; refine (CallsIn.inRound _ (callsIn_wide.2 Hcl.out)).mono ?_; rintro e w3 ⟨v', rfl, hv3, hb3⟩; (obtain ⟨A3, c3, rfl⟩ := Kd.R_slice hv3); (have h3O := (hb3.block _ (blk_lt HO2.out)).trans HO2.out); (have h3V := (hb3.block _ (blk_lt HV2.out)).trans HV2.out); (have h3l := (hb3.block _ (blk_lt Hl2.out)).trans Hl2.out); have H3l := Aside0.mk h3l; have Hb3 := Aside0.mk hb3; have Hv3 := Aside0.mk hv3; (have hcO : w3.cell? ⟨w.heap.size, 0, none⟩ = some vo := (blk_cell h3O 0).trans rfl); (have hfO : w3.frozen? ⟨w.heap.size, 0, none⟩ = false := blk_frozen h3O 0); (have hcV : w3.cell? ⟨w.heap.size + 1, 0, none⟩ = some (.int .i64 val) := (blk_cell h3V 0).trans rfl); (have hfV : w3.frozen? ⟨w.heap.size + 1, 0, none⟩ = false := blk_frozen h3V 0); have H3O := Aside0.mk h3O; have H3V := Aside0.mk h3V; clear h3l hb3 hv3 h3O h3V Hcl)
   clear hcO hfO hcV hfV
   obtain ⟨W4, hW4⟩ : ∃ W4, W4 = (w3.setCell ⟨w.heap.size, 0, none⟩ (.slice A3 win.length c3)).setCell ⟨w.heap.size + 1, 0, none⟩ (.int .i64 v) := ⟨_, rfl⟩
   rw [← hW4]
   have hB4 : Below w.heap.size w3 W4 := by rw [hW4]; exact ((Below.refl _ w3).setCell (p := ⟨w.heap.size, 0, none⟩) (Nat.le_refl _) _).setCell (p := ⟨w.heap.size + 1, 0, none⟩) (Nat.le_succ _) _
   have hf4 : ∀ k, k ≠ w.heap.size → k ≠ w.heap.size + 1 → W4.heap[k]? = w3.heap[k]? := fun k h1 h2 => by rw [hW4]; exact (Below.heap_setCell _ ⟨w.heap.size + 1, 0, none⟩ _ k h2).trans (Below.heap_setCell _ ⟨w.heap.size, 0, none⟩ _ k h1)
   have hl4 := (hf4 _ hlO.1 hlO.2).trans H3l.out
   refine ⟨_, _, run_endRound none hl4, rfl, ?_⟩
   have hlt4 : s.lp < W4.heap.size := blk_lt hl4
   have hO4 : W4.heap[w.heap.size]? = some (.cells #[.slice A3 win.length c3] 22 (0, 0)) := by
    rw [hW4]
    exact (Below.heap_setCell _ ⟨w.heap.size + 1, 0, none⟩ _ _ (by simp)).trans (by simpa using blk_set H3O.out 0 (.slice A3 win.length c3))
   have hV4 : W4.heap[w.heap.size + 1]? = some (.cells #[.int .i64 v] 3 (0, 0)) := by
    rw [hW4]
    have := (Below.heap_setCell w3 ⟨w.heap.size, 0, none⟩ (.slice A3 win.length c3) (w.heap.size + 1) (by simp)).trans H3V.out
    simpa using blk_set this 0 (.int .i64 v)
   have hz2 := blk_lt HV2.out
   have hb3 := Hb3.out
   have hz3 := hb3.size
   have hos2 : W2.os = W.os ∧ W2.tape = W.tape ∧ W2.output = W.output := by rw [← HW2.out]; exact ⟨rfl, rfl, rfl⟩
   refine SC.St.take_ HS.out Hs.out (vo := .slice A3 win.length c3) (v := v) (hB4.os.trans (hb3.os.trans hos2.1)) (hB4.tape.trans (hb3.tape.trans hos2.2.1)) (hB4.output.trans (hb3.output.trans hos2.2.2)) (by rw [World.putObj_size]; have := hB4.size; omega) (fun k hk h1 h2 h3 => ?_) (by rw [Hrec.out]; exact World.putObj_heap_same hlt4) ?_ ?_ ?_
   ·rw [hO] at h1
    rw [hV] at h2
    exact (World.putObj_heap_other h3).trans ((hf4 k h1 h2).trans ((hb3.block k (by omega)).trans (Hf2.out k h3)))
   ·rw [hO]; exact (World.putObj_heap_other (Ne.symm hlO.1)).trans hO4
   ·rw [hV]; exact (World.putObj_heap_other (Ne.symm hlO.2)).trans hV4
   ·refine Kd.R_mono (Kd.R_step (Kd.R_bound (Kd.R_lower (Kd.R_bound Hv3.out) hB2)) (fun k hk hlt => ?_)) (fun k _ => trivial)
    have hk1 := hk.1.2.1
    exact (World.putObj_heap_other (by omega)).trans (hf4 k (by omega) (by omega))
  ·rintro e w2 ⟨rfl, s, hs, hw0, hO, hV, hlp, hrec, hfix, best, hS⟩
   have hl2 : w2.heap[s.lp]? = some (.loop s.rec_) := (hS.fix s.lp (by have := hs.o8; have := hs.o9; have := hs.o10; have := hs.o11; have := hs.o12; omega) (by have := hs.o2; have := hs.o3; have := hs.o4; have := hs.o5; have := hs.o6; have := hs.o7; omega) (by have := hs.o3; have := hs.o4; have := hs.o5; have := hs.o6; have := hs.o7; omega) (by have := hs.o8; have := hs.o9; omega) (by have := hs.o8; have := hs.o9; have := hs.o10; omega)).trans hs.hlp
   have hbw2 := hS.below hs
   rw [hw0] at hbw2
   have hD2 : w2.heap[w1.heap.size]? = some (.deferred (some [])) := (hS.fix _ (by have := hs.o8; have := hs.o9; have := hs.o10; have := hs.o11; have := hs.o12; omega) (by omega) (by omega) (by have := hs.o8; have := hs.o9; omega) (by have := hs.o8; have := hs.o9; have := hs.o10; omega)).trans ((hfix _ (by rw [(hW2 _).2.2.2.1]; omega)).trans (hW2 _).2.1)
   obtain ⟨vw, vo, hr1, hr2, hr3, hr4⟩ := hS.rows
   have hv2 := hS.val
   rw [hV] at hv2
   rw [hO] at hr2
   rw [hrec, hlp] at hl2
   refine ⟨none, _, run_endLoop hl2 (by simp), ?_⟩
   gi_wp2
   have hlt2 := blk_lt hl2
   generalize hW3 : World.putObj w2 _ _ = w3
   have hf3 : ∀ k, k ≠ w1.heap.size + 1 → w3.heap[k]? = w2.heap[k]? := fun k hk => by rw [← hW3]; exact World.putObj_heap_other hk
   have hB3 : Below w.heap.size w w3 := by
    refine hbw2.trans ?_
    rw [← hW3]
    exact ⟨rfl, rfl, rfl, by simp, fun k hk => World.putObj_heap_other (by have := hbw2.size; omega)⟩
   have h3O := (hf3 w.heap.size (by omega)).trans hr2
   have h3V := (hf3 (w.heap.size + 1) (by omega)).trans hv2
   have h3D := (hf3 w1.heap.size (by omega)).trans hD2
   have hr5 : Kd.R (Kd.int .i64) 3 w3 w.heap.size (fun k => k ≠ w1.heap.size) vo (searchP U l).1 := by
    have hw1s : w1.heap.size < s.W1.heap.size := by have := hs.o8; have := hs.o9; have := hs.o10; have := hs.o11; have := hs.o12; omega
    have hw1l : w1.heap.size + 1 < s.W1.heap.size := by have := hs.o8; have := hs.o9; have := hs.o10; have := hs.o11; have := hs.o12; omega
    refine Kd.R_lower (base := s.W1.heap.size) ?_ (by have := hs.n1; rw [hw0] at this; omega)
    refine Kd.R_mono (Kd.R_step (Kd.R_bound hr4) (fun k hk hlt => hf3 k (by have := hk.2.1; omega))) (fun k hk => by have := hk.2.1; omega)
   obtain ⟨Ao, co, rfl⟩ := Kd.R_slice hr5
   have hcO : w3.cell? ⟨w.heap.size, 0, none⟩ = some (.slice Ao (searchP U l).1.length co) := (blk_cell h3O 0).trans rfl
   have hcV : w3.cell? ⟨w.heap.size + 1, 0, none⟩ = some (.int .i64 (searchP U l).2) := (blk_cell h3V 0).trans rfl
   have HB3 := Aside0.mk hB3
   have Hr5 := Aside0.mk hr5
   have H3D := Aside0.mk h3D
   have H1s : Aside0 (w.heap.size ≤ w1.heap.size) := Aside0.mk hB1.size
   clear hB3 hr5 h3D h3O h3V hf3 hW3 hlt2 hr1 hr2 hr3 hr4 hv2 hD2 hbw2 hl2 hS hfix hrec hlp hV hO hw0 hs hW2 hB1 hV1 hO1 hR hRR hU hL hz1 hb1 Hb0 Hbc use enter read cap few
   refine wpIn_wide.2 ?_
   go_quiet (fail)
   have hd4 : (w3.drewN nq).heap = w3.heap := by simp
   have hB4 : Below w.heap.size w (w3.drewN nq) := pw_below_drewN HB3.out _
   generalize w3.drewN nq = w4 at *
   gi_wp2
   have hD4 : w4.heap[w1.heap.size]? = some (.deferred (some [])) := by rw [hd4]; exact H3D.out
   have h1s := H1s.out
   refine ⟨by simp, .inl ⟨_, _, rfl, run_takeDeferred hD4, ?_⟩⟩
   refine ⟨.tuple #[.slice Ao (searchP U l).1.length co, .int .i64 (searchP U l).2], (by first | kernel_rfl | simp [results, go_sem]), _, rfl, ?_, ?_⟩
   ·refine Kd.R_mono (Kd.R_step Hr5.out (fun k hk hlt => (World.putObj_heap_other hk).trans (by rw [hd4]))) (fun k _ => trivial)
   ·exact ⟨hB4.os, hB4.tape, hB4.output, by simpa using hB4.size, fun k hk => (World.putObj_heap_other (by omega)).trans (hB4.block k hk)⟩
end Go.Proofs.Ytdamibblnjeooaa.H

/- What Valid tells. Plain. -/
namespace Go.Proofs.Ytdamibblnjeooaa.H
open Go.RowKit Go.Proofs.YtdamibblnjeooaaW.PrintWords Go.Proofs.YtdamibblnjeooaaW.PrintLast Go.Proofs.YtdamibblnjeooaaW.PrintMore
set_option linter.unusedVariables false
set_option linter.unusedSimpArgs false
theorem rd_at (l : List Int) (i : Nat) (x : Int) (h : l[i]? = some x) : rd l (i : Int) = x := by
 simp [rd, List.getD, h]
theorem rdT_at (l : List S82) (i : Nat) (x : S82) (h : l[i]? = some x) : rd_T82 l (i : Int) = x := by
 simp [rd_T82, List.getD, h]
theorem wrap64_in (x : Int) (h0 : 0 ≤ x) (h1 : x ≤ 9223372036854775807) : wrap64 x = x := by
 unfold wrap64
 omega
theorem valid_l1 (n : Int) (l : List S82) (i : Int) (ks : List Int) (hk : ks.length ≤ 9223372036854775807) : ∀ (d : List Int) (p : Nat) (last : Int) (k : Nat), ks.drop p = d → p ≤ ks.length →
  bids_Valid.l1 (k + 1 + d.length) n last l (l.length : Int) i ks (ks.length : Int) (p : Int) = if lotsOk n last d then bids_Valid.l0 k n l (l.length : Int) (wrap64 (i + 1)) else some 1
 | [], p, last, k, hd, hp => by
  have : p = ks.length := by have := congrArg List.length hd; simp at this; omega
  simp [bids_Valid.l1, this, lotsOk]
 | x :: d, p, last, k, hd, hp => by
  have hlen : ks.length - p = d.length + 1 := by have := congrArg List.length hd; simpa using this
  have hx : ks[p]? = some x := by
   have := congrArg (fun t => t[0]?) hd
   simpa using this
  have hd' : ks.drop (p + 1) = d := by
   have := congrArg List.tail hd
   simpa using this
  have ih := valid_l1 n l i ks hk d (p + 1) x k hd' (by omega)
  have hw : wrap64 ((p : Int) + 1) = ((p + 1 : Nat) : Int) := by rw [wrap64_in _ (by omega) (by omega)]; omega
  have e : k + 1 + (x :: d).length = (k + 1 + d.length) + 1 := by simp; omega
  rw [e]
  simp only [bids_Valid.l1, rd_at ks p x hx, hw, ih]
  rw [if_pos (by omega), if_pos (by omega), if_pos (by omega)]
  simp only [lotsOk]
  by_cases h1 : x ≤ last
  ·simp [h1]
  ·by_cases h2 : n ≤ x
   ·simp [h1, h2]
   ·simp [h1, h2]
theorem valid_l0 (n : Int) (l : List S82) (hl : l.length ≤ 10) (hb : ∀ b ∈ l, b.f2.length ≤ 9223372036854775807) : ∀ (d : List S82) (p : Nat), l.drop p = d → p ≤ l.length →
  ∃ k, bids_Valid.l0 k n l (l.length : Int) (p : Int) = some (bidsErr n d)
 | [], p, hd, hp => by
  have : p = l.length := by have := congrArg List.length hd; simp at this; omega
  exact ⟨1, by simp [bids_Valid.l0, this, bidsErr]⟩
 | x :: d, p, hd, hp => by
  have hlen : l.length - p = d.length + 1 := by have := congrArg List.length hd; simpa using this
  have hx : l[p]? = some x := by
   have := congrArg (fun t => t[0]?) hd
   simpa using this
  have hd' : l.drop (p + 1) = d := by
   have := congrArg List.tail hd
   simpa using this
  obtain ⟨k, ih⟩ := valid_l0 n l hl hb d (p + 1) hd' (by omega)
  have hw : wrap64 ((p : Int) + 1) = ((p + 1 : Nat) : Int) := by rw [wrap64_in _ (by omega) (by omega)]; omega
  have h1 := valid_l1 n l p x.f2 (hb x (List.mem_of_getElem? hx)) x.f2 0 (-1) k rfl (Nat.zero_le _)
  rw [hw, ih] at h1
  refine ⟨(k + 1 + x.f2.length) + 1 + 1 + 1, ?_⟩
  simp only [bids_Valid.l0, bids_Valid.j2, bids_Valid.j3, rdT_at l p x hx]
  rw [if_pos (by omega), if_pos (by omega), if_pos (by omega)]
  unfold bidsErr
  simp only [Int.natCast_zero] at h1
  rw [h1]
  by_cases c1 : x.f0 < 1
  ·simp [c1]
  ·by_cases c2 : 1073741824 < x.f0
   ·simp [c1, c2]
   ·by_cases c3 : x.f1 < 1
    ·simp [c1, c2, c3]
    ·by_cases c4 : 1099511627776 < x.f1
     ·simp [c1, c2, c3, c4]
     ·by_cases c5 : x.f2.length = 0
      ·simp [c1, c2, c3, c4, c5]
      ·have c6 : ¬ (x.f2.length : Int) = 0 := by omega
       cases c7 : lotsOk n (-1) x.f2 <;> simp [c1, c2, c3, c4, c5, c6, c7]
theorem bids_Valid_f (n : Int) (l : List S82) (hb : ∀ b ∈ l, b.f2.length ≤ 9223372036854775807) : ∃ k, bids_Valid.f k n l = some (validP n l) := by
 by_cases h : (l.length : Int) > 10
 ·have h' : 10 < l.length := by omega
  refine ⟨1, ?_⟩
  unfold bids_Valid.f validP
  simp only [bids_Valid.j0]
  by_cases c1 : n < 1 <;> by_cases c2 : 8 < n <;> simp [c1, c2, h, h']
 ·have h' : ¬ 10 < l.length := by omega
  obtain ⟨k, hk⟩ := valid_l0 n l (by omega) hb l 0 rfl (Nat.zero_le _)
  refine ⟨k + 1, ?_⟩
  unfold bids_Valid.f validP
  simp only [bids_Valid.j0]
  simp only [Int.natCast_zero] at hk
  rw [hk]
  by_cases c1 : n < 1 <;> by_cases c2 : 8 < n <;> simp [c1, c2, h, h']
theorem bidsErr_ok (n : Int) : ∀ l, bidsErr n l = 0 → l.all (fun b => decide (1 ≤ b.f1) && decide (b.f1 ≤ 1099511627776)) = true
 | [], _ => rfl
 | b :: l, h => by
  unfold bidsErr at h
  split at h
  ·simp at h
  ·split at h
   ·simp at h
   ·rename_i c1 c2
    split at h
    ·simp at h
    ·split at h
     ·simp at h
     ·simp only [Bool.or_eq_true, decide_eq_true_eq, not_or] at c2
      simp only [List.all_cons, bidsErr_ok n l h, Bool.and_true, Bool.and_eq_true, decide_eq_true_eq]
      omega
theorem validP_ok (n : Int) (l : List S82) (h : validP n l = 0) : okBids l = true := by
 unfold validP at h
 split at h
 ·simp at h
 ·split at h
  ·simp at h
  ·have := bidsErr_ok n l h
   simp only [okBids, this, Bool.and_true, decide_eq_true_eq]
   omega
theorem lots_short {w : World} {A : Option Addr} {l : List S82} (h : Kd.C k82 w A l.length l) : ∀ b ∈ l, b.f2.length ≤ 9223372036854775807 := by
 intro b hb
 obtain ⟨i, hi, e⟩ := List.getElem_of_mem hb
 obtain ⟨ad, A2, c2, e1, h0, h1, h2, hl2, hk2⟩ := at_T82 h (i : Int) (by omega) (by omega)
 rw [rdT_at l i b (by rw [List.getElem?_eq_getElem hi, e])] at hk2
 exact Kd.C_max hk2
end Go.Proofs.Ytdamibblnjeooaa.H

/- Best and others of package clear, by the search. -/
namespace Go.Proofs.Ytdamibblnjeooaa.H
open Go.RowKit Go.Proofs.YtdamibblnjeooaaW.PrintWords Go.Proofs.YtdamibblnjeooaaW.PrintLast Go.Proofs.YtdamibblnjeooaaW.PrintMore
set_option linter.unusedVariables false
set_option linter.unusedSimpArgs false
attribute [local go_sem] Oper.semAt_some
theorem enter_useAll : ∀ args w, (callFunc 61 args).run Try.prog w = .ok (.enter 61 args) w := fun args w => by kernel_rfl
set_option maxHeartbeats 1000000 in
set_option maxRecDepth 100000 in
theorem clear_Best.calls (a0 : Int) (A1 : Option Addr) (c1 : Nat) (l1 : List S82) (r1 : List Int) (r2 : Int) (r3 : Int) (w : World) (hr1 : Kd.C k82 w A1 l1.length l1) (hc1 : l1.length ≤ c1) (h : clear_Best.f a0 l1 = some (r1, r2, r3)) :
  Calls Try.prog 36 #[.int .i64 a0, .slice A1 l1.length c1] w fun e w' => ∃ v0_ : Value, e = .returned (.tuple #[v0_, .int .i64 r2, .int .i64 r3]) ∧ Kd.R (Kd.int .i64) 3 w' w.heap.size (fun _ => True) v0_ r1 ∧ Below w.heap.size w w' := by
 obtain ⟨k, hk⟩ := bids_Valid_f a0 l1 (lots_short hr1)
 have Hv := Aside0.mk (fun w' (hb : Below w.heap.size w w') => bids_Valid.calls k a0 A1 c1 l1 _ w' (Kd.C_below hr1 hb) hc1 hk)
 have Hr1 := Aside0.mk hr1
 have Hk := Aside0.mk hk
 clear hr1 hk
 by_cases hz : validP a0 l1 = 0
 ·have hok := validP_ok a0 l1 hz
  rw [hz] at Hv
  obtain ⟨rfl, rfl, rfl⟩ : (searchP (fun _ => true) l1).1 = r1 ∧ (searchP (fun _ => true) l1).2 = r2 ∧ 0 = r3 := by simpa [clear_Best.f, hz] using h
  clear h hz
  have hs := fun w' (hb : Below w.heap.size w w') => search_calls w' A1 c1 l1 61 #[] (fun _ => true) (Kd.C_below Hr1.out hb) hc1 hok (fun b A2 c2 W hW => useAll_calls _ _ _ W) enter_useAll
  have Hs := Aside0.mk hs
  clear hs hok
  go_enter Try.func36, Try.ntmps36
  go_wp2_with fail
  refine (Hv.out w (Below.refl _ w)).mono ?_
  rintro e w1 ⟨rfl, hb1⟩
  go_wp2_with fail
  refine (Hs.out _ ?_).mono ?_
  ·exact hb1
  rintro e w2 ⟨v, rfl, hR, hb2⟩
  go_wp2
  go_ret3
  exact ⟨_, rfl, Kd.R_lower hR hb1.size, hb1.trans (hb2.mono hb1.size)⟩
 ·obtain ⟨rfl, rfl, rfl⟩ : [] = r1 ∧ 0 = r2 ∧ validP a0 l1 = r3 := by simpa [clear_Best.f, hz] using h
  clear h Hk
  generalize validP a0 l1 = z at *
  go_enter Try.func36, Try.ntmps36
  go_wp2_with fail
  refine (Hv.out w (Below.refl _ w)).mono ?_
  rintro e w1 ⟨rfl, hb1⟩
  have hz' : (z != 0) = true := by simpa using hz
  clear hz
  go_wp2
  go_ret3
  exact ⟨_, rfl, Kd.R_nil _ _ _ _ _, hb1⟩
end Go.Proofs.Ytdamibblnjeooaa.H

/- clear.Bound: the sum of the prices, a map of surpluses, a range over it. -/
namespace Go.Proofs.Ytdamibblnjeooaa.H
open Go.RowKit Go.Proofs.YtdamibblnjeooaaW.PrintWords Go.Proofs.YtdamibblnjeooaaW.PrintLast Go.Proofs.YtdamibblnjeooaaW.PrintMore
set_option linter.unusedVariables false
set_option linter.unusedSimpArgs false
attribute [local go_sem] max2_int min2_int max_two min_two max_three min_three max_four min_four
/-- A map of ints. -/
def encI (m : List (Int × Int)) : List (Int × Value) := m.map fun p => (p.1, Value.int .i64 p.2)
theorem look_encI (k : Int) : ∀ m, (lookM (encI m) k).getD (.int .i64 0) = .int .i64 ((lookI m k).getD 0)
 | [] => rfl
 | (j, v) :: m => by
  have ih := look_encI k m
  simp only [encI, List.map_cons, lookM, lookI] at ih ⊢
  by_cases h : j = k
  ·simp [h]
  ·simpa [h] using ih
theorem upd_encI (k s : Int) : ∀ m, updM (encI m) k (.int .i64 (if (lookI m k).getD 0 < s then s else (lookI m k).getD 0)) = encI (addS m k s)
 | [] => rfl
 | (j, v) :: m => by
  have ih := upd_encI k s m
  simp only [encI, List.map_cons, updM, addS, lookI] at ih ⊢
  by_cases h : j = k
  ·simp [h]
  ·simpa [h] using ih
theorem zero_int (w : World) : (zeroValue 3).run Try.prog w = .ok (.int .i64 0) w := by kernel_rfl
theorem sum_bounds (xs : List Int) (h : ∀ x ∈ xs, 0 ≤ x ∧ x ≤ 1099511627776) : 0 ≤ xs.sum ∧ xs.sum ≤ xs.length * 1099511627776 := by
 induction xs with
 | nil => simp
 | cons x xs ih =>
  have h1 := h x (by simp)
  have h2 := ih (fun y hy => h y (by simp [hy]))
  simp only [List.sum_cons, List.length_cons]
  omega
/-- What is asked of a price. -/
def badPrice (p : Int) : Bool := decide (p < 0) || decide (1099511627776 < p)
theorem lotsOk_len (n : Int) : ∀ (ks : List Int) (last : Int), lotsOk n last ks = true → (ks = [] ∨ (ks.length : Int) ≤ n - 1 - last) ∧ ∀ k ∈ ks, last < k ∧ k < n
 | [], _, _ => ⟨.inl rfl, by simp⟩
 | k :: ks, last, h => by
  simp only [lotsOk] at h
  split at h
  ·simp at h
  ·rename_i hc
   simp only [Bool.or_eq_true, decide_eq_true_eq, not_or] at hc
   obtain ⟨h1, h2⟩ := lotsOk_len n ks k h
   refine ⟨.inr ?_, fun x hx => ?_⟩
   ·rcases h1 with rfl | h1
    ·simp; omega
    ·simp only [List.length_cons]; omega
   ·rcases List.mem_cons.1 hx with rfl | hx
    ·omega
    ·have := h2 x hx; omega
theorem bidsErr_lots (n : Int) : ∀ l, bidsErr n l = 0 → ∀ b ∈ l, lotsOk n (-1) b.f2 = true
 | [], _, b, hb => by simp at hb
 | a :: l, h, b, hb => by
  unfold bidsErr at h
  split at h
  ·simp at h
  ·split at h
   ·simp at h
   ·split at h
    ·simp at h
    ·split at h
     ·simp at h
     ·rename_i c4
      rcases List.mem_cons.1 hb with rfl | hb
      ·simpa using c4
      ·exact bidsErr_lots n l h b hb
theorem validP_bids (n : Int) (l : List S82) (h : validP n l = 0) : 1 ≤ n ∧ n ≤ 8 ∧ l.length ≤ 10 ∧ ∀ b ∈ l, (1 ≤ b.f1 ∧ b.f1 ≤ 1099511627776) ∧ b.f2.length ≤ 8 ∧ ∀ k ∈ b.f2, 0 ≤ k ∧ k < n := by
 have hok := validP_ok n l h
 unfold validP at h
 split at h
 ·simp at h
 ·rename_i c1
  simp only [Bool.or_eq_true, decide_eq_true_eq, not_or] at c1
  split at h
  ·simp at h
  ·refine ⟨by omega, by omega, by omega, fun b hb => ?_⟩
   simp only [okBids, Bool.and_eq_true, List.all_eq_true, decide_eq_true_eq] at hok
   have h2 := lotsOk_len n _ _ (bidsErr_lots n l h b hb)
   refine ⟨hok.2 b hb, ?_, fun k hk => by have := h2.2 k hk; omega⟩
   rcases h2.1 with h3 | h3
   ·simp [h3]
   ·omega
/-- A bid's surplus stays far from the bounds of an int. -/
theorem lots_sum (prices : List Int) (hp : ∀ x ∈ prices, 0 ≤ x ∧ x ≤ 1099511627776) : ∀ (ks : List Int), 0 ≤ (ks.map fun k => prices.getD k.toNat 0).sum ∧ (ks.map fun k => prices.getD k.toNat 0).sum ≤ ks.length * 1099511627776
 | [] => by simp
 | k :: ks => by
  have ih := lots_sum prices hp ks
  have h1 : 0 ≤ prices.getD k.toNat 0 ∧ prices.getD k.toNat 0 ≤ 1099511627776 := by
   rcases Nat.lt_or_ge k.toNat prices.length with h | h
   ·rw [List.getD, List.getElem?_eq_getElem h]; exact hp _ (List.getElem_mem h)
   ·rw [List.getD, List.getElem?_eq_none h]; simp
  simp only [List.map_cons, List.sum_cons, List.length_cons]
  omega
/-- Every value of the map is between 0 and the greatest price; the map is no longer than the bids. -/
theorem addS_bounds (k s : Int) (hs : s ≤ 1099511627776) : ∀ (m : List (Int × Int)), (∀ x ∈ m, 0 ≤ x.2 ∧ x.2 ≤ 1099511627776) → (addS m k s).length ≤ m.length + 1 ∧ ∀ x ∈ addS m k s, 0 ≤ x.2 ∧ x.2 ≤ 1099511627776
 | [], _ => by
  simp only [addS, List.length_singleton, List.length_nil, List.mem_singleton, forall_eq]
  refine ⟨by omega, ?_⟩
  split <;> omega
 | (j, v) :: m, h => by
  have h1 := h (j, v) (by simp)
  obtain ⟨h2, h3⟩ := addS_bounds k s hs m (fun x hx => h x (by simp [hx]))
  simp only [addS]
  split
  ·refine ⟨by simp, fun x hx => ?_⟩
   rcases List.mem_cons.1 hx with rfl | hx
   ·simp only at h1 ⊢; split <;> omega
   ·exact h x (by simp [hx])
  ·refine ⟨by simp; omega, fun x hx => ?_⟩
   rcases List.mem_cons.1 hx with rfl | hx
   ·exact h1
   ·exact h3 x hx
end Go.Proofs.Ytdamibblnjeooaa.H

/- proof.possible and proof.with. -/
namespace Go.Proofs.Ytdamibblnjeooaa.H
open Go.RowKit Go.Proofs.YtdamibblnjeooaaW.PrintWords Go.Proofs.YtdamibblnjeooaaW.PrintLast Go.Proofs.YtdamibblnjeooaaW.PrintMore
set_option linter.unusedVariables false
set_option linter.unusedSimpArgs false
/-- Is bid k in, and at odds with bid i? -/
def oddsP (l : List S82) (dec : List Int) (i k : Nat) : Bool := decide (dec.getD k 0 = 1) && conf (l.getD k z82) (l.getD i z82)
/-- Can bid i still win? -/
def possP (l : List S82) (dec : List Int) (i : Nat) : Bool := decide (dec.getD i 0 = 0) && !(List.range dec.length).any (oddsP l dec i)
theorem any_range_succ (f : Nat → Bool) (m : Nat) : (List.range (m + 1)).any f = ((List.range m).any f || f m) := by
 rw [List.range_succ, List.any_append]; simp
theorem any_range_at (f : Nat → Bool) (n m : Nat) (hm : m < n) (h : f m = true) : (List.range n).any f = true := List.any_eq_true.2 ⟨m, List.mem_range.2 hm, h⟩
set_option maxHeartbeats 2000000 in
set_option maxRecDepth 100000 in
theorem poss_calls (A0 : Option Addr) (c0 : Nat) (l : List S82) (A1 : Option Addr) (c1 : Nat) (dec : List Int) (i : Nat) (w : World) (hr0 : Kd.C k82 w A0 l.length l) (hr1 : Kd.C (Kd.int .i64) w A1 dec.length dec)
  (hl : dec.length = l.length) (hbig : l.length ≤ 1000000) (hi : i < l.length) :
  Calls Try.prog 64 #[.slice A0 l.length c0, .slice A1 dec.length c1, .int .i64 (i : Int)] w fun e w' => e = .returned (.bool (possP l dec i)) ∧ Below w.heap.size w w' := by
 obtain ⟨adD, eD, hci⟩ := Kd.at_int hr1 (i : Int) (by omega) (by omega)
 subst eD
 have hrdi : rd dec (i : Int) = dec.getD i 0 := by simp [rd]
 rw [hrdi, Int.toNat_natCast] at hci
 obtain ⟨ad, A2, c2, e, g0, g1, g2, hl2, hk2⟩ := at_T82 hr0 (i : Int) (by omega) (by omega)
 subst e
 rw [Int.toNat_natCast] at g0 g1 g2
 have hid : i < dec.length := by omega
 have hdb : dec.length ≤ 1000000 := by omega
 by_cases hd : dec.getD i 0 = 0
 ·have hres : possP l dec i = !(List.range dec.length).any (oddsP l dec i) := by unfold possP; rw [decide_eq_true hd, Bool.true_and]
  rw [hd] at hci
  have Hres := Aside0.mk hres
  have Hr0 := Aside0.mk hr0
  have Hr1 := Aside0.mk hr1
  have Hk2 := Aside0.mk hk2
  have Hl := Aside0.mk hl
  clear hres hr0 hr1 hk2 hd hrdi hl
  go_enter Try.func64, Try.ntmps64
  go_wp2
  go_loopw [16] (fun j wr => ∃ m : Nat, m ≤ dec.length ∧ j = .int .i64 m ∧ Aside0 ((List.range m).any (oddsP l dec i) = false) ∧ Aside0 (Below w.heap.size w wr)) (fun j _ => dec.length - (intOf j).toNat)
  case atStart => exact ⟨0, by omega, rfl, ⟨rfl⟩, ⟨Below.refl _ w⟩⟩
  case round =>
   clear hci
   obtain ⟨m, hm, rfl, Hno, HB⟩ := hrel
   by_cases hlt : m < dec.length
   ·obtain ⟨adE, eE, hcm⟩ := Kd.at_int (Kd.C_below Hr1.out HB.out) (m : Int) (by omega) (by omega)
    cases eE
    have hrdm : rd dec (m : Int) = dec.getD m 0 := by simp [rd]
    rw [hrdm, Int.toNat_natCast] at hcm
    clear hrdm
    by_cases hx : dec.getD m 0 = 1
    ·have hodd : oddsP l dec i m = conf (l.getD m z82) (l.getD i z82) := by unfold oddsP; rw [decide_eq_true hx, Bool.true_and]
     rw [hx] at hcm
     obtain ⟨ad', A3, c3, e, g0', g1', g2', hl3, hk3⟩ := at_T82 (Kd.C_below Hr0.out HB.out) (m : Int) (by omega) (by have := Hl.out; omega)
     cases e
     rw [Int.toNat_natCast] at g0' g1' g2'
     have h0 := (HB.out.cell (World.block_lt_of_cell? w _ g0)).trans g0
     have h1 := (HB.out.cell (World.block_lt_of_cell? w _ g1)).trans g1
     have h2 := (HB.out.cell (World.block_lt_of_cell? w _ g2)).trans g2
     have hkeep : ∀ w', Below wr.heap.size wr w' → w'.cell? (ad.add (m * 3)) = some (.int .i64 (rd_T82 l m).f0) ∧ w'.cell? ⟨(ad.add (m * 3)).block, (ad.add (m * 3)).off + 1, none⟩ = some (.int .i64 (rd_T82 l m).f1) ∧ w'.cell? ⟨(ad.add (m * 3)).block, (ad.add (m * 3)).off + 2, none⟩ = some (.slice A3 (rd_T82 l m).f2.length c3) ∧
      w'.cell? (ad.add (i * 3)) = some (.int .i64 (rd_T82 l i).f0) ∧ w'.cell? ⟨(ad.add (i * 3)).block, (ad.add (i * 3)).off + 1, none⟩ = some (.int .i64 (rd_T82 l i).f1) ∧ w'.cell? ⟨(ad.add (i * 3)).block, (ad.add (i * 3)).off + 2, none⟩ = some (.slice A2 (rd_T82 l i).f2.length c2) := fun w' hb =>
      ⟨(hb.cell (World.block_lt_of_cell? wr _ g0')).trans g0', (hb.cell (World.block_lt_of_cell? wr _ g1')).trans g1', (hb.cell (World.block_lt_of_cell? wr _ g2')).trans g2', (hb.cell (World.block_lt_of_cell? wr _ h0)).trans h0, (hb.cell (World.block_lt_of_cell? wr _ h1)).trans h1, (hb.cell (World.block_lt_of_cell? wr _ h2)).trans h2⟩
     have Hkeep := Aside0.mk hkeep
     have hcf := bids_Conflict.calls (rd_T82 l m).f0 (rd_T82 l m).f1 A3 c3 (rd_T82 l m).f2 (rd_T82 l i).f0 (rd_T82 l i).f1 A2 c2 (rd_T82 l i).f2 _ wr.drew (Kd.C_drew hk3) hl3 (Kd.C_drew (Kd.C_below Hk2.out HB.out)) hl2 rfl
     obtain ⟨r, hr⟩ : ∃ r, conf (l.getD m z82) (l.getD i z82) = r := ⟨_, rfl⟩
     have hr' : conf ⟨(rd_T82 l m).f0, (rd_T82 l m).f1, (rd_T82 l m).f2⟩ ⟨(rd_T82 l i).f0, (rd_T82 l i).f1, (rd_T82 l i).f2⟩ = r := hr
     rw [hr'] at hcf
     rw [hr] at hodd
     have Hcf := Aside0.mk hcf
     have Hodd := Aside0.mk hodd
     have hml : m < l.length := by have := Hl.out; omega
     clear hkeep hcf hr hr' hodd hk3 hl3 g0 g1 g2
     go_upto_region 6 with (fail)
     go_region_held3 (fun w' => w'.cell? (ad.add (m * 3)) = some (.int .i64 (rd_T82 l m).f0) ∧ w'.cell? ⟨(ad.add (m * 3)).block, (ad.add (m * 3)).off + 1, none⟩ = some (.int .i64 (rd_T82 l m).f1) ∧ w'.cell? ⟨(ad.add (m * 3)).block, (ad.add (m * 3)).off + 2, none⟩ = some (.slice A3 (rd_T82 l m).f2.length c3) ∧
      w'.cell? (ad.add (i * 3)) = some (.int .i64 (rd_T82 l i).f0) ∧ w'.cell? ⟨(ad.add (i * 3)).block, (ad.add (i * 3)).off + 1, none⟩ = some (.int .i64 (rd_T82 l i).f1) ∧ w'.cell? ⟨(ad.add (i * 3)).block, (ad.add (i * 3)).off + 2, none⟩ = some (.slice A2 (rd_T82 l i).f2.length c2))
      (first | go_keep | exact Hkeep.out w1 ⟨hb1.os, hb1.tape, hb1.output, hb1.size, hb1.block⟩)
      ((refine Hcf.out.mono ?_; rintro e w1 ⟨rfl, hb1⟩))
     have hW1 : Below wr.heap.size wr w1 := ⟨hb1.os, hb1.tape, hb1.output, hb1.size, hb1.block⟩
     have HB1 := Aside0.mk (HB.out.trans (hW1.mono HB.out.size))
     clear hW1 hb1 HB Hkeep Hcf h0 h1 h2 g0' g1' g2' hcm
     cases r
     ·have Hno1 := Aside0.mk (show (List.range (m + 1)).any (oddsP l dec i) = false by rw [any_range_succ, Hno.out, Hodd.out]; rfl)
      go_wp2
      go_roundw
      case rel => exact ⟨m + 1, by omega, by go_num, Hno1, HB1⟩
      case measure => simp [intOf]; omega
     ·have Hy := Aside0.mk (show (!(List.range dec.length).any (oddsP l dec i)) = false by rw [any_range_at _ _ _ hlt Hodd.out]; rfl)
      go_wp2
      go_ret
      exact ⟨by rw [Hres.out, Hy.out]; rfl, HB1.out⟩
    ·have hodd : oddsP l dec i m = false := by unfold oddsP; rw [decide_eq_false hx, Bool.false_and]
     have Hno1 := Aside0.mk (show (List.range (m + 1)).any (oddsP l dec i) = false by rw [any_range_succ, Hno.out, hodd]; rfl)
     generalize dec.getD m 0 = x at *
     have hx' : (x == 1) = false := by simpa using hx
     clear hx hodd g0 g1 g2
     go_upto_region 6 with (fail)
     go_quiet (fail)
     have HB7 := Aside0.mk (HB.out.trans ((pw_below_drewN (Below.refl wr.heap.size wr) nq).mono HB.out.size))
     clear HB hcm
     generalize wr.drewN nq = w7 at *
     go_wp2
     go_roundw
     case rel => exact ⟨m + 1, by omega, by go_num, Hno1, HB7⟩
     case measure => simp [intOf]; omega
   ·obtain rfl : m = dec.length := by omega
    have Hy := Aside0.mk (show (!(List.range dec.length).any (oddsP l dec i)) = true by rw [Hno.out]; rfl)
    clear g0 g1 g2
    go_wp2
    go_ret
    exact ⟨by rw [Hres.out, Hy.out]; rfl, HB.out⟩
 ·have hres : possP l dec i = false := by unfold possP; rw [decide_eq_false hd, Bool.false_and]
  rw [hres]
  generalize dec.getD i 0 = x at *
  have hd' : (x != 0) = true := by simpa using hd
  clear hd hres hrdi g0 g1 g2 hk2
  go_enter Try.func64, Try.ntmps64
  go_wp2
  go_ret
  exact ⟨rfl, Below.refl _ w⟩
theorem infoW : (Try.prog.info? 3).map (fun i => (i.zero, i.size, i.bytes)) = some (some (.int .i64 0), 1, 8) := by kernel_rfl
theorem sizeW : (Try.prog.info? 3).map (·.size) = some 1 := by kernel_rfl
theorem made_zerosW (n : Nat) : madeCells #[.int .i64 0] n = (List.replicate n (Value.int .i64 0)).toArray := by
 apply Array.ext
 ·simp [size_madeCells]
 ·intro i h1 h2
  simp [madeCells, Nat.mod_one]
/-- A row of ints that lies whole in a block. -/
theorem C_blk {w : World} {b : Nat} {t : TypeId} {xs : List Int} (h : w.heap[b]? = some (.cells (xs.map (Value.int .i64)).toArray t (0, 0))) (hl : xs.length ≤ 1000000) : Kd.C (Kd.int .i64) w (some ⟨b, 0, none⟩) xs.length xs :=
 Kd.C_of_reads (d := (0 : Int)) (h1 := fun _ => rfl) ⟨rfl, by omega, fun _ => ⟨_, rfl, fun j hj => by
  rw [show (⟨b, 0, none⟩ : Addr).add j = ⟨b, j, none⟩ by unfold Addr.add; split <;> simp_all]
  refine (blk_cell h j).trans ?_
  simp [hj]⟩⟩
set_option maxHeartbeats 2000000 in
set_option maxRecDepth 100000 in
theorem with_calls (A1 : Option Addr) (c1 : Nat) (dec : List Int) (i : Nat) (d : Int) (w : World) (hr1 : Kd.C (Kd.int .i64) w A1 dec.length dec) (hi : i < dec.length) (hb : dec.length ≤ 1000000) :
  Calls Try.prog 65 #[.slice A1 dec.length c1, .int .i64 (i : Int), .int .i64 d] w fun e w' => e = .returned (.slice (some ⟨w.heap.size, 0, none⟩) dec.length dec.length) ∧
   w'.heap[w.heap.size]? = some (.cells ((dec.set i d).map (Value.int .i64)).toArray 3 (0, 0)) ∧ Below w.heap.size w w' := by
 obtain ⟨ad, e, _⟩ := Kd.at_int hr1 (i : Int) (by omega) (by omega)
 subst e
 have hsrc : ∀ j v, (dec.map (Value.int .i64))[j]? = some v → w.cell? (ad.add j) = some v := by
  intro j v hv
  rw [List.getElem?_map] at hv
  obtain ⟨x, hx, rfl⟩ := Option.map_eq_some_iff.1 hv
  obtain ⟨hj, hx2⟩ := List.getElem?_eq_some_iff.1 hx
  obtain ⟨ad', e, hc⟩ := Kd.at_int hr1 (j : Int) (by omega) (by omega)
  cases e
  rw [Int.toNat_natCast] at hc
  rw [hc]
  simp [rd, List.getD, hx]
 have hmk := print_make (P := Try.prog) 22 3 .i64 8 Try.underlying22 infoW (by decide) dec.length (by omega)
 rw [made_zerosW] at hmk
 obtain ⟨W1, hW1⟩ : ∃ W1, W1 = w.alloc (.cells (List.replicate dec.length (Value.int .i64 0)).toArray 3) := ⟨_, rfl⟩
 have hg : W1.heap[w.heap.size]? = some (.cells (List.replicate dec.length (Value.int .i64 0)).toArray 3 (0, 0)) := by rw [hW1]; exact heap_alloc_new w _
 have hB1 : Below w.heap.size w W1 := by rw [hW1]; exact (Below.refl _ w).alloc (Nat.le_refl _) _
 have hmk1 := hmk w
 rw [← hW1] at hmk1
 have hsrc1 : ∀ j v, (dec.map (Value.int .i64))[j]? = some v → W1.cell? (ad.add j) = some v := fun j v hv => (hB1.cell (World.block_lt_of_cell? w _ (hsrc j v hv))).trans (hsrc j v hv)
 have hcopy : ∀ ty, (Builtin.copy_ #[22, 22] ty #[.slice (some ⟨w.heap.size, 0, none⟩) dec.length dec.length, .slice (some ad) dec.length c1]).run Try.prog W1 = .ok (goInt (dec.map (Value.int .i64)).length) _ := fun ty =>
  run_copy_row (P := Try.prog) W1 22 22 ty 3 w.heap.size 0 dec.length dec.length ad dec.length c1 _ 3 (dec.map (Value.int .i64)) Try.underlying22 sizeW hg (by simp) hsrc1 (by simp) (by simp [Value.oneCell'])
 obtain ⟨W2, hW2⟩ : ∃ W2, W2 = W1.setRow w.heap.size ((List.replicate dec.length (Value.int .i64 0)).toArray.toList.take 0 ++ dec.map (Value.int .i64) ++ (List.replicate dec.length (Value.int .i64 0)).toArray.toList.drop (0 + (dec.map (Value.int .i64)).length)).toArray := ⟨_, rfl⟩
 rw [← hW2] at hcopy
 have hg2 : W2.heap[w.heap.size]? = some (.cells (dec.map (Value.int .i64)).toArray 3 (0, 0)) := by
  rw [hW2]
  have h := setRow_heap W1 w.heap.size _ ((List.replicate dec.length (Value.int .i64 0)).toArray.toList.take 0 ++ dec.map (Value.int .i64) ++ (List.replicate dec.length (Value.int .i64 0)).toArray.toList.drop (0 + (dec.map (Value.int .i64)).length)).toArray 3 _ hg
  simpa using h
 have hB2 : Below w.heap.size w W2 := by rw [hW2]; exact below_setRow hB1 (Nat.le_refl _) _
 have hci : W2.cell? ⟨w.heap.size, i, none⟩ = some (.int .i64 dec[i]) := (blk_cell hg2 i).trans (by simp [hi])
 have hfi : W2.frozen? ⟨w.heap.size, i, none⟩ = false := blk_frozen hg2 i
 have hlen : (dec.map (Value.int .i64)).length = dec.length := List.length_map ..
 rw [hlen] at hcopy
 have hres : (W2.setCell ⟨w.heap.size, i, none⟩ (.int .i64 d)).heap[w.heap.size]? = some (.cells ((dec.set i d).map (Value.int .i64)).toArray 3 (0, 0)) := by
  refine (blk_set hg2 i _).trans ?_
  simp [List.map_set]
 have hB3 : Below w.heap.size w (W2.setCell ⟨w.heap.size, i, none⟩ (.int .i64 d)) := hB2.setCell (p := ⟨w.heap.size, i, none⟩) (Nat.le_refl _) _
 have Hres := Aside0.mk hres
 have HB3 := Aside0.mk hB3
 clear hres hB3 hB2 hg2 hW2 hlen hB1 hg hsrc1 hsrc hmk hW1 hr1
 go_enter Try.func65, Try.ntmps65
 go_wp2
 go_ret
 exact ⟨rfl, Hres.out, HB3.out⟩
end Go.Proofs.Ytdamibblnjeooaa.H

/- proof.bound: what it computes, and the walk. -/
namespace Go.Proofs.Ytdamibblnjeooaa.H
open Go.RowKit Go.Proofs.YtdamibblnjeooaaW.PrintWords Go.Proofs.YtdamibblnjeooaaW.PrintLast Go.Proofs.YtdamibblnjeooaaW.PrintMore
set_option linter.unusedVariables false
set_option linter.unusedSimpArgs false
attribute [local go_sem] max2_int min2_int max_two min_two max_three min_three max_four min_four
/-! ### The plain function -/
def addK (ks : List Int) (k : Int) : List Int := if k ∈ ks then ks else ks ++ [k]
/-- A set of keys. -/
def encB (ks : List Int) : List (Int × Value) := ks.map fun k => (k, Value.bool true)
theorem look_encB (k : Int) : ∀ ks, (lookM (encB ks) k).getD (.bool false) = .bool (decide (k ∈ ks))
 | [] => by simp [encB, lookM]
 | j :: ks => by
  have ih := look_encB k ks
  simp only [encB, List.map_cons, lookM] at ih ⊢
  by_cases h : j = k
  ·simp [h]
  ·rw [if_neg h, ih]
   have : decide (k ∈ j :: ks) = decide (k ∈ ks) := by
    have h' : ¬ k = j := fun e => h e.symm
    simp [h']
   rw [this]
theorem look_encB_none (k : Int) : ∀ ks, ¬ k ∈ ks → lookM (encB ks) k = none
 | [], _ => rfl
 | j :: ks, h => by
  have h1 : ¬ j = k := fun e => h (by simp [e])
  simp only [encB, List.map_cons, lookM, if_neg h1]
  exact look_encB_none k ks (fun e => h (by simp [e]))
theorem upd_encB_in (k : Int) : ∀ ks, k ∈ ks → updM (encB ks) k (.bool true) = encB ks
 | [], h => by cases h
 | j :: ks, h => by
  simp only [encB, List.map_cons, updM]
  by_cases h1 : j = k
  ·simp [h1]
  ·rw [if_neg h1]
   have h2 : k ∈ ks := by
    rcases List.mem_cons.1 h with e | e
    ·exact absurd e.symm h1
    ·exact e
   have := upd_encB_in k ks h2
   simp only [encB] at this
   rw [this]
theorem upd_encB (k : Int) (ks : List Int) : updM (encB ks) k (.bool true) = encB (addK ks k) := by
 unfold addK
 by_cases h : k ∈ ks
 ·rw [if_pos h, upd_encB_in k ks h]
 ·rw [if_neg h, updM_miss k _ _ (look_encB_none k ks h)]
  simp [encB]
theorem zero_boolB (w : World) : (zeroValue 4).run Try.prog w = .ok (.bool false) w := by kernel_rfl
/-- The prices of the bids that are in. -/
def inS (l : List S82) (dec : List Int) (m : Nat) : Int := ((List.range m).map fun i => if dec.getD i 0 = 1 then (l.getD i z82).f1 else 0).sum
/-- Their lots. -/
def tkS (l : List S82) (dec : List Int) (m : Nat) : List Int := (List.range m).foldl (fun ks i => if dec.getD i 0 = 1 then (l.getD i z82).f2.foldl addK ks else ks) []
/-- The prices of the other lots. -/
def frS (ks prices : List Int) (m : Nat) : Int := ((List.range m).map fun (k : Nat) => if (k : Int) ∈ ks then 0 else prices.getD k 0).sum
/-- The greatest surpluses of the bids that can still win. -/
def spS (l : List S82) (dec prices : List Int) (m : Nat) : List (Int × Int) := (List.range m).foldl (fun s i => if possP l dec i then addS s (l.getD i z82).f0 (surp prices (l.getD i z82)) else s) []
def boundD (l : List S82) (dec prices : List Int) : Int := inS l dec dec.length + frS (tkS l dec dec.length) prices prices.length + ((spS l dec prices l.length).map (·.2)).sum
theorem inS_succ (l : List S82) (dec : List Int) (m : Nat) : inS l dec (m + 1) = inS l dec m + if dec.getD m 0 = 1 then (l.getD m z82).f1 else 0 := by
 unfold inS; rw [List.range_succ, List.map_append, List.sum_append]; simp
theorem frS_succ (ks prices : List Int) (m : Nat) : frS ks prices (m + 1) = frS ks prices m + if (m : Int) ∈ ks then 0 else prices.getD m 0 := by
 unfold frS; rw [List.range_succ, List.map_append, List.sum_append]; simp
theorem tkS_succ (l : List S82) (dec : List Int) (m : Nat) : tkS l dec (m + 1) = if dec.getD m 0 = 1 then (l.getD m z82).f2.foldl addK (tkS l dec m) else tkS l dec m := by
 unfold tkS; rw [List.range_succ, List.foldl_append]; rfl
theorem spS_succ (l : List S82) (dec prices : List Int) (m : Nat) : spS l dec prices (m + 1) = if possP l dec m then addS (spS l dec prices m) (l.getD m z82).f0 (surp prices (l.getD m z82)) else spS l dec prices m := by
 unfold spS; rw [List.range_succ, List.foldl_append]; rfl
theorem inS_bounds (l : List S82) (dec : List Int) (hb : ∀ b ∈ l, 1 ≤ b.f1 ∧ b.f1 ≤ 1099511627776) : ∀ m, 0 ≤ inS l dec m ∧ inS l dec m ≤ m * 1099511627776
 | 0 => by simp [inS]
 | m + 1 => by
  have ih := inS_bounds l dec hb m
  have h1 : 0 ≤ (l.getD m z82).f1 ∧ (l.getD m z82).f1 ≤ 1099511627776 := by
   by_cases h : m < l.length
   ·have := hb (l.getD m z82) (by simp [List.getD, h]); omega
   ·simp [List.getD, List.getElem?_eq_none (Nat.le_of_not_lt h), z82]
  rw [inS_succ]
  by_cases h : dec.getD m 0 = 1
  ·rw [if_pos h]; omega
  ·rw [if_neg h]; omega
theorem frS_bounds (ks prices : List Int) (hp : ∀ x ∈ prices, 0 ≤ x ∧ x ≤ 1099511627776) : ∀ m, 0 ≤ frS ks prices m ∧ frS ks prices m ≤ m * 1099511627776
 | 0 => by simp [frS]
 | m + 1 => by
  have ih := frS_bounds ks prices hp m
  have h1 : 0 ≤ prices.getD m 0 ∧ prices.getD m 0 ≤ 1099511627776 := by
   by_cases h : m < prices.length
   ·exact hp (prices.getD m 0) (by simp [List.getD, h])
   ·simp [List.getD, List.getElem?_eq_none (Nat.le_of_not_lt h)]
  rw [frS_succ]
  by_cases h : (m : Int) ∈ ks
  ·rw [if_pos h]; omega
  ·rw [if_neg h]; omega
theorem spS_bounds (l : List S82) (dec prices : List Int) (hb : ∀ b ∈ l, b.f1 ≤ 1099511627776) (hp : ∀ x ∈ prices, 0 ≤ x ∧ x ≤ 1099511627776) : ∀ m, m ≤ l.length → (spS l dec prices m).length ≤ m ∧ ∀ x ∈ spS l dec prices m, 0 ≤ x.2 ∧ x.2 ≤ 1099511627776
 | 0, _ => by simp [spS]
 | m + 1, hm => by
  have ih := spS_bounds l dec prices hb hp m (by omega)
  rw [spS_succ]
  by_cases h : possP l dec m = true
  ·rw [if_pos h]
   have h1 := hb (l.getD m z82) (by simp [List.getD, show m < l.length by omega])
   have h2 := lots_sum prices hp (l.getD m z82).f2
   have h3 := addS_bounds (l.getD m z82).f0 (surp prices (l.getD m z82)) (by unfold surp; omega) (spS l dec prices m) ih.2
   exact ⟨by omega, h3.2⟩
  ·rw [if_neg h]; exact ⟨by omega, ih.2⟩
end Go.Proofs.Ytdamibblnjeooaa.H

/- proof.bound: the walk. -/
namespace Go.Proofs.Ytdamibblnjeooaa.H
open Go.RowKit Go.Proofs.YtdamibblnjeooaaW.PrintWords Go.Proofs.YtdamibblnjeooaaW.PrintLast Go.Proofs.YtdamibblnjeooaaW.PrintMore
set_option linter.unusedVariables false
set_option linter.unusedSimpArgs false
attribute [local go_sem] max2_int min2_int max_two min_two max_three min_three max_four min_four
set_option maxHeartbeats 8000000 in
set_option maxRecDepth 100000 in
theorem bound9_calls (A0 : Option Addr) (c0 : Nat) (l : List S82) (A1 : Option Addr) (c1 : Nat) (dec : List Int) (A2 : Option Addr) (c2 : Nat) (prices : List Int) (w : World)
  (hr0 : Kd.C k82 w A0 l.length l) (hr1 : Kd.C (Kd.int .i64) w A1 dec.length dec) (hr2 : Kd.C (Kd.int .i64) w A2 prices.length prices)
  (hl10 : l.length ≤ 10) (hdl : dec.length = l.length) (hpl : prices.length ≤ 8) (hbb : ∀ b ∈ l, (1 ≤ b.f1 ∧ b.f1 ≤ 1099511627776) ∧ b.f2.length ≤ 8 ∧ ∀ k ∈ b.f2, 0 ≤ k ∧ k < (prices.length : Int)) (hpr : ∀ x ∈ prices, 0 ≤ x ∧ x ≤ 1099511627776) :
  Calls Try.prog 72 #[.slice A0 l.length c0, .slice A1 dec.length c1, .slice A2 prices.length c2] w fun e w' => e = .returned (.int .i64 (boundD l dec prices)) ∧ Below w.heap.size w w' := by
 have hd10 : dec.length ≤ 10 := by omega
 have Hdl := Aside0.mk hdl
 have Hr0 := Aside0.mk hr0
 have Hr1 := Aside0.mk hr1
 have Hr2 := Aside0.mk hr2
 have Hbb := Aside0.mk hbb
 have Hpr := Aside0.mk hpr
 have Hib := Aside0.mk (inS_bounds l dec (fun b hb => (hbb b hb).1))
 have hmm := @run_makeMap Try.prog
 clear hdl hr0 hr1 hr2 hbb hpr
 go_enter Try.func72, Try.ntmps72
 go_wp2
 have hB0 : Below w.heap.size w (w.alloc (.map #[] 0)) := (Below.refl _ w).alloc (Nat.le_refl _) _
 have hmap0 : IMap (w.alloc (.map #[] 0)) w.heap.size (encB (tkS l dec 0)) := ⟨#[], 0, heap_alloc_new w _, rfl, MapKept.stamped_empty 0⟩
 have HB0 := Aside0.mk hB0
 have Hmap0 := Aside0.mk hmap0
 clear hB0 hmap0
 generalize w.alloc (.map #[] 0) = wa at *
 go_loopw [7, 26] (fun s i wq => ∃ m : Nat, m ≤ dec.length ∧ s = .int .i64 (inS l dec m) ∧ i = .int .i64 m ∧ Aside0 (IMap wq w.heap.size (encB (tkS l dec m))) ∧ Aside0 (Below w.heap.size w wq)) (fun _ i _ => dec.length - (intOf i).toNat)
 case atStart => exact ⟨0, by omega, rfl, rfl, Hmap0, HB0⟩
 case round =>
  clear Hmap0 HB0
  obtain ⟨m, hm, rfl, rfl, HM, HB⟩ := hrel
  by_cases hlt : m < dec.length
  ·obtain ⟨adE, eE, hcm⟩ := Kd.at_int (Kd.C_below Hr1.out HB.out) (m : Int) (by omega) (by omega)
   cases eE
   have hrdm : rd dec (m : Int) = dec.getD m 0 := by simp [rd]
   rw [hrdm, Int.toNat_natCast] at hcm
   clear hrdm
   by_cases hx : dec.getD m 0 = 1
   ·obtain ⟨ad, A3, c3, e, g0, g1, g2, gl2, gk2⟩ := at_T82 Hr0.out (m : Int) (by omega) (by have := Hdl.out; omega)
    subst e
    replace g1 := (HB.out.cell (World.block_lt_of_cell? w _ g1)).trans g1
    replace g2 := (HB.out.cell (World.block_lt_of_cell? w _ g2)).trans g2
    have hml : m < l.length := by have := Hdl.out; omega
    have hgd : rd_T82 l (m : Int) = l.getD m z82 := by simp [rd_T82]
    rw [hgd] at g0 g1 g2 gl2 gk2
    rw [Int.toNat_natCast] at g0 g1 g2
    have hin : inS l dec (m + 1) = inS l dec m + (l.getD m z82).f1 := by rw [inS_succ, if_pos hx]
    have htk : tkS l dec (m + 1) = (l.getD m z82).f2.foldl addK (tkS l dec m) := by rw [tkS_succ, if_pos hx]
    have hb8 := (Hbb.out (l.getD m z82) (by simp [List.getD, hml])).2.1
    have hib := Hib.out (m + 1)
    rw [hx] at hcm
    have hw : IntKind.i64.wrap (inS l dec m + (l.getD m z82).f1) = inS l dec (m + 1) := by rw [← hin]; exact IntWalk.i64_in _ (by omega)
    generalize l.getD m z82 = bd at *
    have Htk := Aside0.mk htk
    have Hgk := Aside0.mk gk2
    clear hin htk hib gk2 hgd gl2 g0 hx
    go_wp2
    go_loopw [46] (fun i wq => ∃ q : Nat, q ≤ bd.f2.length ∧ i = .int .i64 q ∧ Aside0 (IMap wq w.heap.size (encB ((bd.f2.take q).foldl addK (tkS l dec m)))) ∧ Aside0 (Below w.heap.size w wq)) (fun i _ => bd.f2.length - (intOf i).toNat)
    case atStart => exact ⟨0, by omega, rfl, HM, HB⟩
    case round =>
     clear HM HB hcm g1 g2
     obtain ⟨q, hq, rfl, HM, HB⟩ := hrel
     by_cases hltq : q < bd.f2.length
     ·obtain ⟨ad3, e3, hcell3⟩ := Kd.at_int (Kd.C_below Hgk.out HB.out) q (by omega) (by omega)
      subst e3
      rw [Int.toNat_natCast] at hcell3
      have hts : bd.f2.take (q + 1) = bd.f2.take q ++ [rd bd.f2 q] := by rw [List.take_succ_eq_append_getElem hltq]; simp [rd, List.getD, hltq]
      have hfold : (bd.f2.take (q + 1)).foldl addK (tkS l dec m) = addK ((bd.f2.take q).foldl addK (tkS l dec m)) (rd bd.f2 q) := by rw [hts, List.foldl_append]; rfl
      obtain ⟨w7, hrun, him', hot⟩ := run_upd (P := Try.prog) wr w.heap.size _ (rd bd.f2 q) (.bool true) Try.underlying138 Try.underlying3 HM.out
      rw [upd_encB, ← hfold] at him'
      have HB7 := Aside0.mk (HB.out.trans (hot.below (Nat.le_refl _)))
      have Him := Aside0.mk him'
      clear him' hot hts hfold
      generalize rd bd.f2 q = kq at *
      go_wp2
      go_roundw
      case rel => exact ⟨q + 1, by omega, by go_num, Him, HB7⟩
      case measure => simp [intOf]; omega
     ·obtain rfl : q = bd.f2.length := by omega
      have hM1 := HM.out
      rw [List.take_length, ← Htk.out] at hM1
      have HM1 := Aside0.mk hM1
      clear hM1 hltq hq
      go_wp2
      go_roundw
      case rel => exact ⟨m + 1, by omega, by first | rfl | rw [hw], by go_num, HM1, HB⟩
      case measure => simp [intOf]; omega
   ·have hin : inS l dec (m + 1) = inS l dec m := by rw [inS_succ, if_neg hx, Int.add_zero]
    have htk : tkS l dec (m + 1) = tkS l dec m := by rw [tkS_succ, if_neg hx]
    generalize dec.getD m 0 = x at *
    have hx' : (x == 1) = false := by simpa using hx
    have HM1 := Aside0.mk (show IMap wr w.heap.size (encB (tkS l dec (m + 1))) by rw [htk]; exact HM.out)
    clear hx htk
    go_wp2
    go_roundw
    case rel => exact ⟨m + 1, by omega, by rw [hin], by go_num, HM1, HB⟩
    case measure => simp [intOf]; omega
  ·obtain rfl : m = dec.length := by omega
   clear hlt hm
   obtain ⟨w1, rfl⟩ : ∃ w1, w1 = wr := ⟨_, rfl⟩
   obtain ⟨ks, hks⟩ : ∃ ks, ks = tkS l dec dec.length := ⟨_, rfl⟩
   obtain ⟨s1, hs1⟩ : ∃ s1, s1 = inS l dec dec.length := ⟨_, rfl⟩
   have hM1 := HM.out
   have hib := Hib.out dec.length
   rw [← hks] at hM1
   rw [← hs1] at hib ⊢
   have hres : boundD l dec prices = s1 + frS ks prices prices.length + ((spS l dec prices l.length).map (·.2)).sum := by rw [hs1, hks]; rfl
   have Hfb := Aside0.mk (frS_bounds ks prices Hpr.out)
   have Hres := Aside0.mk hres
   have HM1 := Aside0.mk hM1
   have hs10 : 0 ≤ s1 ∧ s1 ≤ 10 * 1099511627776 := by omega
   clear hM1 hres hks hs1 HM Hib hib
   go_wp2
   go_loopw [7, 56] (fun s i wq => ∃ m : Nat, m ≤ prices.length ∧ s = .int .i64 (s1 + frS ks prices m) ∧ i = .int .i64 m ∧ wq = w1) (fun _ i _ => prices.length - (intOf i).toNat)
   case atStart => exact ⟨0, by omega, by rw [show frS ks prices 0 = 0 from rfl, Int.add_zero], rfl, rfl⟩
   case round =>
    obtain ⟨m, hm, rfl, rfl, rfl⟩ := hrel
    by_cases hlt : m < prices.length
    ·obtain ⟨adE, eE, hcm⟩ := Kd.at_int (Kd.C_below Hr2.out HB.out) (m : Int) (by omega) (by omega)
     cases eE
     have hrdm : rd prices (m : Int) = prices.getD m 0 := by simp [rd]
     rw [hrdm, Int.toNat_natCast] at hcm
     have hlk := run_look (P := Try.prog) wr w.heap.size _ (m : Int) Try.underlying138 Try.underlying3 HM1.out (.bool false) zero_boolB
     rw [look_encB] at hlk
     have hfb := Hfb.out (m + 1)
     have hfs := frS_succ ks prices m
     by_cases hk : (m : Int) ∈ ks
     ·rw [decide_eq_true hk] at hlk
      rw [if_pos hk, Int.add_zero] at hfs
      clear hrdm hfb hk
      go_wp2
      go_roundw
      case rel => exact ⟨m + 1, by omega, by rw [hfs], by go_num, by first | trivial | rfl⟩
      case measure => simp [intOf]; omega
     ·rw [decide_eq_false hk] at hlk
      rw [if_neg hk] at hfs
      have hw : IntKind.i64.wrap (s1 + frS ks prices m + prices.getD m 0) = s1 + frS ks prices (m + 1) := by rw [hfs, ← Int.add_assoc]; exact IntWalk.i64_in _ (by omega)
      clear hrdm hfb hk hfs
      generalize prices.getD m 0 = pm at *
      go_wp2
      go_roundw
      case rel => exact ⟨m + 1, by omega, by first | rfl | rw [hw], by go_num, by first | trivial | rfl⟩
      case measure => simp [intOf]; omega
    ·obtain rfl : m = prices.length := by omega
     clear hlt hm
     have hfb := Hfb.out prices.length
     obtain ⟨s2, hs2⟩ : ∃ s2, s2 = s1 + frS ks prices prices.length := ⟨_, rfl⟩
     have hs20 : 0 ≤ s2 ∧ s2 ≤ 18 * 1099511627776 := by omega
     have hres2 := Hres.out
     rw [← hs2] at hres2 ⊢
     have Hres2 := Aside0.mk hres2
     clear hs2 hfb hres2 Hres Hfb hs10 HM1
     go_wp2
     have hB0 : Below w.heap.size w (wr.alloc (.map #[] 0)) := HB.out.alloc HB.out.size _
     have hmap0 : IMap (wr.alloc (.map #[] 0)) wr.heap.size (encI (spS l dec prices 0)) := ⟨#[], 0, heap_alloc_new wr _, rfl, MapKept.stamped_empty 0⟩
     have hbw : w.heap.size ≤ wr.heap.size := HB.out.size
     have HB0 := Aside0.mk hB0
     have Hmap0 := Aside0.mk hmap0
     clear hB0 hmap0 HB
     revert hbw
     generalize wr.alloc (.map #[] 0) = wa at *
     generalize wr.heap.size = b at *
     intro hbw
     clear hmm
     go_loopw [72] (fun i wq => ∃ m : Nat, m ≤ l.length ∧ i = .int .i64 m ∧ Aside0 (IMap wq b (encI (spS l dec prices m))) ∧ Aside0 (Below w.heap.size w wq)) (fun i _ => l.length - (intOf i).toNat)
     case atStart => exact ⟨0, by omega, rfl, Hmap0, HB0⟩
     case round =>
      clear Hmap0 HB0
      obtain ⟨m, hm, rfl, hM, hB⟩ := hrel
      by_cases hlt : m < l.length
      ·obtain ⟨ad, A3, c3, e, g0, g1, g2, gl2, gk2⟩ := at_T82 Hr0.out (m : Int) (by omega) (by omega)
       replace g0 := (hB.out.cell (World.block_lt_of_cell? w _ g0)).trans g0
       replace g1 := (hB.out.cell (World.block_lt_of_cell? w _ g1)).trans g1
       replace g2 := (hB.out.cell (World.block_lt_of_cell? w _ g2)).trans g2
       have hgd : rd_T82 l (m : Int) = l.getD m z82 := by simp [rd_T82]
       rw [hgd] at g0 g1 g2 gl2 gk2
       rw [Int.toNat_natCast] at g0 g1 g2
       have hbd := Hbb.out (l.getD m z82) (by simp [List.getD, hlt])
       have hsur := spS_succ l dec prices m
       have hps := fun W hW => poss_calls A0 c0 l A1 c1 dec m W (Kd.C_below Hr0.out hW) (Kd.C_below Hr1.out hW) Hdl.out (by omega) hlt
       generalize l.getD m z82 = bd at *
       subst e
       obtain ⟨⟨hp1, hp2⟩, hq8, hks⟩ := hbd
       have Hks := Aside0.mk hks
       have Hsur := Aside0.mk hsur
       have Hgk2 := Aside0.mk gk2
       have Hps := Aside0.mk hps
       clear hks hsur gk2 gl2 hgd hps
       go_upto_region 24 with (first | ((with_reducible refine gate_dst (N := 17) rfl ?_); refine box_event ?hg (N := 17) ?hd (cs := #[.int .i64 0, .int .i64 0, .slice none 0 0]) (t := 82) ?hr ?_; (case hd => rfl); (case hg => rfl); (case hr => first | (go_simp; done) | (go_simp; rfl)); intro gb hg w5 hbox hb5; (have hM5 := hM.out.keeps (hb5.block _ hM.out.lt)); (have hB5 := hB.out.trans (hb5.mono hB.out.size)); (have hgb : w.heap.size ≤ gb := by rw [hg]; exact hB.out.size); (have hgbb : b ≠ gb := by have := hM.out.lt; omega); have HM5 := Aside0.mk hM5; have HB5 := Aside0.mk hB5; have Hbox := Aside0.mk hbox; have Hg := Aside0.mk hgb; have Hgb := Aside0.mk hgbb; clear hM5 hB5 hb5 hg hgb hgbb; (have hcz0 := (blk_cell hbox 0).trans rfl); (have hcz1 := (blk_cell hbox 1).trans rfl); (have hcz2 := (blk_cell hbox 2).trans rfl); have hfz0 := blk_frozen hbox 0; have hfz1 := blk_frozen hbox 1; have hfz2 := blk_frozen hbox 2; clear hbox))
       (try simp only [Act.put, List.setIfInBounds_toArray, List.set_cons_zero, List.set_cons_succ])
       generalize hw6 : World.setCell _ _ _ = w6
       have hbk : w6.heap[gb]? = some (.cells #[.int .i64 bd.f0, .int .i64 bd.f1, .slice A3 bd.f2.length c3] 82 (0, 0)) := by
        rw [← hw6]
        refine blk_put (cs := #[.int .i64 bd.f0, .int .i64 bd.f1, .slice none 0 0]) ?_ 2 _ rfl
        refine blk_put (cs := #[.int .i64 bd.f0, .int .i64 0, .slice none 0 0]) ?_ 1 _ rfl
        refine blk_put (cs := #[.int .i64 0, .int .i64 0, .slice none 0 0]) ?_ 0 _ rfl
        exact Hbox.out
       have hB6 : Below w.heap.size w w6 := by
        rw [← hw6]
        exact ((HB5.out.setCell (p := ⟨gb, 0, none⟩) Hg.out _).setCell (p := ⟨gb, 1, none⟩) Hg.out _).setCell (p := ⟨gb, 2, none⟩) Hg.out _
       have hf6 : ∀ k, k ≠ gb → w6.heap[k]? = w5.heap[k]? := fun k hk => by
        rw [← hw6]
        exact (Below.heap_setCell _ ⟨gb, 2, none⟩ _ k hk).trans ((Below.heap_setCell _ ⟨gb, 1, none⟩ _ k hk).trans (Below.heap_setCell _ ⟨gb, 0, none⟩ _ k hk))
       have hM6 := HM5.out.keeps (hf6 b Hgb.out)
       have hps6 := Hps.out w6 hB6
       have Hbk := Aside0.mk hbk
       have HM6 := Aside0.mk hM6
       have HB6 := Aside0.mk hB6
       have Hps6 := Aside0.mk hps6
       clear hw6 hbk hf6 hM6 hB6 hps6 Hps Hbox Hg HM5 HB5 g0 g1 g2 hM hB
       go_wp2_with fail
       refine Hps6.out.mono ?_
       rintro e w8 ⟨rfl, hb8⟩
       have hbk8 := (hb8.block gb (Array.getElem?_eq_some_iff.1 Hbk.out).1).trans Hbk.out
       have hM8 := HM6.out.keeps (hb8.block b HM6.out.lt)
       have hB8 := HB6.out.trans (hb8.mono HB6.out.size)
       have hC8 : Kd.C (Kd.int .i64) w8 A3 bd.f2.length bd.f2 := Kd.C_below Hgk2.out hB8
       have hcz0 : w8.cell? ⟨gb, 0, none⟩ = some (.int .i64 bd.f0) := (blk_cell hbk8 0).trans rfl
       have hcz1 : w8.cell? ⟨gb, 1, none⟩ = some (.int .i64 bd.f1) := (blk_cell hbk8 1).trans rfl
       have hcz2 : w8.cell? ⟨gb, 2, none⟩ = some (.slice A3 bd.f2.length c3) := (blk_cell hbk8 2).trans rfl
       have HM8 := Aside0.mk hM8
       have HB8 := Aside0.mk hB8
       have HC8 := Aside0.mk hC8
       clear hbk8 hM8 hB8 hC8 hb8 Hbk HM6 HB6 Hps6 Hgk2
       cases hposs : possP l dec m
       ·have HM9 := Aside0.mk (show IMap w8 b (encI (spS l dec prices (m + 1))) by rw [Hsur.out, hposs, if_neg (by decide)]; exact HM8.out)
        clear hcz0 hcz1 hcz2 HM8 HC8 hposs Hsur
        go_wp2
        go_roundw
        case rel => exact ⟨m + 1, by omega, by go_num, HM9, HB8⟩
        case measure => simp [intOf]; omega
       ·have hsur := Hsur.out
        rw [hposs, if_pos rfl] at hsur
        have Hsur1 := Aside0.mk hsur
        clear hsur hposs Hsur
        go_wp2
        obtain ⟨lsum, hlsum⟩ : ∃ lsum : List Int → Int, lsum = fun ks => (ks.map fun k => prices.getD k.toNat 0).sum := ⟨_, rfl⟩
        have hls0 : lsum [] = 0 := by rw [hlsum]; rfl
        have hlsb : ∀ ks, 0 ≤ lsum ks ∧ lsum ks ≤ ks.length * 1099511627776 := fun ks => by rw [hlsum]; exact lots_sum prices Hpr.out ks
        have hlss : ∀ ks k, lsum (ks ++ [k]) = lsum ks + rd prices k := fun ks k => by rw [hlsum]; simp [rd]
        have hsurp : surp prices bd = bd.f1 - lsum bd.f2 := by rw [hlsum]; rfl
        have Hlsb := Aside0.mk hlsb
        have Hlss := Aside0.mk hlss
        have Hsurp := Aside0.mk hsurp
        clear hlsum hlsb hlss hsurp
        go_loopw [18, 87] (fun s i wq => ∃ q : Nat, q ≤ bd.f2.length ∧ s = .int .i64 (bd.f1 - lsum (bd.f2.take q)) ∧ i = .int .i64 q ∧ wq = w8) (fun _ i _ => bd.f2.length - (intOf i).toNat)
        case atStart => exact ⟨0, by omega, by rw [List.take_zero, hls0]; simp, rfl, rfl⟩
        case round =>
         obtain ⟨q, hq, rfl, rfl, rfl⟩ := hrel
         by_cases hltq : q < bd.f2.length
         ·obtain ⟨ad3, e3, hcell3⟩ := Kd.at_int HC8.out q (by omega) (by omega)
          subst e3
          rw [Int.toNat_natCast] at hcell3
          have hkq : rd bd.f2 q ∈ bd.f2 := by simp [rd, List.getD, hltq]
          obtain ⟨hk0, hk1⟩ := Hks.out _ hkq
          have hts : bd.f2.take (q + 1) = bd.f2.take q ++ [rd bd.f2 q] := by rw [List.take_succ_eq_append_getElem hltq]; simp [rd, List.getD, hltq]
          have hls1 := Hlss.out (bd.f2.take q) (rd bd.f2 q)
          have hlb1 := Hlsb.out (bd.f2.take (q + 1))
          have htl : (bd.f2.take (q + 1)).length ≤ 8 := by rw [List.length_take]; omega
          rw [← hts] at hls1
          generalize rd bd.f2 q = kq at *
          obtain ⟨ad4, e4, hcell4⟩ := Kd.at_int (Kd.C_below Hr2.out HB8.out) kq hk0 hk1
          subst e4
          have hw : IntKind.i64.wrap ((bd.f1 - lsum (bd.f2.take q)) - rd prices kq) = bd.f1 - lsum (bd.f2.take (q + 1)) := by rw [hls1, show bd.f1 - lsum (bd.f2.take q) - rd prices kq = bd.f1 - (lsum (bd.f2.take q) + rd prices kq) from by omega, ← hls1]; exact IntWalk.i64_in _ (by omega)
          clear hkq hls1 hlb1 htl hts
          go_wp2
          go_roundw
          case rel => exact ⟨q + 1, by omega, by first | rfl | rw [hw], by go_num, by first | trivial | rfl⟩
          case measure => simp [intOf]; omega
         ·obtain rfl : q = bd.f2.length := by omega
          rw [List.take_length, ← Hsurp.out]
          clear hltq hq
          have hlk := run_look (P := Try.prog) wr b _ bd.f0 Try.underlying99 Try.underlying3 HM8.out (.int .i64 0) zero_int
          rw [look_encI] at hlk
          obtain ⟨w7, hrun, him', hot⟩ := run_upd (P := Try.prog) wr b _ bd.f0 (.int .i64 (if (lookI (spS l dec prices m) bd.f0).getD 0 < surp prices bd then surp prices bd else (lookI (spS l dec prices m) bd.f0).getD 0)) Try.underlying99 Try.underlying3 HM8.out
          rw [upd_encI, ← Hsur1.out] at him'
          have Him := Aside0.mk him'
          have Hot := Aside0.mk hot
          clear him' hot
          generalize surp prices bd = sp at *
          generalize (lookI (spS l dec prices m) bd.f0).getD 0 = so at *
          go_wp2
          go_roundw
          case rel => exact ⟨m + 1, by omega, by go_num, ⟨Him.out⟩, ⟨HB8.out.trans (Hot.out.below hbw)⟩⟩
          case measure => simp [intOf]; omega
      ·obtain rfl : m = l.length := by omega
       clear hlt hm
       have hbounds : (spS l dec prices l.length).length ≤ 10 ∧ ∀ x ∈ spS l dec prices l.length, 0 ≤ x.2 ∧ x.2 ≤ 1099511627776 := by
        have h1 := spS_bounds l dec prices (fun b hb => (Hbb.out b hb).1.2) Hpr.out l.length (Nat.le_refl _)
        exact ⟨by omega, h1.2⟩
       have hvb := sum_bounds ((spS l dec prices l.length).map (·.2)) (fun x hx => by
        obtain ⟨y, hy, rfl⟩ := List.mem_map.1 hx
        exact hbounds.2 y hy)
       rw [List.length_map] at hvb
       have hbp := Hres2.out
       have hfin : wrap64 (boundD l dec prices) = boundD l dec prices := by
        rw [hbp]
        unfold wrap64
        have := hbounds.1
        omega
       have hst0 : wrap64 s2 = s2 := by unfold wrap64; omega
       obtain ⟨es, clock, hmb, hmm, hst⟩ := hM.out
       have hsum : (es.toList.map fun e => valOf e.val).sum = ((spS l dec prices l.length).map (·.2)).sum := by
        have h1 : (es.toList.map fun e => valOf e.val) = (es.toList.map (fun e => (e.key, e.val))).map (fun p => valOf p.2) := by rw [List.map_map]; rfl
        rw [h1, hmm, encI, List.map_map, List.map_map]
        rfl
       have hv : ∀ x ∈ es.toList, ∃ v, x.val = .int .i64 v := fun x hx => by
        have h1 : (x.key, x.val) ∈ es.toList.map (fun e => (e.key, e.val)) := List.mem_map_of_mem hx
        rw [hmm, encI, List.map_map] at h1
        obtain ⟨y, _, hy⟩ := List.mem_map.1 h1
        simp only [Function.comp, Prod.mk.injEq] at hy
        exact ⟨y.2, hy.2.symm⟩
       have hrg := run_range_map (P := Try.prog) wr 99 3 3 b es clock Try.underlying99 hmb
       have hb0 : b < wr.heap.size := (Array.getElem?_eq_some_iff.1 hmb).1
       have Hv := Aside0.mk hv
       have Hst := Aside0.mk hst
       have Hsum := Aside0.mk hsum
       have Hfin := Aside0.mk hfin
       have Hbp := Aside0.mk hbp
       clear hmm hvb hbounds hsum hst hv hfin hbp hM Hres2
       rw [← hst0]
       clear hst0
       obtain ⟨r, hr⟩ : ∃ r, r = wr.heap.size := ⟨_, rfl⟩
       rw [← hr] at hrg hb0
       go_wp2
       have hr2 : wr.heap.size ≠ b := by omega
       have hBr : Below w.heap.size w (wr.alloc (.mapIter (some b) clock #[] clock)) := hB.out.alloc hB.out.size _
       have hir := heap_alloc_new wr (.mapIter (some b) clock #[] clock)
       have hib := (Below.heap_alloc wr (.mapIter (some b) clock #[] clock) b (by omega)).trans hmb
       have hge : w.heap.size ≤ wr.heap.size := hB.out.size
       clear hB hmb hrg hb0 hr
       revert hge
       generalize wr.alloc (.mapIter (some b) clock #[] clock) = wi at *
       generalize wr.heap.size = r at *
       intro hge
       have HBr := Aside0.mk hBr
       go_loopw [7] (fun s wq => ∃ (seen : Array Nat), wq.heap[r]? = some (.mapIter (some b) clock seen clock) ∧ wq.heap[b]? = some (.map es clock) ∧ Aside0 (Below w.heap.size w wq) ∧ s = .int .i64 (wrap64 (s2 + seenSum es.toList seen))) (fun _ wq => (leftOf es (wq.iterSeen r)).size)
       case atStart => exact ⟨#[], hir, hib, HBr, by rw [seenSum_none]; simp⟩
       case round =>
        clear hir hib hBr HBr
        obtain ⟨seen, hir, hib, hB, rfl⟩ := hrel
        have hseen : wr.iterSeen r = seen := by unfold World.iterSeen; rw [hir]
        rcases run_next_at (P := Try.prog) wr 0 r b clock clock seen es clock hir hib Hst.out.1 (Nat.le_refl _) with ⟨h0, hrun⟩ | ⟨e, he, w2, hw2, hrun⟩
        ·have hnx : ∀ ty, (Instr.next (.pointer (some ⟨r, 0, none⟩)) false ty).run Try.prog wr = _ := fun _ => hrun
         have hend := seenSum_all es seen h0
         rw [Hsum.out] at hend
         have Hend := Aside0.mk hend
         clear hend hrun
         go_wp2
         go_ret
         exact ⟨by rw [← Hfin.out, Hbp.out, ← Hend.out]; rfl, hB.out⟩
        ·obtain ⟨v, hval⟩ := Hv.out e (mem_left he).1
         rw [hval] at hrun
         have hw2h : w2.heap = wr.heap := by rcases hw2 with rfl | rfl <;> rfl
         have hB2 : Below w.heap.size w w2 := by
          rcases hw2 with rfl | rfl
          ·exact hB.out
          ·exact below_drew1 hB.out
         have hot := OneTurn.mk_ r w2 (.mapIter (some b) clock (seen.push e.born) clock)
         have hrl : r < w2.heap.size := by rw [hw2h]; exact (Array.getElem?_eq_some_iff.1 hir).1
         have hir3 : (Go.ChangeMaps.setBlock w2 r (.mapIter (some b) clock (seen.push e.born) clock)).heap[r]? = some (.mapIter (some b) clock (seen.push e.born) clock) := by
          show (w2.heap.setIfInBounds r _)[r]? = _
          simp [hrl]
         have hib3 : (Go.ChangeMaps.setBlock w2 r (.mapIter (some b) clock (seen.push e.born) clock)).heap[b]? = some (.map es clock) := (hot.block b hr2.symm).trans (by rw [hw2h]; exact hib)
         have hB3 : Below w.heap.size w (Go.ChangeMaps.setBlock w2 r (.mapIter (some b) clock (seen.push e.born) clock)) := hB2.trans (hot.below hge)
         clear hot hB2 hrl
         generalize Go.ChangeMaps.setBlock w2 r (.mapIter (some b) clock (seen.push e.born) clock) = w3 at *
         have hnx : ∀ ty, (Instr.next (.pointer (some ⟨r, 0, none⟩)) false ty).run Try.prog wr = _ := fun _ => hrun
         have hen := run_entry_at (P := Try.prog) w3 r b clock seen es clock e hir3 hib3 (mem_left he).1 Hst.out.2.1
         rw [hval] at hen
         have hps := seenSum_push seen e (mem_left he).2 es.toList Hst.out.2.1 (mem_left he).1
         rw [hval] at hps
         have e3 : IntKind.i64.wrap (wrap64 (s2 + seenSum es.toList seen) + v) = wrap64 (s2 + seenSum es.toList (seen.push e.born)) := by
          rw [i64_w, hps]
          show wrap64 (wrap64 _ + v) = wrap64 (_ + (_ + v))
          unfold wrap64
          omega
         have hsh := left_shrinks es seen e he
         have hseen3 : w3.iterSeen r = seen.push e.born := by unfold World.iterSeen; rw [hir3]
         have Hsh := Aside0.mk hsh
         have Hseen := Aside0.mk hseen
         have Hseen3 := Aside0.mk hseen3
         have HB3 := Aside0.mk hB3
         have Hir3 := Aside0.mk hir3
         have Hib3 := Aside0.mk hib3
         clear hps hsh hseen hseen3 hB3 hir3 hib3 hw2h hw2 hrun
         go_wp2
         go_roundw
         case rel => exact ⟨seen.push e.born, Hir3.out, Hib3.out, HB3, by first | rfl | rw [e3]⟩
         case measure =>
          rw [Hseen.out, Hseen3.out]
          exact Hsh.out
end Go.Proofs.Ytdamibblnjeooaa.H

/- proof's checker: what it computes; how it stands in memory; its closure 'next'. -/
namespace Go.Proofs.Ytdamibblnjeooaa.H
open Go.RowKit Go.Proofs.YtdamibblnjeooaaW.PrintWords Go.Proofs.YtdamibblnjeooaaW.PrintLast Go.Proofs.YtdamibblnjeooaaW.PrintMore
set_option linter.unusedVariables false
set_option linter.unusedSimpArgs false
/-- What a checker holds, and where. -/
structure PCx where
 w0 : World
 cb : Nat
 sb : Nat
 n : Int
 A0 : Option Addr
 c0 : Nat
 l : List S82
 v : Int
 A3 : Option Addr
 c3 : Nat
 nodes : List S55
/-- Is a leaf right? -/
def leafP (n : Int) (l : List S82) (v : Int) (dec : List Int) (x : S55) : Bool :=
 decide (x.f1 = 0) && decide (x.f2 = 0) && decide ((x.f3.length : Int) = n) && !x.f3.any badPrice && decide (boundD l dec x.f3 ≤ v)
/-- One branch. -/
def stepP (go : Nat → List Int → List Bool → Bool × List Bool) (len i : Nat) (dec : List Int) (b : Nat) (k d : Int) (st : List Bool) : Bool × List Bool := if (i : Int) < k ∧ k < len then go k.toNat (dec.set b d) st else (false, st)
/-- The other branch, if the first is right. -/
def bothP (r : Bool × List Bool) (g : List Bool → Bool × List Bool) : Bool × List Bool := if r.1 then g r.2 else r
/-- The certificate from node i on: is it right, and which nodes have been seen. -/
def nodeP (n : Int) (l : List S82) (v : Int) (nodes : List S55) : Nat → Nat → List Int → List Bool → Bool × List Bool
 | 0, _, _, st => (false, st)
 | f + 1, i, dec, st =>
  if st.getD i true then (false, st) else
  if (nodes.getD i z55).f0 = -1 then (leafP n l v dec (nodes.getD i z55), st.set i true) else
  if (nodes.getD i z55).f0 < 0 ∨ (l.length : Int) ≤ (nodes.getD i z55).f0 ∨ possP l dec (nodes.getD i z55).f0.toNat = false ∨ 0 < (nodes.getD i z55).f3.length then (false, st.set i true) else
  bothP (stepP (nodeP n l v nodes f) nodes.length i dec (nodes.getD i z55).f0.toNat (nodes.getD i z55).f1 1 (st.set i true))
   (stepP (nodeP n l v nodes f) nodes.length i dec (nodes.getD i z55).f0.toNat (nodes.getD i z55).f2 2)
theorem stepP_len (go : Nat → List Int → List Bool → Bool × List Bool) (h : ∀ i dec st, (go i dec st).2.length = st.length) (len i : Nat) (dec : List Int) (b : Nat) (k d : Int) (st : List Bool) : (stepP go len i dec b k d st).2.length = st.length := by
 unfold stepP
 split
 ·exact h _ _ _
 ·rfl
theorem nodeP_len (n : Int) (l : List S82) (v : Int) (nodes : List S55) : ∀ f i dec st, (nodeP n l v nodes f i dec st).2.length = st.length
 | 0, _, _, _ => rfl
 | f + 1, i, dec, st => by
  have ih := nodeP_len n l v nodes f
  unfold nodeP
  split
  ·rfl
  ·split
   ·simp
   ·split
    ·simp
    ·unfold bothP
     split
     ·rw [stepP_len _ ih, stepP_len _ ih]; simp
     ·rw [stepP_len _ ih]; simp
/-- The closure 'next'. -/
def nextP (s : PCx) (f i : Nat) (dec : List Int) (b : Nat) (k d : Int) (st : List Bool) : Bool × List Bool := stepP (nodeP s.n s.l s.v s.nodes f) s.nodes.length i dec b k d st
structure POk (s : PCx) : Prop where
 rl : Kd.C k82 s.w0 s.A0 s.l.length s.l
 rn : Kd.C k55 s.w0 s.A3 s.nodes.length s.nodes
 l10 : s.l.length ≤ 10
 n8 : 1 ≤ s.n ∧ s.n ≤ 8
 bids : ∀ b ∈ s.l, (1 ≤ b.f1 ∧ b.f1 ≤ 1099511627776) ∧ b.f2.length ≤ 8 ∧ ∀ k ∈ b.f2, 0 ≤ k ∧ k < s.n
 nl : s.nodes.length ≤ 2047
 hcb : s.w0.heap.size ≤ s.cb
 hsb : s.w0.heap.size ≤ s.sb
 hne : s.cb ≠ s.sb
/-- How the checker stands in W. -/
structure NSt (s : PCx) (W : World) (seen : List Bool) : Prop where
 below : Below s.w0.heap.size s.w0 W
 hC : W.heap[s.cb]? = some (.cells #[.int .i64 s.n, .slice s.A0 s.l.length s.c0, .int .i64 s.v, .slice s.A3 s.nodes.length s.c3, .slice (some ⟨s.sb, 0, none⟩) s.nodes.length s.nodes.length] 93 (0, 0))
 hS : W.heap[s.sb]? = some (.cells (bools seen).toArray 4 (0, 0))
/-- Block sb alone may have turned. -/
structure Stay (sb : Nat) (W W' : World) : Prop where
 size : W.heap.size ≤ W'.heap.size
 block : ∀ j, j < W.heap.size → j ≠ sb → W'.heap[j]? = W.heap[j]?
theorem Stay.of_below {sb : Nat} {W W' : World} (h : Below W.heap.size W W') : Stay sb W W' := ⟨h.size, fun j hj _ => h.block j hj⟩
theorem Stay.trans {sb : Nat} {a b c : World} (h1 : Stay sb a b) (h2 : Stay sb b c) : Stay sb a c := ⟨Nat.le_trans h1.size h2.size, fun j hj hn => (h2.block j (Nat.lt_of_lt_of_le hj h1.size) hn).trans (h1.block j hj hn)⟩
theorem Stay.at_ {sb : Nat} {W W' : World} (h : Stay sb W W') {b : Nat} {o : Obj} (hb : W.heap[b]? = some o) (hn : b ≠ sb) : W'.heap[b]? = some o := (h.block b (Array.getElem?_eq_some_iff.1 hb).1 hn).trans hb
theorem NSt.step {s : PCx} {W W' : World} {seen : List Bool} (h : NSt s W seen) (hb : Below W.heap.size W W') : NSt s W' seen :=
 ⟨h.below.trans (hb.mono h.below.size), (hb.block _ (Array.getElem?_eq_some_iff.1 h.hC).1).trans h.hC, (hb.block _ (Array.getElem?_eq_some_iff.1 h.hS).1).trans h.hS⟩
theorem NSt.mark {s : PCx} (ok : POk s) {W : World} {seen : List Bool} (h : NSt s W seen) (i : Nat) : NSt s (W.setCell ⟨s.sb, i, none⟩ (.bool true)) (seen.set i true) ∧ Stay s.sb W (W.setCell ⟨s.sb, i, none⟩ (.bool true)) := by
 have hf : ∀ k, k ≠ s.sb → (W.setCell ⟨s.sb, i, none⟩ (.bool true)).heap[k]? = W.heap[k]? := fun k hk => Below.heap_setCell W ⟨s.sb, i, none⟩ _ k hk
 have hB : Below s.w0.heap.size s.w0 (W.setCell ⟨s.sb, i, none⟩ (.bool true)) := h.below.setCell (p := ⟨s.sb, i, none⟩) ok.hsb _
 have hz : Below s.sb W (W.setCell ⟨s.sb, i, none⟩ (.bool true)) := (Below.refl _ W).setCell (p := ⟨s.sb, i, none⟩) (Nat.le_refl _) _
 refine ⟨⟨hB, (hf _ ok.hne).trans h.hC, ?_⟩, ⟨hz.size, fun j _ hn => hf j hn⟩⟩
 refine blk_put h.hS i _ ?_
 simp [bools, List.map_set]
/-- The row of decisions in block db; the boxes of a call of 'node': b holds the checker, b + 1 the place, b + 2 the decisions. -/
structure NBx (s : PCx) (db : Nat) (dec : List Int) (i b : Nat) (W : World) : Prop where
 hD : W.heap[db]? = some (.cells (dec.map (Value.int .i64)).toArray 3 (0, 0))
 hdb : db ≠ s.sb
 h0 : W.heap[b]? = some (.cells #[.pointer (some ⟨s.cb, 0, none⟩)] 90 (0, 0))
 h1 : W.heap[b + 1]? = some (.cells #[.int .i64 (i : Int)] 3 (0, 0))
 h2 : W.heap[b + 2]? = some (.cells #[.slice (some ⟨db, 0, none⟩) dec.length dec.length] 22 (0, 0))
 hb : s.sb < b
theorem NBx.stay {s : PCx} {db i b : Nat} {dec : List Int} {W W' : World} (h : NBx s db dec i b W) (hs : Stay s.sb W W') : NBx s db dec i b W' := by
 have hb := h.hb
 exact ⟨hs.at_ h.hD h.hdb, h.hdb, hs.at_ h.h0 (by omega), hs.at_ h.h1 (by omega), hs.at_ h.h2 (by omega), hb⟩
/-- The box of a node. -/
def XBx (x : S55) (A : Option Addr) (c b : Nat) (W : World) : Prop := W.heap[b + 3]? = some (.cells #[.int .i64 x.f0, .int .i64 x.f1, .int .i64 x.f2, .slice A x.f3.length c] 55 (0, 0))
/-- What node does. -/
def NodeC (s : PCx) (f : Nat) : Prop := ∀ (i : Nat) (dec : List Int) (db : Nat) (seen : List Bool) (W : World), i < s.nodes.length → s.nodes.length ≤ i + f → dec.length = s.l.length → seen.length = s.nodes.length → NSt s W seen →
 W.heap[db]? = some (.cells (dec.map (Value.int .i64)).toArray 3 (0, 0)) → db ≠ s.sb →
 Calls Try.prog 48 #[.pointer (some ⟨s.cb, 0, none⟩), .int .i64 (i : Int), .slice (some ⟨db, 0, none⟩) dec.length dec.length] W (fun e W' => e = .returned (.bool (nodeP s.n s.l s.v s.nodes f i dec seen).1) ∧ NSt s W' (nodeP s.n s.l s.v s.nodes f i dec seen).2 ∧ Stay s.sb W W')
set_option maxHeartbeats 4000000 in
set_option maxRecDepth 100000 in
theorem next_calls (s : PCx) (ok : POk s) (f : Nat) (Ih : NodeC s f) (i : Nat) (dec : List Int) (db b : Nat) (x : S55) (A : Option Addr) (c : Nat) (seen : List Bool) (W : World) (hdl : dec.length = s.l.length) (hsl : seen.length = s.nodes.length)
  (hS : NSt s W seen) (hB : NBx s db dec i b W) (hX : XBx x A c b W) (hx0 : 0 ≤ x.f0) (hx1 : x.f0 < s.l.length) (hfu : s.nodes.length ≤ i + 1 + f) (k d : Int) :
  Calls Try.prog 73 #[.int .i64 k, .int .i64 d, .pointer (some ⟨b + 1, 0, none⟩), .pointer (some ⟨b, 0, none⟩), .pointer (some ⟨b + 2, 0, none⟩), .pointer (some ⟨b + 3, 0, none⟩)] W
   (fun e W' => e = .returned (.bool (nextP s f i dec x.f0.toNat k d seen).1) ∧ NSt s W' (nextP s f i dec x.f0.toNat k d seen).2 ∧ Stay s.sb W W') := by
 obtain ⟨bi, hbi⟩ : ∃ bi, bi = x.f0.toNat := ⟨_, rfl⟩
 have hbx : x.f0 = (bi : Int) := by omega
 have hc1 : W.cell? ⟨b + 1, 0, none⟩ = some (.int .i64 (i : Int)) := (blk_cell hB.h1 0).trans rfl
 have hc0 : W.cell? ⟨b, 0, none⟩ = some (.pointer (some ⟨s.cb, 0, none⟩)) := (blk_cell hB.h0 0).trans rfl
 have hc2 : W.cell? ⟨b + 2, 0, none⟩ = some (.slice (some ⟨db, 0, none⟩) dec.length dec.length) := (blk_cell hB.h2 0).trans rfl
 have hcx : W.cell? ⟨b + 3, 0, none⟩ = some (.int .i64 (bi : Int)) := by rw [← hbx]; exact (blk_cell hX 0).trans rfl
 have hcn : W.cell? ⟨s.cb, 3, none⟩ = some (.slice s.A3 s.nodes.length s.c3) := (blk_cell hS.hC 3).trans rfl
 by_cases h1 : (i : Int) < k
 ·have hd1 : decide ((i : Int) < k) = true := decide_eq_true h1
  by_cases h2 : k < (s.nodes.length : Int)
  ·have hd2 : decide (k < (s.nodes.length : Int)) = true := decide_eq_true h2
   have hres : nextP s f i dec x.f0.toNat k d seen = nodeP s.n s.l s.v s.nodes f k.toNat (dec.set bi d) seen := by unfold nextP stepP; rw [if_pos ⟨h1, h2⟩, hbi]
   rw [hres]
   obtain ⟨kn, hkn⟩ : ∃ kn : Nat, kn = k.toNat := ⟨_, rfl⟩
   have hkn2 : (kn : Int) = k := by omega
   rw [← hkn]
   have hB' : Below W.heap.size W W.drew := below_drew1 (Below.refl _ W)
   have hw := with_calls (some ⟨db, 0, none⟩) dec.length dec bi d W.drew (Kd.C_below (C_blk hB.hD (by have := ok.l10; omega)) hB') (by omega) (by have := ok.l10; omega)
   have hn : ∀ w1, w1.heap[W.drew.heap.size]? = some (.cells ((dec.set bi d).map (Value.int .i64)).toArray 3 (0, 0)) → Below W.drew.heap.size W.drew w1 → Calls Try.prog 48 #[.pointer (some ⟨s.cb, 0, none⟩), .int .i64 k, .slice (some ⟨W.drew.heap.size, 0, none⟩) dec.length dec.length] w1
     (fun e W' => e = .returned (.bool (nodeP s.n s.l s.v s.nodes f kn (dec.set bi d) seen).1) ∧ NSt s W' (nodeP s.n s.l s.v s.nodes f kn (dec.set bi d) seen).2 ∧ Stay s.sb w1 W') := by
    intro w1 hd1 hb1
    have h := Ih kn (dec.set bi d) W.drew.heap.size seen w1 (by omega) (by omega) (by simpa using hdl) hsl ((hS.step hB').step hb1) hd1 (by
     have := (Array.getElem?_eq_some_iff.1 hS.hS).1
     have h3 : W.drew.heap.size = W.heap.size := rfl
     omega)
    rwa [List.length_set, hkn2] at h
   have hkeep : ∀ w', Stay s.sb W w' → w'.cell? ⟨b + 1, 0, none⟩ = some (.int .i64 (i : Int)) ∧ w'.cell? ⟨b, 0, none⟩ = some (.pointer (some ⟨s.cb, 0, none⟩)) ∧ w'.cell? ⟨b + 2, 0, none⟩ = some (.slice (some ⟨db, 0, none⟩) dec.length dec.length) ∧ w'.cell? ⟨b + 3, 0, none⟩ = some (.int .i64 (bi : Int)) ∧ w'.cell? ⟨s.cb, 3, none⟩ = some (.slice s.A3 s.nodes.length s.c3) := by
    intro w' hst
    have hb := hB.hb
    have hB2 := hB.stay hst
    refine ⟨(blk_cell hB2.h1 0).trans rfl, (blk_cell hB2.h0 0).trans rfl, (blk_cell hB2.h2 0).trans rfl, ?_, (blk_cell (hst.at_ hS.hC ok.hne) 3).trans rfl⟩
    rw [← hbx]
    exact (blk_cell (hst.at_ hX (by omega)) 0).trans rfl
   have Hw := Aside0.mk hw
   have Hn := Aside0.mk hn
   have Hkeep := Aside0.mk hkeep
   have HS := Aside0.mk hS
   clear hw hn hkeep hres hbx hbi hB' h1 h2 hkn hkn2 hS hB hX hsl hfu hdl Ih hx0 hx1
   go_enter Try.func73, Try.ntmps73
   go_upto_region 1 with (fail)
   go_region_held3 (fun w' => w'.cell? ⟨b + 1, 0, none⟩ = some (.int .i64 (i : Int)) ∧ w'.cell? ⟨b, 0, none⟩ = some (.pointer (some ⟨s.cb, 0, none⟩)) ∧ w'.cell? ⟨b + 2, 0, none⟩ = some (.slice (some ⟨db, 0, none⟩) dec.length dec.length) ∧ w'.cell? ⟨b + 3, 0, none⟩ = some (.int .i64 (bi : Int)) ∧ w'.cell? ⟨s.cb, 3, none⟩ = some (.slice s.A3 s.nodes.length s.c3))
    (first | go_keep | exact Hkeep.out w2 (Stay.trans (Stay.of_below ⟨hb1.os, hb1.tape, hb1.output, hb1.size, hb1.block⟩) hst2) | exact Hkeep.out w1 (Stay.of_below ⟨hb1.os, hb1.tape, hb1.output, hb1.size, hb1.block⟩))
    (first | (go_at_call 48; refine (Hn.out _ hd1_ ⟨hb1.os, hb1.tape, hb1.output, hb1.size, hb1.block⟩).mono ?_; rintro e w2 ⟨rfl, hs2, hst2⟩) | (refine Hw.out.mono ?_; rintro e w1 ⟨rfl, hd1_, hb1⟩))
   have hst : Stay s.sb W w2 := Stay.trans (Stay.of_below ⟨hb1.os, hb1.tape, hb1.output, hb1.size, hb1.block⟩) hst2
   go_wp2
   go_ret
   exact ⟨rfl, hs2, hst⟩
  ·have hd2 : decide (k < (s.nodes.length : Int)) = false := decide_eq_false h2
   have hres : nextP s f i dec x.f0.toNat k d seen = (false, seen) := by unfold nextP stepP; rw [if_neg (fun h => h2 h.2)]
   rw [hres]
   have hS' : ∀ nq, NSt s (W.drewN nq) seen := fun nq => hS.step (pw_below_drewN (Below.refl _ W) nq)
   have HS' := Aside0.mk hS'
   clear hS hS' hB hX hres h1 h2 hbx hbi Ih
   go_enter Try.func73, Try.ntmps73
   go_upto_region 1 with (fail)
   go_quiet (fail)
   go_wp2
   go_ret
   exact ⟨rfl, HS'.out _, Stay.of_below (pw_below_drewN (Below.refl _ W) _)⟩
 ·have hd1 : decide ((i : Int) < k) = false := decide_eq_false h1
  have hres : nextP s f i dec x.f0.toNat k d seen = (false, seen) := by unfold nextP stepP; rw [if_neg (fun h => h1 h.1)]
  rw [hres]
  have hS' : ∀ nq, NSt s (W.drewN nq) seen := fun nq => hS.step (pw_below_drewN (Below.refl _ W) nq)
  have HS' := Aside0.mk hS'
  clear hS hS' hB hX hres h1 hbx hbi Ih
  go_enter Try.func73, Try.ntmps73
  go_upto_region 1 with (fail)
  go_quiet (fail)
  go_wp2
  go_ret
  exact ⟨rfl, HS'.out _, Stay.of_below (pw_below_drewN (Below.refl _ W) _)⟩
end Go.Proofs.Ytdamibblnjeooaa.H

/- proof's checker: the walk of 'node'. -/
namespace Go.Proofs.Ytdamibblnjeooaa.H
open Go.RowKit Go.Proofs.YtdamibblnjeooaaW.PrintWords Go.Proofs.YtdamibblnjeooaaW.PrintLast Go.Proofs.YtdamibblnjeooaaW.PrintMore
set_option linter.unusedVariables false
set_option linter.unusedSimpArgs false
set_option maxHeartbeats 1000000 in
theorem node1_calls (x : Int) (W : World) : Calls Try.prog 71 #[.int .i64 x] W (fun e W' => e = .returned (.bool (badPrice x)) ∧ Below W.heap.size W W') := by
 by_cases h : x < 0
 ·have hd : decide (x < 0) = true := decide_eq_true h
  have hr : badPrice x = true := by simp [badPrice, hd]
  rw [hr]
  clear h hr
  go_enter Try.func71, Try.ntmps71
  go_wp2
  go_ret
  exact ⟨rfl, Below.refl _ _⟩
 ·have hd : decide (x < 0) = false := decide_eq_false h
  have hr : badPrice x = decide (1099511627776 < x) := by simp [badPrice, hd]
  rw [hr]
  clear h hr
  go_enter Try.func71, Try.ntmps71
  go_wp2
  go_ret
  exact ⟨rfl, Below.refl _ _⟩
theorem enter_node1 : ∀ args w, (callFunc 71 args).run Try.prog w = .ok (.enter 71 args) w := fun args w => by kernel_rfl
theorem below_drew0 (W : World) : Below W.heap.size W W.drew := ⟨rfl, rfl, rfl, Nat.le_refl _, fun _ _ => rfl⟩
set_option maxHeartbeats 8000000 in
set_option maxRecDepth 100000 in
theorem node_calls (s : PCx) (ok : POk s) : ∀ f, NodeC s f := by
 intro f
 induction f with
 | zero => intro i dec db seen W hi hfu; omega
 | succ f ih =>
  intro i dec db seen W hi hfu hdl hsl hS hD hdb
  have Ih := Aside0.mk ih
  have Ok := Aside0.mk ok
  have Hdl := Aside0.mk hdl
  have Hsl := Aside0.mk hsl
  have hil : i < seen.length := by omega
  clear ih ok hdl hsl
  have hsbW := (Array.getElem?_eq_some_iff.1 hS.hS).1
  obtain ⟨W3, hW3⟩ : ∃ W3, W3 = ((W.alloc (.cells #[.pointer (some ⟨s.cb, 0, none⟩)] 90)).alloc (.cells #[.int .i64 (i : Int)] 3)).alloc (.cells #[.slice (some ⟨db, 0, none⟩) dec.length dec.length] 22) := ⟨_, rfl⟩
  have hst3 : Below W.heap.size W W3 := by
   rw [hW3]
   exact below_alloc (below_alloc (below_alloc (Below.refl _ W) _) _) _
  have hB3 : NBx s db dec i W.heap.size W3 := by
   have hat : ∀ (W : World) (o : Obj) (k : Nat), W.heap.size = k → (W.alloc o).heap[k]? = some o := fun W o k e => by rw [← e]; exact heap_alloc_new W o
   have hbe : ∀ (W : World) (o : Obj) (k : Nat) (x : Option Obj), k < W.heap.size → W.heap[k]? = x → (W.alloc o).heap[k]? = x := fun W o k x h e => (Below.heap_alloc W o k h).trans e
   refine ⟨(hst3.block db (Array.getElem?_eq_some_iff.1 hD).1).trans hD, hdb, ?_, ?_, ?_, hsbW⟩
   ·rw [hW3]
    exact hbe _ _ _ _ (by simp; omega) (hbe _ _ _ _ (by simp) (hat _ _ _ rfl))
   ·rw [hW3]
    exact hbe _ _ _ _ (by simp) (hat _ _ _ (by simp))
   ·rw [hW3]
    exact hat _ _ _ (by simp)
  have hS3 := hS.step hst3
  have hT3 := Stay.of_below (sb := s.sb) hst3
  go_enter Try.func48, Try.ntmps48
  go_upto_region 1 with (fail)
  simp only [Nat.add_assoc, Nat.reduceAdd]
  rw [← hW3]
  have hsz3 : W3.heap.size = W.heap.size + 3 := by rw [hW3]; simp
  clear hW3 hst3 hsbW hS hD
  generalize W.heap.size = b at *
  have hc0 : W3.cell? ⟨b, 0, none⟩ = some (.pointer (some ⟨s.cb, 0, none⟩)) := (blk_cell hB3.h0 0).trans rfl
  have hc1 : W3.cell? ⟨b + 1, 0, none⟩ = some (.int .i64 (i : Int)) := (blk_cell hB3.h1 0).trans rfl
  have hc2 : W3.cell? ⟨b + 2, 0, none⟩ = some (.slice (some ⟨db, 0, none⟩) dec.length dec.length) := (blk_cell hB3.h2 0).trans rfl
  have hcs : W3.cell? ⟨s.cb, 4, none⟩ = some (.slice (some ⟨s.sb, 0, none⟩) s.nodes.length s.nodes.length) := (blk_cell hS3.hC 4).trans rfl
  have hsi : W3.cell? ⟨s.sb, i, none⟩ = some (.bool (seen.getD i true)) := (blk_cell hS3.hS i).trans (by
   simp [bools, List.getElem?_eq_getElem hil])
  cases hsn : seen.getD i true
  ·rw [hsn] at hsi
   have Hsn := Aside0.mk hsn
   clear hsn
   go_quiet (fail)
   have hb7 := pw_below_drewN (Below.refl W3.heap.size W3) nq
   have hS4 := hS3.step hb7
   have hB4 := hB3.stay (Stay.of_below hb7)
   have hT4 := hT3.trans (Stay.of_below hb7)
   have hsz4 : (W3.drewN nq).heap.size = b + 3 := hsz3
   clear hb7 hS3 hB3 hT3 hsz3 hc0 hc1 hc2 hcs hsi
   generalize W3.drewN nq = W4 at *
   have hc0 : W4.cell? ⟨b, 0, none⟩ = some (.pointer (some ⟨s.cb, 0, none⟩)) := (blk_cell hB4.h0 0).trans rfl
   have hc1 : W4.cell? ⟨b + 1, 0, none⟩ = some (.int .i64 (i : Int)) := (blk_cell hB4.h1 0).trans rfl
   have hcs : W4.cell? ⟨s.cb, 4, none⟩ = some (.slice (some ⟨s.sb, 0, none⟩) s.nodes.length s.nodes.length) := (blk_cell hS4.hC 4).trans rfl
   have hsi : W4.cell? ⟨s.sb, i, none⟩ = some (.bool false) := (blk_cell hS4.hS i).trans (by
    have h := Hsn.out
    simp only [List.getD, List.getElem?_eq_getElem hil, Option.getD_some] at h
    simp [bools, List.getElem?_eq_getElem hil, h])
   have hfi : W4.frozen? ⟨s.sb, i, none⟩ = false := blk_frozen hS4.hS i
   obtain ⟨hS5, hT5⟩ := hS4.mark Ok.out i
   have hB5 := hB4.stay hT5
   have hT5 := hT4.trans hT5
   have hsz5 : (W4.setCell ⟨s.sb, i, none⟩ (.bool true)).heap.size = b + 3 := by simpa using hsz4
   have HS5 := Aside0.mk hS5
   have HB5 := Aside0.mk hB5
   have HT5 := Aside0.mk hT5
   have Hsz5 := Aside0.mk hsz5
   clear hS5 hB5 hT5 hsz5 hS4 hB4 hT4 hsz4
   go_upto_region 3 with (fail)
   go_still_tail 6, (by kernel_rfl)
   change wpList _ _ _ _ _ W4.drew
   go_upto_region 4 with (fail)
   have hd5 := below_drew0 (W4.setCell ⟨s.sb, i, none⟩ (.bool true))
   have hS5 := HS5.out.step hd5
   have hB5 := HB5.out.stay (Stay.of_below hd5)
   have hT5 := HT5.out.trans (Stay.of_below hd5)
   have hsz5 : (W4.setCell ⟨s.sb, i, none⟩ (.bool true)).drew.heap.size = b + 3 := Hsz5.out
   clear hd5 HS5 HB5 HT5 Hsz5 hc0 hc1 hcs hsi hfi
   generalize (W4.setCell ⟨s.sb, i, none⟩ (.bool true)).drew = W5 at *
   obtain ⟨ad, A, c, e, g0, g1, g2, g3, hl3, hk3⟩ := at_T55 (Kd.C_below Ok.out.rn hS5.below) (i : Int) (by omega) (by omega)
   have hgd : rd_T55 s.nodes (i : Int) = s.nodes.getD i z55 := by simp [rd_T55]
   rw [hgd] at g0 g1 g2 g3 hl3 hk3
   rw [Int.toNat_natCast] at g0 g1 g2 g3
   clear hgd
   have hc0 : W5.cell? ⟨b, 0, none⟩ = some (.pointer (some ⟨s.cb, 0, none⟩)) := (blk_cell hB5.h0 0).trans rfl
   have hc1 : W5.cell? ⟨b + 1, 0, none⟩ = some (.int .i64 (i : Int)) := (blk_cell hB5.h1 0).trans rfl
   have hcn : W5.cell? ⟨s.cb, 3, none⟩ = some (.slice (some ad) s.nodes.length s.c3) := by rw [← e]; exact (blk_cell hS5.hC 3).trans rfl
   obtain ⟨x, hx⟩ : ∃ x, x = s.nodes.getD i z55 := ⟨_, rfl⟩
   rw [← hx] at g0 g1 g2 g3 hl3 hk3
   have hal : ∀ (w : World) (o : Obj) (p : Addr) (v : Value), w.cell? p = some v → (w.alloc o).cell? p = some v := fun w o p v hp => (((Below.refl _ w).alloc (Nat.le_refl _) o).cell (p := p) (World.block_lt_of_cell? w _ hp)).trans hp
   have k0 := fun o => hal W5 o _ _ hc0
   have k1 := fun o => hal W5 o _ _ hc1
   have k2 := fun o => hal W5 o _ _ hcn
   have k3 := fun o => hal W5 o _ _ g0
   have k4 := fun o => hal W5 o _ _ g1
   have k5 := fun o => hal W5 o _ _ g2
   have k6 := fun o => hal W5 o _ _ g3
   have Hx := Aside0.mk hx
   have HS5 := Aside0.mk hS5
   have HB5 := Aside0.mk hB5
   have HT5 := Aside0.mk hT5
   have Hk3 := Aside0.mk hk3
   have Hl3 := Aside0.mk hl3
   clear hal hx hS5 hB5 hT5 hk3 hl3 e
   go_region
   generalize hz : World.drew _ = W6
   have hb6 : Below W5.heap.size W5 W6 := by
    rw [← hz]
    exact below_drew ((Below.refl _ W5).alloc (Nat.le_refl _) _)
   have hX6 : XBx x A c b W6 := by
    unfold XBx
    rw [← hz, ← hsz5]
    exact heap_alloc_new W5 _
   have hS6 := HS5.out.step hb6
   have hB6 := HB5.out.stay (Stay.of_below hb6)
   have hT6 := HT5.out.trans (Stay.of_below hb6)
   have hC6 : Kd.C (Kd.int .i64) W6 A x.f3.length x.f3 := Kd.C_below Hk3.out hb6
   clear hz hb6 k0 k1 k2 k3 k4 k5 k6 g0 g1 g2 g3 hc0 hc1 hcn hsz5 HS5 HB5 HT5 Hk3
   have hc0 : W6.cell? ⟨b, 0, none⟩ = some (.pointer (some ⟨s.cb, 0, none⟩)) := (blk_cell hB6.h0 0).trans rfl
   have hc2 : W6.cell? ⟨b + 2, 0, none⟩ = some (.slice (some ⟨db, 0, none⟩) dec.length dec.length) := (blk_cell hB6.h2 0).trans rfl
   have hx0 : W6.cell? ⟨b + 3, 0, none⟩ = some (.int .i64 x.f0) := (blk_cell hX6 0).trans rfl
   have hx1 : W6.cell? ⟨b + 3, 1, none⟩ = some (.int .i64 x.f1) := (blk_cell hX6 1).trans rfl
   have hx2 : W6.cell? ⟨b + 3, 2, none⟩ = some (.int .i64 x.f2) := (blk_cell hX6 2).trans rfl
   have hx3 : W6.cell? ⟨b + 3, 3, none⟩ = some (.slice A x.f3.length c) := (blk_cell hX6 3).trans rfl
   have hcn : W6.cell? ⟨s.cb, 0, none⟩ = some (.int .i64 s.n) := (blk_cell hS6.hC 0).trans rfl
   have hcl : W6.cell? ⟨s.cb, 1, none⟩ = some (.slice s.A0 s.l.length s.c0) := (blk_cell hS6.hC 1).trans rfl
   have hfin : ∀ nq, NSt s (W6.drewN nq) (seen.set i true) ∧ Stay s.sb W (W6.drewN nq) := fun nq => ⟨hS6.step (pw_below_drewN (Below.refl _ W6) nq), hT6.trans (Stay.of_below (pw_below_drewN (Below.refl _ W6) nq))⟩
   have Hfin := Aside0.mk hfin
   have HS6 := Aside0.mk hS6
   have HB6 := Aside0.mk hB6
   have HT6 := Aside0.mk hT6
   have HX6 := Aside0.mk hX6
   have HC6 := Aside0.mk hC6
   clear hfin hS6 hB6 hT6 hX6 hC6
   by_cases hlf : x.f0 = -1
   ·have hres : nodeP s.n s.l s.v s.nodes (f + 1) i dec seen = (leafP s.n s.l s.v dec x, seen.set i true) := by
     unfold nodeP
     rw [if_neg (by rw [Hsn.out]; decide), ← Hx.out, if_pos hlf]
    have Hres := Aside0.mk hres
    have hlb : (x.f0 == -1) = true := by simpa using hlf
    clear hres hlf
    by_cases h1 : x.f1 = 0
    ·have hd1 : (x.f1 != 0) = false := by simpa using h1
     by_cases h2 : x.f2 = 0
     ·have hd2 : (x.f2 != 0) = false := by simpa using h2
      by_cases h3 : (x.f3.length : Int) = s.n
      ·have hd3 : ((x.f3.length : Int) != s.n) = false := by simpa using h3
       have hcf := containsFunc_calls 71 #[] badPrice A c x.f3 W6.drew (Kd.C_below HC6.out (below_drew0 W6)) enter_node1 (fun y W' _ _ => node1_calls y W')
       have hlp : leafP s.n s.l s.v dec x = (!x.f3.any badPrice && decide (boundD s.l dec x.f3 ≤ s.v)) := by unfold leafP; rw [decide_eq_true h1, decide_eq_true h2, decide_eq_true h3]; rfl
       have Hlp := Aside0.mk hlp
       have Hcf := Aside0.mk hcf
       have Hk3 := Aside0.mk h3
       clear hcf hlp h1 h2 h3
       cases hany : x.f3.any badPrice
       ·rw [hany] at Hcf
        have Hany := Aside0.mk hany
        clear hany
        go_upto_region 6 with (fail)
        go_still_tail 21, (by kernel_rfl)
        change wpList _ _ _ _ _ W6.drew
        go_wp2_with fail
        refine Hcf.out.mono ?_
        rintro e w1 ⟨rfl, hb1⟩
        have hW1 : Below W6.heap.size W6 w1 := ⟨hb1.os, hb1.tape, hb1.output, hb1.size, hb1.block⟩
        have hS7 := HS6.out.step hW1
        have hB7 := HB6.out.stay (Stay.of_below hW1)
        have hT7 := HT6.out.trans (Stay.of_below hW1)
        have hX7 : XBx x A c b w1 := (hW1.block _ (Array.getElem?_eq_some_iff.1 HX6.out).1).trans HX6.out
        have hC7 : Kd.C (Kd.int .i64) w1 A x.f3.length x.f3 := Kd.C_below HC6.out hW1
        clear hW1 hb1 Hcf HS6 HB6 HT6 HX6 HC6 hx0 hx1 hx2 hx3 hc0 hc2 hcn hcl Hfin
        have hc0 : w1.cell? ⟨b, 0, none⟩ = some (.pointer (some ⟨s.cb, 0, none⟩)) := (blk_cell hB7.h0 0).trans rfl
        have hc2 : w1.cell? ⟨b + 2, 0, none⟩ = some (.slice (some ⟨db, 0, none⟩) dec.length dec.length) := (blk_cell hB7.h2 0).trans rfl
        have hx3 : w1.cell? ⟨b + 3, 3, none⟩ = some (.slice A x.f3.length c) := (blk_cell hX7 3).trans rfl
        have hcl : w1.cell? ⟨s.cb, 1, none⟩ = some (.slice s.A0 s.l.length s.c0) := (blk_cell hS7.hC 1).trans rfl
        have hcv : w1.cell? ⟨s.cb, 2, none⟩ = some (.int .i64 s.v) := (blk_cell hS7.hC 2).trans rfl
        have hdr := below_drew0 w1
        have hbd := bound9_calls s.A0 s.c0 s.l (some ⟨db, 0, none⟩) dec.length dec A c x.f3 w1.drew (Kd.C_below Ok.out.rl (hS7.below.trans (hdr.mono hS7.below.size))) (Kd.C_below (C_blk hB7.hD (by have := Ok.out.l10; have := Hdl.out; omega)) hdr) (Kd.C_below hC7 hdr) Ok.out.l10 Hdl.out (by have := Ok.out.n8; have := Hk3.out; omega)
         (fun y hy => by rw [Hk3.out]; exact Ok.out.bids y hy) (fun y hy => by
          have := List.any_eq_false.1 Hany.out y hy
          simp only [badPrice, Bool.or_eq_true, decide_eq_true_eq, not_or] at this
          omega)
        have hkeep : ∀ w', Below w1.heap.size w1 w' → w'.cell? ⟨b, 0, none⟩ = some (.pointer (some ⟨s.cb, 0, none⟩)) ∧ w'.cell? ⟨s.cb, 1, none⟩ = some (.slice s.A0 s.l.length s.c0) ∧ w'.cell? ⟨b + 2, 0, none⟩ = some (.slice (some ⟨db, 0, none⟩) dec.length dec.length) ∧ w'.cell? ⟨b + 3, 3, none⟩ = some (.slice A x.f3.length c) ∧ w'.cell? ⟨s.cb, 2, none⟩ = some (.int .i64 s.v) := fun w' hb =>
         ⟨(hb.cell (World.block_lt_of_cell? w1 _ hc0)).trans hc0, (hb.cell (World.block_lt_of_cell? w1 _ hcl)).trans hcl, (hb.cell (World.block_lt_of_cell? w1 _ hc2)).trans hc2, (hb.cell (World.block_lt_of_cell? w1 _ hx3)).trans hx3, (hb.cell (World.block_lt_of_cell? w1 _ hcv)).trans hcv⟩
        have Hkeep := Aside0.mk hkeep
        have Hbd := Aside0.mk hbd
        have HS7 := Aside0.mk hS7
        have HT7 := Aside0.mk hT7
        clear hkeep hbd hS7 hT7 hB7 hX7 hC7 hdr hd1 hd2 hd3 hlb
        go_upto_region 8 with (fail)
        refine wp_region_held_drew (S := fun w' => w'.cell? ⟨b, 0, none⟩ = some (.pointer (some ⟨s.cb, 0, none⟩)) ∧ w'.cell? ⟨s.cb, 1, none⟩ = some (.slice s.A0 s.l.length s.c0) ∧ w'.cell? ⟨b + 2, 0, none⟩ = some (.slice (some ⟨db, 0, none⟩) dec.length dec.length) ∧ w'.cell? ⟨b + 3, 3, none⟩ = some (.slice A x.f3.length c) ∧ w'.cell? ⟨s.cb, 2, none⟩ = some (.int .i64 s.v)) (by kernel_rfl) (Hkeep.out w1.drew (below_drew0 w1)) ?_
        intro hS0
        refine wpAnyH_take (i := 0) (v := ?_) rfl (by kernel_rfl) (by kernel_rfl) (by kernel_rfl) (fun _ _ _ h => h) (Or.inl ⟨by rfl, ?_⟩) (by assumption) ?_
        rotate_left
        ·(intro w_ hSw_; (try dsimp only at hSw_); go_simp; try with_reducible rfl)
        try simp only [Act.put, List.getElem_toArray, List.getElem_cons_zero, List.getElem_cons_succ, List.setIfInBounds_toArray, List.set_cons_zero, List.set_cons_succ]
        refine wpAnyH_take (i := 1) (v := ?_) rfl (by kernel_rfl) (by kernel_rfl) (by kernel_rfl) (fun _ _ _ h => h) (Or.inl ⟨by rfl, ?_⟩) (by assumption) ?_
        rotate_left
        ·(intro w_ hSw_; (try dsimp only at hSw_); go_simp; try with_reducible rfl)
        try simp only [Act.put, List.getElem_toArray, List.getElem_cons_zero, List.getElem_cons_succ, List.setIfInBounds_toArray, List.set_cons_zero, List.set_cons_succ]
        refine wpAnyH_take (i := 2) (v := ?_) rfl (by kernel_rfl) (by kernel_rfl) (by kernel_rfl) (fun _ _ _ h => h) (Or.inl ⟨by rfl, ?_⟩) (by assumption) ?_
        rotate_left
        ·(intro w_ hSw_; (try dsimp only at hSw_); go_simp; try with_reducible rfl)
        try simp only [Act.put, List.getElem_toArray, List.getElem_cons_zero, List.getElem_cons_succ, List.setIfInBounds_toArray, List.set_cons_zero, List.set_cons_succ]
        refine wpAnyH_take (i := 3) (v := ?_) rfl (by kernel_rfl) (by kernel_rfl) (by kernel_rfl) (fun _ _ _ h => h) (Or.inl ⟨by rfl, ?_⟩) (by assumption) ?_
        rotate_left
        ·(intro w_ hSw_; (try dsimp only at hSw_); go_simp; try with_reducible rfl)
        try simp only [Act.put, List.getElem_toArray, List.getElem_cons_zero, List.getElem_cons_succ, List.setIfInBounds_toArray, List.set_cons_zero, List.set_cons_succ]
        refine wpAnyH_take (i := 4) (v := ?_) rfl (by kernel_rfl) (by kernel_rfl) (by kernel_rfl) (fun _ _ _ h => h) (Or.inl ⟨by rfl, ?_⟩) (by assumption) ?_
        rotate_left
        ·(intro w_ hSw_; (try dsimp only at hSw_); go_simp; try with_reducible rfl)
        try simp only [Act.put, List.getElem_toArray, List.getElem_cons_zero, List.getElem_cons_succ, List.setIfInBounds_toArray, List.set_cons_zero, List.set_cons_succ]
        refine wpAnyH_take (i := 5) (v := ?_) rfl (by kernel_rfl) (by kernel_rfl) (by kernel_rfl) (fun _ _ _ h => h) (Or.inl ⟨by rfl, ?_⟩) (by assumption) ?_
        rotate_left
        ·(intro w_ hSw_; (try dsimp only at hSw_); go_simp; try with_reducible rfl)
        try simp only [Act.put, List.getElem_toArray, List.getElem_cons_zero, List.getElem_cons_succ, List.setIfInBounds_toArray, List.set_cons_zero, List.set_cons_succ]
        refine wpAnyH_take (i := 6) (v := ?_) rfl (by kernel_rfl) (by kernel_rfl) (by kernel_rfl) (fun _ _ _ h => h) (Or.inl ⟨by rfl, ?_⟩) (by assumption) ?_
        rotate_left
        ·(intro w_ hSw_; (try dsimp only at hSw_); go_simp; try with_reducible rfl)
        try simp only [Act.put, List.getElem_toArray, List.getElem_cons_zero, List.getElem_cons_succ, List.setIfInBounds_toArray, List.set_cons_zero, List.set_cons_succ]
        refine wpAnyH_take (i := 8) (v := ?_) rfl (by kernel_rfl) (by kernel_rfl) (by kernel_rfl) (fun _ _ _ h => h) (Or.inl ⟨by rfl, ?_⟩) (by assumption) ?_
        rotate_left
        ·(intro w_ hSw_; (try dsimp only at hSw_); go_simp; try with_reducible rfl)
        try simp only [Act.put, List.getElem_toArray, List.getElem_cons_zero, List.getElem_cons_succ, List.setIfInBounds_toArray, List.set_cons_zero, List.set_cons_succ]
        refine wpAnyH_take (i := 9) (v := ?_) rfl (by kernel_rfl) (by kernel_rfl) (by kernel_rfl) (fun _ _ _ h => h) (Or.inl ⟨by rfl, ?_⟩) (by assumption) ?_
        rotate_left
        ·(intro w_ hSw_; (try dsimp only at hSw_); go_simp; try with_reducible rfl)
        try simp only [Act.put, List.getElem_toArray, List.getElem_cons_zero, List.getElem_cons_succ, List.setIfInBounds_toArray, List.set_cons_zero, List.set_cons_succ]
        refine wpAnyH_take (i := 10) (v := ?_) rfl (by kernel_rfl) (by kernel_rfl) (by kernel_rfl) (fun _ _ _ h => h) (Or.inl ⟨by rfl, ?_⟩) (by assumption) ?_
        rotate_left
        ·(intro w_ hSw_; (try dsimp only at hSw_); go_simp; try with_reducible rfl)
        try simp only [Act.put, List.getElem_toArray, List.getElem_cons_zero, List.getElem_cons_succ, List.setIfInBounds_toArray, List.set_cons_zero, List.set_cons_succ]
        refine wpAnyH_take (i := 11) (v := ?_) rfl (by kernel_rfl) (by kernel_rfl) (by kernel_rfl) (fun _ _ _ h => h) (Or.inl ⟨by rfl, ?_⟩) (by assumption) ?_
        rotate_left
        ·(intro w_ hSw_; (try dsimp only at hSw_); go_simp; try with_reducible rfl)
        try simp only [Act.put, List.getElem_toArray, List.getElem_cons_zero, List.getElem_cons_succ, List.setIfInBounds_toArray, List.set_cons_zero, List.set_cons_succ]
        refine wpAnyH_take (i := 12) (v := ?_) rfl (by kernel_rfl) (by kernel_rfl) (by kernel_rfl) (fun _ _ _ h => h) (Or.inl ⟨by rfl, ?_⟩) (by assumption) ?_
        rotate_left
        ·(intro w_ hSw_; (try dsimp only at hSw_); go_simp; try with_reducible rfl)
        try simp only [Act.put, List.getElem_toArray, List.getElem_cons_zero, List.getElem_cons_succ, List.setIfInBounds_toArray, List.set_cons_zero, List.set_cons_succ]
        refine wpAnyH_ready (rs := [7]) (by kernel_rfl) (by simp) ?_
        refine AllReadyH.cons rfl (fun K hK => ?_) AllReadyH.nil
        go_simp
        refine Hbd.out.mono ?_
        rintro e w2 ⟨rfl, hb2⟩
        refine hK.out _ _ (Hkeep.out w2 ⟨hb2.os, hb2.tape, hb2.output, hb2.size, hb2.block⟩) (fun hSn_ => ?_)
        clear hK K
        try simp only [Act.put, List.getElem_toArray, List.getElem_cons_zero, List.getElem_cons_succ, List.setIfInBounds_toArray, List.set_cons_zero, List.set_cons_succ]
        refine wpAnyH_take (i := 13) (v := ?_) rfl (by kernel_rfl) (by kernel_rfl) (by kernel_rfl) (fun _ _ _ h => h) (Or.inl ⟨by rfl, ?_⟩) (by assumption) ?_
        rotate_left
        ·(intro w_ hSw_; (try dsimp only at hSw_); go_simp; try with_reducible rfl)
        try simp only [Act.put, List.getElem_toArray, List.getElem_cons_zero, List.getElem_cons_succ, List.setIfInBounds_toArray, List.set_cons_zero, List.set_cons_succ]
        refine wpAnyH_take (i := 14) (v := ?_) rfl (by kernel_rfl) (by kernel_rfl) (by kernel_rfl) (fun _ _ _ h => h) (Or.inl ⟨by rfl, ?_⟩) (by assumption) ?_
        rotate_left
        ·(intro w_ hSw_; (try dsimp only at hSw_); go_simp; try with_reducible rfl)
        try simp only [Act.put, List.getElem_toArray, List.getElem_cons_zero, List.getElem_cons_succ, List.setIfInBounds_toArray, List.set_cons_zero, List.set_cons_succ]
        refine wpAnyH_done (by kernel_rfl) ?_ _
        have hW2 : Below w1.heap.size w1 w2 := ⟨hb2.os, hb2.tape, hb2.output, hb2.size, hb2.block⟩
        go_wp2
        go_ret
        exact ⟨by rw [Hres.out, Hlp.out, Hany.out]; rfl, by rw [Hres.out]; exact ⟨HS7.out.step hW2, HT7.out.trans (Stay.of_below hW2)⟩⟩
       ·rw [hany] at Hcf
        have Hany := Aside0.mk hany
        clear hany
        go_upto_region 6 with (fail)
        go_still_tail 21, (by kernel_rfl)
        change wpList _ _ _ _ _ W6.drew
        go_wp2_with fail
        refine Hcf.out.mono ?_
        rintro e w1 ⟨rfl, hb1⟩
        have hW1 : Below W6.heap.size W6 w1 := ⟨hb1.os, hb1.tape, hb1.output, hb1.size, hb1.block⟩
        clear hb1 Hcf
        go_wp2
        go_ret
        exact ⟨by rw [Hres.out, Hlp.out, Hany.out]; rfl, by rw [Hres.out]; exact ⟨HS6.out.step hW1, HT6.out.trans (Stay.of_below hW1)⟩⟩
      ·have hd3 : ((x.f3.length : Int) != s.n) = true := by simpa using h3
       have hlp : leafP s.n s.l s.v dec x = false := by unfold leafP; rw [decide_eq_false h3]; simp
       have Hlp := Aside0.mk hlp
       clear hlp h1 h2 h3
       go_upto_region 6 with (fail)
       go_quiet (fail)
       go_wp2
       go_ret
       exact ⟨by rw [Hres.out, Hlp.out]; rfl, by rw [Hres.out]; exact Hfin.out _⟩
     ·have hd2 : (x.f2 != 0) = true := by simpa using h2
      have hlp : leafP s.n s.l s.v dec x = false := by unfold leafP; rw [decide_eq_false h2]; simp
      have Hlp := Aside0.mk hlp
      clear hlp h1 h2
      go_upto_region 6 with (fail)
      go_quiet (fail)
      go_wp2
      go_ret
      exact ⟨by rw [Hres.out, Hlp.out]; rfl, by rw [Hres.out]; exact Hfin.out _⟩
    ·have hd1 : (x.f1 != 0) = true := by simpa using h1
     have hlp : leafP s.n s.l s.v dec x = false := by unfold leafP; rw [decide_eq_false h1]; simp
     have Hlp := Aside0.mk hlp
     clear hlp h1
     go_upto_region 6 with (fail)
     go_quiet (fail)
     go_wp2
     go_ret
     exact ⟨by rw [Hres.out, Hlp.out]; rfl, by rw [Hres.out]; exact Hfin.out _⟩
   ·have hlb : (x.f0 == -1) = false := by simpa using hlf
    have hun : nodeP s.n s.l s.v s.nodes (f + 1) i dec seen = if x.f0 < 0 ∨ (s.l.length : Int) ≤ x.f0 ∨ possP s.l dec x.f0.toNat = false ∨ 0 < x.f3.length then (false, seen.set i true) else
      bothP (nextP s f i dec x.f0.toNat x.f1 1 (seen.set i true)) (nextP s f i dec x.f0.toNat x.f2 2) := by
     rw [nodeP, if_neg (by rw [Hsn.out]; decide), ← Hx.out, if_neg hlf]
     rfl
    clear hlf
    by_cases hneg : x.f0 < 0
    ·rw [if_pos (.inl hneg)] at hun
     have Hres := Aside0.mk hun
     have hd1 : decide (x.f0 < 0) = true := decide_eq_true hneg
     clear hun hneg
     go_upto_region 9 with (fail)
     go_quiet (fail)
     go_wp2
     go_ret
     exact ⟨by rw [Hres.out]; rfl, by rw [Hres.out]; exact Hfin.out _⟩
    ·have hd1 : decide (x.f0 < 0) = false := decide_eq_false hneg
     by_cases hge : (s.l.length : Int) ≤ x.f0
     ·rw [if_pos (.inr (.inl hge))] at hun
      have Hres := Aside0.mk hun
      have hd2 : decide ((s.l.length : Int) ≤ x.f0) = true := decide_eq_true hge
      clear hun hneg hge
      go_upto_region 9 with (fail)
      go_quiet (fail)
      go_wp2
      go_ret
      exact ⟨by rw [Hres.out]; rfl, by rw [Hres.out]; exact Hfin.out _⟩
     ·have hd2 : decide ((s.l.length : Int) ≤ x.f0) = false := decide_eq_false hge
      have hps := poss_calls s.A0 s.c0 s.l (some ⟨db, 0, none⟩) dec.length dec x.f0.toNat W6.drew (Kd.C_below Ok.out.rl (HS6.out.below.trans ((below_drew0 W6).mono HS6.out.below.size))) (Kd.C_below (C_blk HB6.out.hD (by have := Ok.out.l10; have := Hdl.out; omega)) (below_drew0 W6)) Hdl.out (by have := Ok.out.l10; omega) (by omega)
      rw [show ((x.f0.toNat : Nat) : Int) = x.f0 from by omega] at hps
      have hkeep : ∀ w', Below W6.heap.size W6 w' → w'.cell? ⟨b + 3, 0, none⟩ = some (.int .i64 x.f0) ∧ w'.cell? ⟨b + 3, 3, none⟩ = some (.slice A x.f3.length c) ∧ w'.cell? ⟨b, 0, none⟩ = some (.pointer (some ⟨s.cb, 0, none⟩)) ∧ w'.cell? ⟨s.cb, 1, none⟩ = some (.slice s.A0 s.l.length s.c0) ∧ w'.cell? ⟨b + 2, 0, none⟩ = some (.slice (some ⟨db, 0, none⟩) dec.length dec.length) := fun w' hb =>
       ⟨(hb.cell (World.block_lt_of_cell? W6 _ hx0)).trans hx0, (hb.cell (World.block_lt_of_cell? W6 _ hx3)).trans hx3, (hb.cell (World.block_lt_of_cell? W6 _ hc0)).trans hc0, (hb.cell (World.block_lt_of_cell? W6 _ hcl)).trans hcl, (hb.cell (World.block_lt_of_cell? W6 _ hc2)).trans hc2⟩
      have Hkeep := Aside0.mk hkeep
      have Hps := Aside0.mk hps
      have Hneg := Aside0.mk hneg
      have Hge := Aside0.mk hge
      clear hkeep hps hneg hge
      cases hpo : possP s.l dec x.f0.toNat
      ·rw [if_pos (.inr (.inr (.inl hpo)))] at hun
       rw [hpo] at Hps
       have Hres := Aside0.mk hun
       clear hun hpo
       go_upto_region 9 with (fail)
       go_still_tail 21, (by kernel_rfl)
       change wpList _ _ _ _ _ W6.drew
       go_wp2_with fail
       refine Hps.out.mono ?_
       rintro e w1 ⟨rfl, hb1⟩
       have hW1 : Below W6.heap.size W6 w1 := ⟨hb1.os, hb1.tape, hb1.output, hb1.size, hb1.block⟩
       clear Hkeep hb1
       go_wp2
       go_ret
       exact ⟨by rw [Hres.out]; rfl, by rw [Hres.out]; exact ⟨HS6.out.step hW1, HT6.out.trans (Stay.of_below hW1)⟩⟩
      ·rw [hpo] at Hps
       have Hpo := Aside0.mk hpo
       go_upto_region 9 with (fail)
       go_still_tail 21, (by kernel_rfl)
       change wpList _ _ _ _ _ W6.drew
       go_wp2_with fail
       refine Hps.out.mono ?_
       rintro e w1 ⟨rfl, hb1⟩
       have hW1 : Below W6.heap.size W6 w1 := ⟨hb1.os, hb1.tape, hb1.output, hb1.size, hb1.block⟩
       obtain ⟨h0', h3', _⟩ := Hkeep.out w1 hW1
       have hS7 := HS6.out.step hW1
       have hB7 := HB6.out.stay (Stay.of_below hW1)
       have hT7 := HT6.out.trans (Stay.of_below hW1)
       have hX7 : XBx x A c b w1 := (hW1.block _ (Array.getElem?_eq_some_iff.1 HX6.out).1).trans HX6.out
       have hx1' : w1.cell? ⟨b + 3, 1, none⟩ = some (.int .i64 x.f1) := (blk_cell hX7 1).trans rfl
       have HS7 := Aside0.mk hS7
       have HB7 := Aside0.mk hB7
       have HT7 := Aside0.mk hT7
       have HX7 := Aside0.mk hX7
       have hbl : s.sb < b := hB7.hb
       clear hS7 hB7 hT7 hX7 hW1 hb1 Hkeep Hps HS6 HB6 HT6 HX6 hx0 hx1 hx2 hx3 hc0 hc2 hcn hcl Hfin
       by_cases hlen : 0 < x.f3.length
       ·rw [if_pos (.inr (.inr (.inr hlen)))] at hun
        have Hres := Aside0.mk hun
        clear hun hpo
        go_wp2
        go_ret
        exact ⟨by rw [Hres.out]; rfl, by rw [Hres.out]; exact ⟨HS7.out, HT7.out⟩⟩
       ·have hno : ¬ (x.f0 < 0 ∨ (s.l.length : Int) ≤ x.f0 ∨ possP s.l dec x.f0.toNat = false ∨ 0 < x.f3.length) := by
         rintro (h | h | h | h)
         ·have := Hneg.out; omega
         ·have := Hge.out; omega
         ·rw [hpo] at h; cases h
         ·exact hlen h
        rw [if_neg hno] at hun
        have hln : x.f3.length = 0 := by omega
        rw [hln] at h3'
        have hnx := fun k d sn W' (hsn' : sn.length = s.nodes.length) hS hB hX => next_calls s Ok.out f Ih.out i dec db b x A c sn W' Hdl.out hsn' hS hB hX (by have := Hneg.out; omega) (by have := Hge.out; omega) (by omega) k d
        have hn1 := hnx x.f1 1 (seen.set i true) w1 (by rw [List.length_set]; exact Hsl.out) HS7.out HB7.out HX7.out
        have Hnx := Aside0.mk hnx
        have Hn1 := Aside0.mk hn1
        have Hun := Aside0.mk hun
        clear hnx hn1 hun hpo hlen hln
        go_wp2_with fail
        refine Hn1.out.mono ?_
        rintro e w2 ⟨rfl, hS8, hT8⟩
        have hB8 := HB7.out.stay hT8
        have hX8 : XBx x A c b w2 := hT8.at_ HX7.out (by omega)
        have hT9 := HT7.out.trans hT8
        have hx2' : w2.cell? ⟨b + 3, 2, none⟩ = some (.int .i64 x.f2) := (blk_cell hX8 2).trans rfl
        cases hr1 : (nextP s f i dec x.f0.toNat x.f1 1 (seen.set i true)).1
        ·have hres : nodeP s.n s.l s.v s.nodes (f + 1) i dec seen = (false, (nextP s f i dec x.f0.toNat x.f1 1 (seen.set i true)).2) := by
          rw [Hun.out, bothP, hr1]
          simp only [Bool.false_eq_true, if_false]
          rw [← hr1]
         have Hres := Aside0.mk hres
         have HS8 := Aside0.mk hS8
         have HT9 := Aside0.mk hT9
         clear hres hS8 hT8 hB8 hX8 hT9 hr1 Hn1
         go_wp2
         go_ret
         exact ⟨by rw [Hres.out]; rfl, by rw [Hres.out]; exact ⟨HS8.out, HT9.out⟩⟩
        ·have hn2 := Hnx.out x.f2 2 (nextP s f i dec x.f0.toNat x.f1 1 (seen.set i true)).2 w2 (by unfold nextP; rw [stepP_len _ (nodeP_len s.n s.l s.v s.nodes f), List.length_set]; exact Hsl.out) hS8 hB8 hX8
         have hres : nodeP s.n s.l s.v s.nodes (f + 1) i dec seen = nextP s f i dec x.f0.toNat x.f2 2 (nextP s f i dec x.f0.toNat x.f1 1 (seen.set i true)).2 := by
          rw [Hun.out, bothP, hr1, if_pos rfl]
         have Hres := Aside0.mk hres
         have Hn2 := Aside0.mk hn2
         have HT9 := Aside0.mk hT9
         clear hres hn2 hS8 hT8 hB8 hX8 hT9 hr1 Hn1 Hnx
         go_wp2_with fail
         refine Hn2.out.mono ?_
         rintro e w3 ⟨rfl, hS9, hT10⟩
         go_wp2
         go_ret
         exact ⟨by rw [Hres.out]; rfl, by rw [Hres.out]; exact ⟨hS9, HT9.out.trans hT10⟩⟩
  ·rw [hsn] at hsi
   have hres : nodeP s.n s.l s.v s.nodes (f + 1) i dec seen = (false, seen) := by unfold nodeP; rw [if_pos hsn]
   have Hres := Aside0.mk hres
   have hS' : ∀ nq, NSt s (W3.drewN nq) seen ∧ Stay s.sb W (W3.drewN nq) := fun nq => ⟨hS3.step (pw_below_drewN (Below.refl _ W3) nq), hT3.trans (Stay.of_below (pw_below_drewN (Below.refl _ W3) nq))⟩
   have HS' := Aside0.mk hS'
   clear hS' hS3 hB3 hT3 hres hsn
   go_quiet (fail)
   go_wp2
   go_ret
   exact ⟨by rw [Hres.out]; rfl, by rw [Hres.out]; exact HS'.out _⟩
end Go.Proofs.Ytdamibblnjeooaa.H

/- slices.Contains over bools, of 'false'. -/
namespace Go.Proofs.Ytdamibblnjeooaa.H
open Go.RowKit Go.Proofs.YtdamibblnjeooaaW.PrintWords Go.Proofs.YtdamibblnjeooaaW.PrintLast Go.Proofs.YtdamibblnjeooaaW.PrintMore
set_option linter.unusedVariables false
set_option linter.unusedSimpArgs false
/-- The place of the first 'false', or -1. -/
def idxF : List Bool → Int
 | [] => -1
 | b :: s => if b = false then 0 else if idxF s < 0 then -1 else idxF s + 1
theorem idxF_ge : ∀ s, decide (idxF s ≥ 0) = !s.all id
 | [] => rfl
 | b :: s => by
  have ih := idxF_ge s
  cases b
  ·simp [idxF]
  ·simp only [idxF, Bool.true_eq_false, if_false, List.all_cons, id, Bool.true_and]
   rw [← ih]
   by_cases h : idxF s < 0
   ·rw [if_pos h]; rw [decide_eq_false (show ¬ (-1 : Int) ≥ 0 by omega), decide_eq_false (by omega)]
   ·rw [if_neg h]; rw [decide_eq_true (show idxF s + 1 ≥ 0 by omega), decide_eq_true (by omega)]
theorem idxF_at : ∀ (s : List Bool) (k : Nat), k < s.length → (∀ j, j < k → s.getD j true = true) → s.getD k true = false → idxF s = k
 | [], _, h, _, _ => by simp at h
 | b :: s, 0, _, _, h => by
  have : b = false := by simpa using h
  subst this
  simp [idxF]
 | b :: s, k + 1, hk, hall, h => by
  have h0 : b = true := by simpa using hall 0 (by omega)
  subst h0
  have ih := idxF_at s k (by simpa using hk) (fun j hj => by simpa using hall (j + 1) (by omega)) (by simpa using h)
  simp only [idxF, Bool.true_eq_false, if_false, ih]
  rw [if_neg (by omega)]; omega
theorem idxF_none : ∀ (s : List Bool), (∀ j, j < s.length → s.getD j true = true) → idxF s = -1
 | [], _ => rfl
 | b :: s, h => by
  have h0 : b = true := by simpa using h 0 (by simp)
  subst h0
  have ih := idxF_none s (fun j hj => by simpa using h (j + 1) (by simpa using hj))
  simp [idxF, ih]
set_option maxHeartbeats 1000000 in
set_option maxRecDepth 100000 in
theorem indexB_calls (sb : Nat) (seen : List Bool) (c : Nat) (w : World) (hs : w.heap[sb]? = some (.cells (bools seen).toArray 4 (0, 0))) (hl : seen.length ≤ 1000000) :
  Calls Try.prog 74 #[.slice (some ⟨sb, 0, none⟩) seen.length c, .bool false] w (fun e w' => e = .returned (.int .i64 (idxF seen)) ∧ Below w.heap.size w w') := by
 have hadd : ∀ j, (⟨sb, 0, none⟩ : Addr).add j = ⟨sb, j, none⟩ := fun j => by unfold Addr.add; split <;> simp_all
 have Hs := Aside0.mk hs
 have Hadd := Aside0.mk hadd
 clear hs hadd
 go_enter Try.func74, Try.ntmps74
 go_wp2
 go_loopw [8] (fun i wr => ∃ k : Nat, k ≤ seen.length ∧ i = .int .i64 k ∧ Aside0 (∀ j, j < k → seen.getD j true = true) ∧ wr = w) (fun i _ => seen.length - (intOf i).toNat)
 case atStart => exact ⟨0, by omega, rfl, ⟨fun j hj => by omega⟩, rfl⟩
 case round =>
  obtain ⟨k, hk, rfl, hall, rfl⟩ := hrel
  by_cases hlt : k < seen.length
  ·have hcell : wr.cell? ⟨sb, k, none⟩ = some (.bool (seen.getD k true)) := (blk_cell Hs.out k).trans (by simp [bools, List.getElem?_eq_getElem hlt])
   cases hb : seen.getD k true
   ·rw [hb] at hcell
    have hres := idxF_at seen k hlt hall.out hb
    have Hres := Aside0.mk hres
    clear hb hres
    go_wp2
    go_ret
    exact ⟨by rw [Hres.out]; rfl, Below.refl _ _⟩
   ·rw [hb] at hcell
    have hall2 : ∀ j, j < k + 1 → seen.getD j true = true := fun j hj => by
     rcases Nat.lt_succ_iff_lt_or_eq.1 hj with h | rfl
     ·exact hall.out j h
     ·exact hb
    have Hall2 := Aside0.mk hall2
    clear hb hall2
    go_wp2
    go_roundw
    case rel => exact ⟨k + 1, by omega, by go_num, Hall2, by first | trivial | rfl⟩
    case measure => simp [intOf]; omega
  ·obtain rfl : k = seen.length := by omega
   have hres := idxF_none seen hall.out
   have Hres := Aside0.mk hres
   clear hres
   go_wp2
   go_ret
   exact ⟨by rw [Hres.out]; rfl, Below.refl _ _⟩
set_option maxHeartbeats 1000000 in
set_option maxRecDepth 100000 in
theorem containsB_calls (sb : Nat) (seen : List Bool) (c : Nat) (w : World) (hs : w.heap[sb]? = some (.cells (bools seen).toArray 4 (0, 0))) (hl : seen.length ≤ 1000000) :
  Calls Try.prog 49 #[.slice (some ⟨sb, 0, none⟩) seen.length c, .bool false] w (fun e w' => e = .returned (.bool (!seen.all id)) ∧ Below w.heap.size w w') := by
 have H := Aside0.mk (indexB_calls sb seen c w hs hl)
 have hge := idxF_ge seen
 have Hge := Aside0.mk hge
 clear hge hs
 go_enter Try.func49, Try.ntmps49
 go_wp2_with fail
 refine H.out.mono ?_
 rintro e w' ⟨rfl, hb⟩
 go_wp2
 go_ret
 exact ⟨by rw [← Hge.out]; rfl, hb⟩
end Go.Proofs.Ytdamibblnjeooaa.H

/- bids.Feasible. -/
namespace Go.Proofs.Ytdamibblnjeooaa.H
open Go.RowKit Go.Proofs.YtdamibblnjeooaaW.PrintWords Go.Proofs.YtdamibblnjeooaaW.PrintLast Go.Proofs.YtdamibblnjeooaaW.PrintMore
set_option linter.unusedVariables false
set_option linter.unusedSimpArgs false
set_option maxHeartbeats 1000000 in
set_option maxRecDepth 100000 in
/-- The closure that asks whether bid x conflicts with bid i. -/
theorem feasible1_calls (x i : Int) (W : World) (L I : Nat) (A : Option Addr) (c : Nat) (l : List S82) (hl : W.cell? ⟨L, 0, none⟩ = some (.slice A l.length c)) (hi : W.cell? ⟨I, 0, none⟩ = some (.int .i64 i))
  (hr : Kd.C k82 W A l.length l) (hx0 : 0 ≤ x) (hx : x < l.length) (hi0 : 0 ≤ i) (hil : i < l.length) :
  Calls Try.prog 66 #[.int .i64 x, .pointer (some ⟨L, 0, none⟩), .pointer (some ⟨I, 0, none⟩)] W (fun e W' => e = .returned (.bool (conf (rd_T82 l x) (rd_T82 l i))) ∧ Below W.heap.size W W') := by
 obtain ⟨ad, A2, c2, e, h0, h1, h2, hl2, hk2⟩ := at_T82 hr x hx0 (by omega)
 obtain ⟨ad', A3, c3, e', h0', h1', h2', hl3, hk3⟩ := at_T82 hr i hi0 (by omega)
 rw [e] at e'; cases e'; subst e
 have Hk2 := Aside0.mk hk2
 have Hk3 := Aside0.mk hk3
 have Hl2 := Aside0.mk hl2
 have Hl3 := Aside0.mk hl3
 clear hk2 hk3 hl2 hl3 hr
 go_enter Try.func66, Try.ntmps66
 go_wp2
 go_still_tail 8, (by kernel_rfl)
 change wpList _ _ _ _ _ W.drew
 go_wp2_with fail
 refine (bids_Conflict.calls _ _ _ _ _ _ _ _ _ _ _ W.drew (Kd.C_drew Hk2.out) Hl2.out (Kd.C_drew Hk3.out) Hl3.out rfl).mono ?_
 rintro e w1 ⟨rfl, hb1⟩
 obtain ⟨r0, hr0⟩ : ∃ r0, conf ⟨(rd_T82 l x).f0, (rd_T82 l x).f1, (rd_T82 l x).f2⟩ ⟨(rd_T82 l i).f0, (rd_T82 l i).f1, (rd_T82 l i).f2⟩ = r0 := ⟨_, rfl⟩
 rw [hr0]
 have Hr0 := Aside0.mk hr0
 clear hr0
 go_wp2
 go_ret
 exact ⟨by rw [← Hr0.out]; rfl, ⟨hb1.os, hb1.tape, hb1.output, hb1.size, hb1.block⟩⟩
theorem enter_feasible1 : ∀ args w, (callFunc 66 args).run Try.prog w = .ok (.enter 66 args) w := fun args w => by kernel_rfl
set_option maxHeartbeats 2000000 in
set_option maxRecDepth 100000 in
theorem bids_Feasible.calls (A0 : Option Addr) (c0 : Nat) (l0 : List S82) (A1 : Option Addr) (c1 : Nat) (l1 : List Int) (r : Bool) (w : World) (hr0 : Kd.C k82 w A0 l0.length l0) (hc0 : l0.length ≤ c0) (hr1 : Kd.C (Kd.int .i64) w A1 l1.length l1) (hc1 : l1.length ≤ c1) (h : bids_Feasible.f l0 l1 = some r) :
  Calls Try.prog 41 #[.slice A0 l0.length c0, .slice A1 l1.length c1] w fun e w' => e = .returned (.bool r) ∧ Below w.heap.size w w' := by
 obtain rfl : feasP l0 [] l1 = r := Option.some.inj h
 clear h
 have hl0 : l0.length ≤ 9223372036854775807 := Kd.C_max hr0
 have hl1 : l1.length ≤ 9223372036854775807 := Kd.C_max hr1
 have Hr0 := Aside0.mk hr0
 have Hr1 := Aside0.mk hr1
 clear hr0 hr1
 go_enter Try.func41, Try.ntmps41
 go_wp2
 have hB0 : Below w.heap.size w (w.alloc (.cells #[.slice A0 l0.length c0] 40)) := (Below.refl _ w).alloc (Nat.le_refl _) _
 have hL0 := heap_alloc_new w (.cells #[.slice A0 l0.length c0] 40)
 go_loopw [9] (fun i wr => ∃ m : Nat, m ≤ l1.length ∧ i = .int .i64 m ∧ Aside0 (feasP l0 [] l1 = feasP l0 (l1.take m) (l1.drop m)) ∧ Aside0 (∀ v ∈ l1.take m, 0 ≤ v ∧ v < l0.length) ∧ Aside0 (wr.heap[w.heap.size]? = some (.cells #[.slice A0 l0.length c0] 40)) ∧ Aside0 (Below w.heap.size w wr)) (fun i _ => l1.length - (intOf i).toNat)
 case atStart => exact ⟨0, by omega, rfl, ⟨by simp⟩, ⟨by simp⟩, ⟨hL0⟩, ⟨hB0⟩⟩
 case round =>
  clear hB0 hL0
  obtain ⟨m, hm, rfl, hF, hV, hL, hB⟩ := hrel
  by_cases hlt : m < l1.length
  ·obtain ⟨ad, e, hcell⟩ := Kd.at_int (Kd.C_below Hr1.out hB.out) m (by omega) (by omega)
   subst e
   rw [Int.toNat_natCast] at hcell
   have hd : l1.drop m = rd l1 m :: l1.drop (m + 1) := by
    rw [List.drop_eq_getElem_cons hlt]
    simp [rd, List.getD, hlt]
   have hts : l1.take (m + 1) = l1.take m ++ [rd l1 m] := by rw [List.take_succ_eq_append_getElem hlt]; simp [rd, List.getD, hlt]
   obtain ⟨x, hx⟩ : ∃ x, rd l1 m = x := ⟨_, rfl⟩
   rw [hx] at hd hts hcell
   have Hd := Aside0.mk hd
   have Hts := Aside0.mk hts
   have Hx := Aside0.mk hx
   clear hd hts hx
   go_upto_region 4 with (first | ((with_reducible refine gate_dst (N := 6) rfl ?_); refine box_event ?hg (N := 6) ?hd (cs := #[.int .i64 0]) (t := 3) ?hr ?_; (case hd => rfl); (case hg => rfl); (case hr => first | (go_simp; done) | (go_simp; rfl)); intro gb hg w5 hbox hb5; (have hB5 := hB.out.trans (hb5.mono hB.out.size)); (have hL5 := (hb5.block _ (blk_lt hL.out)).trans hL.out); (have hgl : w.heap.size < gb := by rw [hg]; exact blk_lt hL.out); have HB5 := Aside0.mk hB5; have HL5 := Aside0.mk hL5; have Hbox := Aside0.mk hbox; have Hgl := Aside0.mk hgl; clear hB5 hL5 hb5 hg hgl; (have hcz0 := (blk_cell hbox 0).trans rfl); have hfz0 := blk_frozen hbox 0; clear hbox))
   (try simp only [Act.put, List.setIfInBounds_toArray, List.set_cons_zero, List.set_cons_succ])
   generalize hw6 : World.setCell _ _ _ = w6
   have hbk : w6.heap[gb]? = some (.cells #[.int .i64 x] 3 (0, 0)) := by
    rw [← hw6]
    exact blk_put (cs := #[.int .i64 0]) Hbox.out 0 _ rfl
   have hf6 : ∀ k, k ≠ gb → w6.heap[k]? = w5.heap[k]? := fun k hk => by
    rw [← hw6]
    exact Below.heap_setCell _ ⟨gb, 0, none⟩ _ k hk
   have hB6 : Below w.heap.size w w6 := by
    rw [← hw6]
    exact HB5.out.setCell (p := ⟨gb, 0, none⟩) (Nat.le_of_lt Hgl.out) _
   have hL6 := (hf6 w.heap.size (by have := Hgl.out; omega)).trans HL5.out
   have hcz0 : w6.cell? ⟨gb, 0, none⟩ = some (.int .i64 x) := (blk_cell hbk 0).trans rfl
   have hcL : w6.cell? ⟨w.heap.size, 0, none⟩ = some (.slice A0 l0.length c0) := (blk_cell hL6 0).trans rfl
   have HB6 := Aside0.mk hB6
   have HL6 := Aside0.mk hL6
   clear hw6 hf6 hbk hB6 hL6 Hbox HL5 HB5 hcell hfz0 hB hL
   have hstep := hF.out.trans (by rw [Hd.out])
   have Hstep := Aside0.mk hstep
   clear hF hstep
   by_cases p1 : x < 0
   ·have d1 : decide (x < 0) = true := decide_eq_true p1
    have hres : feasP l0 [] l1 = false := Hstep.out.trans (by simp [feasP, p1])
    have Hres := Aside0.mk hres
    clear hres p1
    go_quiet (fail)
    have hB7 := pw_below_drewN HB6.out nq
    have HB7 := Aside0.mk hB7
    clear hB7
    generalize w6.drewN nq = w7 at *
    go_wp2
    go_ret
    exact ⟨by rw [Hres.out]; rfl, HB7.out⟩
   ·have d1 : decide (x < 0) = false := decide_eq_false p1
    by_cases c2 : (l0.length : Int) ≤ x
    ·have d2 : decide ((l0.length : Int) ≤ x) = true := decide_eq_true c2
     have hres : feasP l0 [] l1 = false := Hstep.out.trans (by simp [feasP, c2])
     have Hres := Aside0.mk hres
     clear hres p1 c2
     go_quiet (fail)
     have hB7 := pw_below_drewN HB6.out nq
     have HB7 := Aside0.mk hB7
     clear hB7
     generalize w6.drewN nq = w7 at *
     go_wp2
     go_ret
     exact ⟨by rw [Hres.out]; rfl, HB7.out⟩
    ·have d2 : decide ((l0.length : Int) ≤ x) = false := decide_eq_false c2
     have hcont : ∀ w7, w7.heap = w6.heap → Below w.heap.size w w7 → True := fun _ _ _ => trivial
     by_cases c3 : m = 0
     ·have d3 : decide ((0 : Int) < (m : Int)) = false := decide_eq_false (by omega)
      have d3' : decide (0 < m) = false := decide_eq_false (by omega)
      have Hc3 := Aside0.mk c3
      clear c3
      go_quiet (fail)
      have hcf := containsFunc_calls 66 #[.pointer (some ⟨w.heap.size, 0, none⟩), .pointer (some ⟨gb, 0, none⟩)] (fun v => conf (rd_T82 l0 v) (rd_T82 l0 x)) (some ad) c1 (l1.take m) (w6.drewN nq) (Kd.C_take (Kd.C_drewN (Kd.C_below Hr1.out HB6.out) nq) hm) enter_feasible1 (fun v W hv hW => feasible1_calls v x W w.heap.size gb A0 c0 l0 ((hW.cell (p := ⟨w.heap.size, 0, none⟩) (World.block_lt_of_cell? w6 _ hcL)).trans hcL) ((hW.cell (p := ⟨gb, 0, none⟩) (World.block_lt_of_cell? w6 _ hcz0)).trans hcz0) (Kd.C_below Hr0.out ((pw_below_drewN HB6.out nq).trans (hW.mono (pw_below_drewN HB6.out nq).size))) (hV.out v hv).1 (hV.out v hv).2 (by omega) (by omega))
      have hlen : (l1.take m).length = m := by rw [List.length_take]; omega
      rw [hlen] at hcf
      have hnext : feasP l0 [] l1 = if (l1.take m).any (fun v => conf (rd_T82 l0 v) (rd_T82 l0 x)) then false else feasP l0 (l1.take (m + 1)) (l1.drop (m + 1)) := by
       rw [Hstep.out, Hts.out]
       have hlast : (l1.take m).getLast? = none := by rw [Hc3.out]; rfl
       simp only [feasP, hlast]
       rw [if_neg (by simp [p1, c2])]
       rfl
      have hv' : ∀ v ∈ l1.take (m + 1), 0 ≤ v ∧ v < l0.length := by
       rw [Hts.out]
       intro v hv
       rcases List.mem_append.1 hv with h | h
       ·exact hV.out v h
       ·rw [List.mem_singleton] at h; subst h; omega
      have hB7 := pw_below_drewN HB6.out nq
      have hL7 : (w6.drewN nq).heap[w.heap.size]? = some (.cells #[.slice A0 l0.length c0] 40) := HL6.out
      have Hcf := Aside0.mk hcf
      have Hnext := Aside0.mk hnext
      have Hv' := Aside0.mk hv'
      have HB7 := Aside0.mk hB7
      have HL7 := Aside0.mk hL7
      have hmc : m ≤ c1 := by omega
      have hmc' : (m : Int) ≤ (c1 : Int) := by omega
      clear hcf hnext hv' hB7 hL7 hlen Hstep Hd Hts HB6 HL6 hcz0 hcL d1 d2 p1 c2 d3 d3'
      generalize w6.drewN nq = w7 at *
      cases hany : (l1.take m).any (fun v => conf (rd_T82 l0 v) (rd_T82 l0 x))
      all_goals
       rw [hany] at Hcf Hnext
       clear hany
       go_wp2_with fail
       refine Hcf.out.mono ?_
       rintro e w8 ⟨rfl, hb8⟩
       have HB8 := Aside0.mk (HB7.out.trans (hb8.mono HB7.out.size))
       have HL8 := Aside0.mk ((hb8.block _ (blk_lt HL7.out)).trans HL7.out)
       clear hb8 Hcf HB7 HL7
       go_wp2
      ·go_roundw
       case rel => exact ⟨m + 1, by omega, by go_num, ⟨by rw [Hnext.out]; rfl⟩, Hv', ⟨HL8.out⟩, ⟨HB8.out⟩⟩
       case measure => simp [intOf]; omega
      ·go_ret
       exact ⟨by rw [Hnext.out]; rfl, HB8.out⟩
     ·have d3 : decide ((0 : Int) < (m : Int)) = true := decide_eq_true (by omega)
      have d3' : decide (0 < m) = true := decide_eq_true (by omega)
      obtain ⟨q, hq⟩ : ∃ q : Int, (m : Int) - 1 = q := ⟨_, rfl⟩
      have hw1 : IntKind.i64.wrap ((m : Int) - 1) = q := by rw [hq]; exact IntWalk.i64_in _ (by omega)
      have hi0 : (0 : Int) ≤ q := by omega
      have hi1 : q < (l1.length : Int) := by omega
      obtain ⟨ad2, e2, hcell2⟩ := Kd.at_int (Kd.C_below Hr1.out HB6.out) q hi0 hi1
      cases e2
      by_cases c4 : x ≤ rd l1 q
      ·have d4 : decide (x ≤ rd l1 q) = true := decide_eq_true c4
       have hres : feasP l0 [] l1 = false := Hstep.out.trans (by
        have hlast : (l1.take m).getLast? = some (rd l1 q) := by
         rw [List.getLast?_eq_getElem?, List.length_take, Nat.min_eq_left hm, List.getElem?_take_of_lt (by omega), List.getElem?_eq_getElem (by omega)]
         have : q.toNat = m - 1 := by omega
         simp [rd, this, List.getD, show m - 1 < l1.length by omega]
        simp [feasP, hlast, c4])
       have Hq := Aside0.mk hq
       clear hq
       have Hres := Aside0.mk hres
       clear hres p1 c2 c4
       go_quiet (fail)
       have hB7 := pw_below_drewN HB6.out nq
       have HB7 := Aside0.mk hB7
       clear hB7
       generalize w6.drewN nq = w7 at *
       go_wp2
       go_ret
       exact ⟨by rw [Hres.out]; rfl, HB7.out⟩
      ·have d4 : decide (x ≤ rd l1 q) = false := decide_eq_false c4
       have Hq := Aside0.mk hq
       have Hhi := Aside0.mk (show q.toNat = m - 1 by omega)
       clear hq
       go_quiet (fail)
       have hcf := containsFunc_calls 66 #[.pointer (some ⟨w.heap.size, 0, none⟩), .pointer (some ⟨gb, 0, none⟩)] (fun v => conf (rd_T82 l0 v) (rd_T82 l0 x)) (some ad) c1 (l1.take m) (w6.drewN nq) (Kd.C_take (Kd.C_drewN (Kd.C_below Hr1.out HB6.out) nq) hm) enter_feasible1 (fun v W hv hW => feasible1_calls v x W w.heap.size gb A0 c0 l0 ((hW.cell (p := ⟨w.heap.size, 0, none⟩) (World.block_lt_of_cell? w6 _ hcL)).trans hcL) ((hW.cell (p := ⟨gb, 0, none⟩) (World.block_lt_of_cell? w6 _ hcz0)).trans hcz0) (Kd.C_below Hr0.out ((pw_below_drewN HB6.out nq).trans (hW.mono (pw_below_drewN HB6.out nq).size))) (hV.out v hv).1 (hV.out v hv).2 (by omega) (by omega))
       have hlen : (l1.take m).length = m := by rw [List.length_take]; omega
       rw [hlen] at hcf
       have hnext : feasP l0 [] l1 = if (l1.take m).any (fun v => conf (rd_T82 l0 v) (rd_T82 l0 x)) then false else feasP l0 (l1.take (m + 1)) (l1.drop (m + 1)) := by
        rw [Hstep.out, Hts.out]
        have hlast : (l1.take m).getLast? = some (rd l1 q) := by
         rw [List.getLast?_eq_getElem?, List.length_take, Nat.min_eq_left hm, List.getElem?_take_of_lt (by omega), List.getElem?_eq_getElem (by omega)]
         simp [rd, Hhi.out, List.getD, show m - 1 < l1.length by omega]
        simp only [feasP, hlast]
        rw [if_neg (by simp [p1, c2, c4])]
        rfl
       have hv' : ∀ v ∈ l1.take (m + 1), 0 ≤ v ∧ v < l0.length := by
        rw [Hts.out]
        intro v hv
        rcases List.mem_append.1 hv with h | h
        ·exact hV.out v h
        ·rw [List.mem_singleton] at h; subst h; omega
       have hB7 := pw_below_drewN HB6.out nq
       have hL7 : (w6.drewN nq).heap[w.heap.size]? = some (.cells #[.slice A0 l0.length c0] 40) := HL6.out
       have Hcf := Aside0.mk hcf
       have Hnext := Aside0.mk hnext
       have Hv' := Aside0.mk hv'
       have HB7 := Aside0.mk hB7
       have HL7 := Aside0.mk hL7
       have hmc : m ≤ c1 := by omega
       have hmc' : (m : Int) ≤ (c1 : Int) := by omega
       clear hcf hnext hv' hB7 hL7 hlen Hstep Hd Hts HB6 HL6 hcz0 hcL hcell2 hw1 hi0 hi1 d4 c4 d1 d2 p1 c2
       generalize w6.drewN nq = w7 at *
       cases hany : (l1.take m).any (fun v => conf (rd_T82 l0 v) (rd_T82 l0 x))
       all_goals
        rw [hany] at Hcf Hnext
        clear hany
        go_wp2_with fail
        refine Hcf.out.mono ?_
        rintro e w8 ⟨rfl, hb8⟩
        have HB8 := Aside0.mk (HB7.out.trans (hb8.mono HB7.out.size))
        have HL8 := Aside0.mk ((hb8.block _ (blk_lt HL7.out)).trans HL7.out)
        clear hb8 Hcf HB7 HL7
        go_wp2
       ·go_roundw
        case rel => exact ⟨m + 1, by omega, by go_num, ⟨by rw [Hnext.out]; rfl⟩, Hv', ⟨HL8.out⟩, ⟨HB8.out⟩⟩
        case measure => simp [intOf]; omega
       ·go_ret
        exact ⟨by rw [Hnext.out]; rfl, HB8.out⟩
  ·obtain rfl : m = l1.length := by omega
   rw [List.drop_length] at hF
   have hF' : feasP l0 [] l1 = true := hF.out.trans (by simp [feasP])
   have HF' := Aside0.mk hF'
   clear hF hF' hlt
   go_wp2
   go_ret
   exact ⟨by rw [HF'.out]; rfl, hB.out⟩
end Go.Proofs.Ytdamibblnjeooaa.H

/- proof.search: the walk. It gives prices in bounds; it says true only if the bound is at most the value, and surely if the bound with prices 0 is. -/
namespace Go.Proofs.Ytdamibblnjeooaa.H
open Go.RowKit Go.Proofs.YtdamibblnjeooaaW.PrintWords Go.Proofs.YtdamibblnjeooaaW.PrintLast Go.Proofs.YtdamibblnjeooaaW.PrintMore
set_option linter.unusedVariables false
set_option linter.unusedSimpArgs false
attribute [local go_sem] max2_int min2_int max_two min_two max_three min_three max_four min_four
theorem bound9_at (A0 : Option Addr) (c0 : Nat) (l : List S82) (A1 : Option Addr) (c1 : Nat) (dec : List Int) (A2 : Option Addr) (c2 n : Nat) (prices : List Int) (w : World)
  (hr0 : Kd.C k82 w A0 l.length l) (hr1 : Kd.C (Kd.int .i64) w A1 dec.length dec) (hr2 : Kd.C (Kd.int .i64) w A2 n prices) (hn : prices.length = n)
  (hl10 : l.length ≤ 10) (hdl : dec.length = l.length) (hpl : n ≤ 8) (hbb : ∀ b ∈ l, (1 ≤ b.f1 ∧ b.f1 ≤ 1099511627776) ∧ b.f2.length ≤ 8 ∧ ∀ k ∈ b.f2, 0 ≤ k ∧ k < (n : Int)) (hpr : ∀ x ∈ prices, 0 ≤ x ∧ x ≤ 1099511627776) :
  Calls Try.prog 72 #[.slice A0 l.length c0, .slice A1 dec.length c1, .slice A2 n c2] w fun e w' => e = .returned (.int .i64 (boundD l dec prices)) ∧ Below w.heap.size w w' := by
 subst hn
 exact bound9_calls A0 c0 l A1 c1 dec A2 c2 prices w hr0 hr1 hr2 hl10 hdl hpl hbb hpr
/-- The prices' row stands in W. -/
structure SSt (w : World) (g cap n : Nat) (ps : List Int) (W : World) : Prop where
 r : (Kd.int .i64).R 3 W w.heap.size (fun _ => True) (.slice (some ⟨g, 0, none⟩) n cap) ps
 b : Below w.heap.size w W
 len : ps.length = n
 rg : ∀ x ∈ ps, 0 ≤ x ∧ x ≤ 1099511627776
 hg : w.heap.size ≤ g
section
variable {w : World} {g cap n : Nat} {ps : List Int} {W W' : World}
theorem SSt.step (h : SSt w g cap n ps W) (hb : Below W.heap.size W W') : SSt w g cap n ps W' :=
 ⟨Kd.R_below h.r hb, h.b.trans (hb.mono h.b.size), h.len, h.rg, h.hg⟩
theorem SSt.put (h : SSt w g cap n ps W) (i : Int) (x : Int) (hx : 0 ≤ x ∧ x ≤ 1099511627776) : SSt w g cap n (ps.set i.toNat x) (W.setCell ⟨g, i.toNat, none⟩ (.int .i64 x)) :=
 ⟨Kd.R_putn h.r i x, below_set h.b h.hg, by rw [List.length_set]; exact h.len, fun y hy => by
  rcases List.mem_or_eq_of_mem_set hy with h1 | h1
  ·exact h.rg y h1
  ·subst h1; exact hx, h.hg⟩
theorem SSt.cell (h : SSt w g cap n ps W) (i : Int) (h0 : 0 ≤ i) (h1 : i < n) : W.cell? ⟨g, i.toNat, none⟩ = some (.int .i64 (rd ps i)) ∧ W.frozen? ⟨g, i.toNat, none⟩ = false := Kd.R_celln 0 h.r i h0 h1
theorem SSt.C (h : SSt w g cap n ps W) : Kd.C (Kd.int .i64) W (some ⟨g, 0, none⟩) n ps := by
 obtain ⟨h1, _, h2⟩ := Kd.R_reads' h.r
 rw [h1]
 exact h2
theorem SSt.lt (h : SSt w g cap n ps W) (hn : 0 < n) : g < W.heap.size := World.block_lt_of_cell? W _ (h.cell 0 (by omega) (by omega)).1
theorem SSt.mem (h : SSt w g cap n ps W) (i : Int) (h0 : 0 ≤ i) (h1 : i < n) : 0 ≤ rd ps i ∧ rd ps i ≤ 1099511627776 := by
 have hl := h.len
 refine h.rg _ ?_
 have : i.toNat < ps.length := by omega
 simp [rd, List.getD, this]
end
theorem set_back (ps : List Int) (i : Nat) (x : Int) (hi : i < ps.length) : (ps.set i x).set i (rd ps (i : Int)) = ps := by
 rw [List.set_set]
 apply List.ext_getElem
 ·simp
 ·intro j h1 h2
  rw [List.getElem_set]
  split
  ·rename_i e; subst e; simp [rd, List.getD, hi]
  ·rfl
set_option maxHeartbeats 8000000 in
set_option maxRecDepth 100000 in
theorem search9_calls (A0 : Option Addr) (c0 : Nat) (l : List S82) (A1 : Option Addr) (c1 : Nat) (dec : List Int) (n : Nat) (value : Int) (w : World)
  (hr0 : Kd.C k82 w A0 l.length l) (hr1 : Kd.C (Kd.int .i64) w A1 dec.length dec)
  (hl10 : l.length ≤ 10) (hdl : dec.length = l.length) (hn1 : 1 ≤ n) (hn8 : n ≤ 8) (hbb : ∀ b ∈ l, (1 ≤ b.f1 ∧ b.f1 ≤ 1099511627776) ∧ b.f2.length ≤ 8 ∧ ∀ k ∈ b.f2, 0 ≤ k ∧ k < (n : Int)) :
  Calls Try.prog 63 #[.int .i64 (n : Int), .slice A0 l.length c0, .slice A1 dec.length c1, .int .i64 value] w fun e w' => ∃ (v : Value) (ps : List Int) (ok : Bool), e = .returned (.tuple #[v, .bool ok]) ∧ ps.length = n ∧ (∀ x ∈ ps, 0 ≤ x ∧ x ≤ 1099511627776) ∧ (ok = true → boundD l dec ps ≤ value) ∧ (boundD l dec (List.replicate n 0) ≤ value → ok = true) ∧ (Kd.int .i64).R 3 w' w.heap.size (fun _ => True) v ps ∧ Below w.heap.size w w' := by
 obtain ⟨Q, hQ⟩ : ∃ Q : Prop, Q = (boundD l dec (List.replicate n 0) ≤ value) := ⟨_, rfl⟩
 have HQ := Aside0.mk hQ
 have Hdl := Aside0.mk hdl
 have Hr0 := Aside0.mk hr0
 have Hr1 := Aside0.mk hr1
 have Hbb := Aside0.mk hbb
 have hbd : ∀ (g cap : Nat) (ps : List Int) (W : World), SSt w g cap n ps W → Calls Try.prog 72 #[.slice A0 l.length c0, .slice A1 dec.length c1, .slice (some ⟨g, 0, none⟩) n cap] W fun e w' => e = .returned (.int .i64 (boundD l dec ps)) ∧ Below W.heap.size W w' := fun g cap ps W hs =>
  bound9_at A0 c0 l A1 c1 dec _ cap n ps W (Kd.C_below hr0 hs.b) (Kd.C_below hr1 hs.b) hs.C hs.len hl10 hdl hn8 hbb hs.rg
 have Hbd := Aside0.mk hbd
 rw [← hQ]
 clear hQ hdl hr0 hr1 hbb hbd
 have hnI : (0 : Int) ≤ (n : Int) := by omega
 go_enter Try.func63, Try.ntmps63
 go_upto_region 2 with ((with_reducible refine gate_dst (N := 23) rfl ?_); refine Kd.R_make (Kd.int .i64) (w0 := w) w.heap.size 3 rfl (N := 23) rfl 22 _ _ rfl (n : Int) rfl rfl Try.underlying22 (.int .i64 0) 8 info3 rfl (by decide) (by omega) (0 : Int) (ok := fun _ => True) (okp := fun _ => True) rfl (fun _ hk => hk) trivial (by omega) (by omega) (Below.refl _ _) (Nat.le_refl _) ?_; intro v1 w1 ho1 hb1 hg1 hat1; clear hg1 hat1; rw [Int.toNat_natCast] at ho1; obtain ⟨g, cap, ev1, hg0, hg1, hgc⟩ := Kd.R_form ho1 (by rw [List.length_replicate]; omega); rw [List.length_replicate] at ev1; subst ev1)
 have hst1 : SSt w g cap n (List.replicate n 0) w1 := ⟨ho1, hb1, List.length_replicate .., fun x hx => by have := List.eq_of_mem_replicate hx; omega, hg0⟩
 have Hst1 := Aside0.mk hst1
 clear hst1 ho1 hb1 hg0 hg1 hgc
 go_wp2
 go_loopw [11, 26] (fun s i wr => ∃ (m : Nat) (st : Int), m ≤ l.length ∧ s = .int .i64 st ∧ i = .int .i64 m ∧ (1 ≤ st ∧ st ≤ 1099511627776) ∧ Aside0 (SSt w g cap n (List.replicate n 0) wr)) (fun _ i _ => l.length - (intOf i).toNat)
 case atStart => exact ⟨0, 1, by omega, rfl, rfl, by omega, Hst1⟩
 case round =>
  clear Hst1
  obtain ⟨m, st, hm, rfl, rfl, hst, Hs⟩ := hrel
  by_cases hlt : m < l.length
  ·have hmI : (m : Int) < (l.length : Int) := by omega
   have t1 : decide ((m : Int) < (l.length : Int)) = true := decide_eq_true hmI
   have t2 : decide (m < l.length) = true := decide_eq_true hlt
   obtain ⟨ad, A3, c3, e, g0, g1, g2, gl2, gk2⟩ := at_T82 (Kd.C_below Hr0.out Hs.out.b) (m : Int) (by omega) (by omega)
   subst e
   rw [Int.toNat_natCast] at g0 g1 g2
   have hbm := (Hbb.out (rd_T82 l (m : Int)) (by simp [rd_T82, List.getD, hlt])).1
   generalize rd_T82 l (m : Int) = bd at *
   have hwm : IntKind.i64.wrap ((m : Int) + 1) = (m : Int) + 1 := IntWalk.i64_in _ (by omega)
   go_upto_region 6 with (fail)
   obtain ⟨w5, hw5⟩ : ∃ w5, w5 = wr.alloc (.cells #[.int .i64 bd.f0, .int .i64 bd.f1, .slice A3 bd.f2.length c3] 82) := ⟨_, rfl⟩
   obtain ⟨gx, hgx⟩ : ∃ gx, gx = wr.heap.size := ⟨_, rfl⟩
   have hy1 : w5.cell? ⟨gx, 1, none⟩ = some (.int .i64 bd.f1) := by rw [hw5, hgx]; exact (blk_cell (heap_alloc_new wr _) 1).trans rfl
   have Hs5 := Aside0.mk (Hs.out.step (show Below wr.heap.size wr w5 by rw [hw5]; exact (Below.refl _ wr).alloc (Nat.le_refl _) _))
   rw [← hw5]
   rw [← hgx]
   clear hw5 hgx Hs g0 g1 g2 gl2 gk2
   go_wp2
   go_roundw
   case rel => exact ⟨m + 1, if st < bd.f1 then bd.f1 else st, by omega, rfl, by go_num, by split <;> omega, Hs5⟩
   case measure => simp [intOf]; omega
  ·obtain rfl : m = l.length := by omega
   have t1 : decide ((l.length : Int) < (l.length : Int)) = false := decide_eq_false (by omega)
   have t2 : decide (l.length < l.length) = false := decide_eq_false (by omega)
   go_wp2
   clear t1 t2 hm
   go_loopw [11] (fun s wr => ∃ (st : Int) (ps : List Int), s = .int .i64 st ∧ (0 ≤ st ∧ st ≤ 1099511627776) ∧ Aside0 (SSt w g cap n ps wr) ∧ Aside0 (Q → ps = List.replicate n 0 ∧ 1 ≤ st)) (fun s _ => (intOf s).toNat)
   case atStart => exact ⟨st, _, rfl, by omega, Hs, ⟨fun _ => ⟨rfl, hst.1⟩⟩⟩
   case round =>
    clear Hs hst
    obtain ⟨st, ps, rfl, hst, Hs, Hq⟩ := hrel
    by_cases hpos : 0 < st
    ·have t1 : decide (0 < st) = true := decide_eq_true hpos
     have hq4 : IntKind.i64.wrap (st + 2) = st + 2 := IntWalk.i64_in _ (by omega)
     have hdv : 0 ≤ Int.tdiv (st + 2) 4 ∧ Int.tdiv (st + 2) 4 < st := by
      rw [Int.tdiv_eq_ediv_of_nonneg (by omega)]
      omega
     have hwd : IntKind.i64.wrap (Int.tdiv (st + 2) 4) = Int.tdiv (st + 2) 4 := IntWalk.i64_in _ (by omega)
     go_wp2
     go_loopw [41] (fun j wr => ∃ (jn : Nat) (ps : List Int), jn ≤ n ∧ j = .int .i64 jn ∧ Aside0 (SSt w g cap n ps wr) ∧ Aside0 (Q → jn = 0 ∧ ps = List.replicate n 0)) (fun j _ => n - (intOf j).toNat)
     case atStart => exact ⟨0, ps, by omega, rfl, Hs, ⟨fun h => ⟨rfl, (Hq.out h).1⟩⟩⟩
     case round =>
      clear Hs Hq
      clear ps
      obtain ⟨jn, ps, hj, rfl, Hs, Hq⟩ := hrel
      by_cases hlj : jn < n
      ·have s1 : decide ((jn : Int) < (n : Int)) = true := decide_eq_true (by omega)
       have s2 : decide (jn < n) = true := decide_eq_true hlj
       have hwj : IntKind.i64.wrap ((jn : Int) + 1) = (jn : Int) + 1 := IntWalk.i64_in _ (by omega)
       have Hcall := Aside0.mk (Hbd.out g cap ps wr Hs.out)
       obtain ⟨b0, hb0⟩ : ∃ b0, b0 = boundD l dec ps := ⟨_, rfl⟩
       rw [← hb0] at Hcall
       go_wp2_with fail
       refine Hcall.out.mono ?_
       rintro e w5 ⟨rfl, hb5⟩
       have Hs5 := Aside0.mk (Hs.out.step hb5)
       clear hb5 Hcall Hs
       by_cases hle : b0 ≤ value
       ·have d1 : decide (b0 ≤ value) = true := decide_eq_true hle
        have Hb0 := Aside0.mk hb0
        have Hle := Aside0.mk hle
        clear hle hb0
        go_wp2
        go_ret2
        exact ⟨_, ps, true, rfl, Hs5.out.len, Hs5.out.rg, fun _ => by rw [← Hb0.out]; exact Hle.out, fun _ => rfl, by have := Hs5.out.r; exact this, Hs5.out.b⟩
       ·have d1 : decide (b0 ≤ value) = false := decide_eq_false hle
        have Hnq : Aside0 (¬ Q) := ⟨fun h => by
         have h1 := (Hq.out h).2
         have h2 := HQ.out
         rw [h2, ← h1, ← hb0] at h
         exact hle h⟩
        clear hle hb0 Hq
        go_wp2
        go_loopw [14, 15, 16, 53] (fun le av uv kv wr => ∃ (lv a u : Int) (kn : Nat), kn ≤ n ∧ le = .int .i64 lv ∧ av = .int .i64 a ∧ uv = .int .i64 u ∧ kv = .int .i64 kn ∧ Aside0 (SSt w g cap n ps wr) ∧ (-1 ≤ a ∧ a < (n : Int)) ∧ Aside0 (0 ≤ a → 0 ≤ rd ps a + u ∧ rd ps a + u ≤ 1099511627776)) (fun _ _ _ kv _ => n - (intOf kv).toNat)
        case atStart => exact ⟨b0, -1, 0, 0, by omega, rfl, rfl, rfl, rfl, Hs5, by omega, ⟨fun h => by omega⟩⟩
        case round =>
         clear Hs5
         obtain ⟨lv, a, u, kn, hk, rfl, rfl, rfl, rfl, Hs, ha, Ha⟩ := hrel
         by_cases hlk : kn < n
         ·have r1 : decide ((kn : Int) < (n : Int)) = true := decide_eq_true (by omega)
          have r2 : decide (kn < n) = true := decide_eq_true hlk
          have hwk : IntKind.i64.wrap ((kn : Int) + 1) = (kn : Int) + 1 := IntWalk.i64_in _ (by omega)
          have hwn : IntKind.i64.wrap (-st) = -st := IntWalk.i64_in _ (by omega)
          go_upto_region 19 with (fail)
          obtain ⟨w6, hw6⟩ : ∃ w6, w6 = wr.alloc (.cells #[.int .i64 st, .int .i64 (-st)] 3) := ⟨_, rfl⟩
          obtain ⟨gd, hgd⟩ : ∃ gd, gd = wr.heap.size := ⟨_, rfl⟩
          have Hs6 := Aside0.mk (Hs.out.step (show Below wr.heap.size wr w6 by rw [hw6]; exact (Below.refl _ wr).alloc (Nat.le_refl _) _))
          have Hbk6 : Aside0 (w6.heap[gd]? = some (.cells #[.int .i64 st, .int .i64 (-st)] 3 (0, 0))) := ⟨by rw [hw6, hgd]; exact heap_alloc_new wr _⟩
          have Hlt : Aside0 (g < gd) := ⟨by rw [hgd]; exact Hs.out.lt (by omega)⟩
          rw [← hw6]
          rw [← hgd]
          clear hw6 hgd Hs
          go_loopw [14, 15, 16, 61] (fun le av uv dv wr => ∃ (lv a u : Int) (dn : Nat), dn ≤ 2 ∧ le = .int .i64 lv ∧ av = .int .i64 a ∧ uv = .int .i64 u ∧ dv = .int .i64 dn ∧ Aside0 (SSt w g cap n ps wr) ∧ Aside0 (wr.heap[gd]? = some (.cells #[.int .i64 st, .int .i64 (-st)] 3 (0, 0))) ∧ (-1 ≤ a ∧ a < (n : Int)) ∧ Aside0 (0 ≤ a → 0 ≤ rd ps a + u ∧ rd ps a + u ≤ 1099511627776)) (fun _ _ _ dv _ => 2 - (intOf dv).toNat)
          case atStart => exact ⟨lv, a, u, 0, by omega, rfl, rfl, rfl, rfl, Hs6, Hbk6, ha, Ha⟩
          case round =>
           clear Hs6 Hbk6 ha Ha
           obtain ⟨lv, a, u, dn, hdn, rfl, rfl, rfl, rfl, Hs, Hbk, ha, Ha⟩ := hrel
           by_cases hld : dn < 2
           ·have q1 : decide ((dn : Int) < 2) = true := decide_eq_true (by omega)
            have q2 : decide (dn < 2) = true := decide_eq_true hld
            have q3 : (dn : Int) < 2 := by omega
            have hwd1 : IntKind.i64.wrap ((dn : Int) + 1) = (dn : Int) + 1 := IntWalk.i64_in _ (by omega)
            obtain ⟨d, hd, hcd⟩ : ∃ d, (d = st ∨ d = -st) ∧ wr.cell? ⟨gd, dn, none⟩ = some (.int .i64 d) := by
             rcases (by omega : dn = 0 ∨ dn = 1) with rfl | rfl
             ·exact ⟨st, .inl rfl, (blk_cell Hbk.out 0).trans rfl⟩
             ·exact ⟨-st, .inr rfl, (blk_cell Hbk.out 1).trans rfl⟩
            obtain ⟨hcv, hcf⟩ := Hs.out.cell (kn : Int) (by omega) (by omega)
            have hx := Hs.out.mem (kn : Int) (by omega) (by omega)
            rw [Int.toNat_natCast] at hcv hcf
            obtain ⟨x, hxe⟩ : ∃ x, x = rd ps (kn : Int) := ⟨_, rfl⟩
            have Hlen := Aside0.mk Hs.out.len
            rw [← hxe] at hcv hx
            have Hx := Aside0.mk hxe
            have hkI : (kn : Int) < (n : Int) := by omega
            have hwp : IntKind.i64.wrap (x + d) = x + d := IntWalk.i64_in _ (by omega)
            clear hxe
            by_cases p0 : 0 ≤ x + d
            ·have e0 : decide (0 ≤ x + d) = true := decide_eq_true p0
             by_cases p1 : x + d ≤ 1099511627776
             ·have e1 : decide (x + d ≤ 1099511627776) = true := decide_eq_true p1
              go_upto_region 24 with (fail)
              obtain ⟨w7, hw7⟩ : ∃ w7, w7 = wr.setCell ⟨g, kn, none⟩ (.int .i64 (x + d)) := ⟨_, rfl⟩
              have Hs7 : Aside0 (SSt w g cap n (ps.set kn (x + d)) w7) := ⟨by rw [hw7]; have h1 := Hs.out.put (kn : Int) (x + d) ⟨p0, p1⟩; rw [Int.toNat_natCast] at h1; exact h1⟩
              have Hbk7 := Aside0.mk (show w7.heap[gd]? = some (.cells #[.int .i64 st, .int .i64 (-st)] 3 (0, 0)) by rw [hw7]; exact (Below.heap_setCell wr ⟨g, kn, none⟩ _ _ (by have := Hlt.out; show gd ≠ g; omega)).trans Hbk.out)
              have Hxd : Aside0 (0 ≤ x + d ∧ x + d ≤ 1099511627776) := ⟨⟨p0, p1⟩⟩
              rw [← hw7]
              clear hw7 Hs Hbk hcd hcv hcf p0 p1 e0 e1
              have Hcall := Aside0.mk (Hbd.out g cap _ w7 Hs7.out)
              obtain ⟨b1, hb1⟩ : ∃ b1, b1 = boundD l dec (ps.set kn (x + d)) := ⟨_, rfl⟩
              rw [← hb1] at Hcall
              clear hb1
              go_wp2_with fail
              refine Hcall.out.mono ?_
              rintro e w8 ⟨rfl, hb8⟩
              have Hs8 := Aside0.mk (Hs7.out.step hb8)
              have Hbk8 := Aside0.mk (blk_below Hbk7.out hb8)
              obtain ⟨hcv8, hcf8⟩ := Hs8.out.cell (kn : Int) (by omega) (by omega)
              rw [Int.toNat_natCast] at hcv8 hcf8
              have hws : IntKind.i64.wrap (x + d - d) = x := by rw [show x + d - d = x by omega]; exact IntWalk.i64_in _ (by omega)
              have hws2 : IntKind.i64.wrap x = x := IntWalk.i64_in _ (by omega)
              clear hb8 Hcall Hs7 Hbk7
              by_cases hbl : b1 < lv
              ·have e2 : decide (b1 < lv) = true := decide_eq_true hbl
               go_upto_region 28 with (fail)
               obtain ⟨w9, hw9⟩ : ∃ w9, w9 = w8.setCell ⟨g, kn, none⟩ (.int .i64 x) := ⟨_, rfl⟩
               have Hs9 : Aside0 (SSt w g cap n ps w9) := ⟨by
                have h1 := Hs8.out.put (kn : Int) x hx
                rw [Int.toNat_natCast] at h1
                rw [Hx.out, set_back ps kn _ (by have := Hlen.out; omega), ← Hx.out, ← hw9] at h1
                exact h1⟩
               have Hbk9 := Aside0.mk (show w9.heap[gd]? = some (.cells #[.int .i64 st, .int .i64 (-st)] 3 (0, 0)) by rw [hw9]; exact (Below.heap_setCell w8 ⟨g, kn, none⟩ _ _ (by have := Hlt.out; show gd ≠ g; omega)).trans Hbk8.out)
               rw [← hw9]
               clear hw9 Hs8 Hbk8 hcv8 hcf8
               go_wp2
               go_roundw
               case rel => exact ⟨b1, kn, d, dn + 1, by omega, rfl, rfl, rfl, by go_num, Hs9, Hbk9, by omega, ⟨fun _ => by rw [← Hx.out]; exact Hxd.out⟩⟩
               case measure => simp [intOf]; omega
              ·have e2 : decide (b1 < lv) = false := decide_eq_false hbl
               go_upto_region 28 with (fail)
               obtain ⟨w9, hw9⟩ : ∃ w9, w9 = w8.setCell ⟨g, kn, none⟩ (.int .i64 x) := ⟨_, rfl⟩
               have Hs9 : Aside0 (SSt w g cap n ps w9) := ⟨by
                have h1 := Hs8.out.put (kn : Int) x hx
                rw [Int.toNat_natCast] at h1
                rw [Hx.out, set_back ps kn _ (by have := Hlen.out; omega), ← Hx.out, ← hw9] at h1
                exact h1⟩
               have Hbk9 := Aside0.mk (show w9.heap[gd]? = some (.cells #[.int .i64 st, .int .i64 (-st)] 3 (0, 0)) by rw [hw9]; exact (Below.heap_setCell w8 ⟨g, kn, none⟩ _ _ (by have := Hlt.out; show gd ≠ g; omega)).trans Hbk8.out)
               rw [← hw9]
               clear hw9 Hs8 Hbk8 hcv8 hcf8
               go_wp2
               go_roundw
               case rel => exact ⟨lv, a, u, dn + 1, by omega, rfl, rfl, rfl, by go_num, Hs9, Hbk9, ha, Ha⟩
               case measure => simp [intOf]; omega
             ·have e1 : decide (x + d ≤ 1099511627776) = false := decide_eq_false p1
              go_wp2
              go_roundw
              case rel => exact ⟨lv, a, u, dn + 1, by omega, rfl, rfl, rfl, by go_num, Hs, Hbk, ha, Ha⟩
              case measure => simp [intOf]; omega
            ·have e0 : decide (0 ≤ x + d) = false := decide_eq_false p0
             go_wp2
             go_roundw
             case rel => exact ⟨lv, a, u, dn + 1, by omega, rfl, rfl, rfl, by go_num, Hs, Hbk, ha, Ha⟩
             case measure => simp [intOf]; omega
           ·obtain rfl : dn = 2 := by omega
            go_wp2
            go_roundw
            case rel => exact ⟨lv, a, u, kn + 1, by omega, rfl, rfl, rfl, by go_num, Hs, ha, Ha⟩
            case measure => simp [intOf]; omega
         ·obtain rfl : kn = n := by omega
          have r1 : decide ((kn : Int) < (kn : Int)) = false := decide_eq_false (by omega)
          have r2 : decide (kn < kn) = false := decide_eq_false (by omega)
          by_cases hat : a < 0
          ·have e1 : decide (a < 0) = true := decide_eq_true hat
           go_wp2
           go_roundw
           case rel => exact ⟨Int.tdiv (st + 2) 4, ps, rfl, by omega, Hs, ⟨fun h => (Hnq.out h).elim⟩⟩
           case measure => simp [intOf]; omega
          ·have e1 : decide (a < 0) = false := decide_eq_false hat
           have ha0 : 0 ≤ a := by omega
           have haN : a < (kn : Int) := ha.2
           obtain ⟨hcv, hcf⟩ := Hs.out.cell a ha0 haN
           have hau := Ha.out ha0
           have hwau : IntKind.i64.wrap (rd ps a + u) = rd ps a + u := IntWalk.i64_in _ (by omega)
           go_upto_region 32 with (fail)
           obtain ⟨w7, hw7⟩ : ∃ w7, w7 = wr.setCell ⟨g, a.toNat, none⟩ (.int .i64 (rd ps a + u)) := ⟨_, rfl⟩
           have Hs7 : Aside0 (SSt w g cap kn (ps.set a.toNat (rd ps a + u)) w7) := ⟨by rw [hw7]; exact Hs.out.put a _ hau⟩
           rw [← hw7]
           clear hw7 Hs hcv hcf
           go_wp2
           go_roundw
           case rel => exact ⟨jn + 1, _, by omega, by go_num, Hs7, ⟨fun h => (Hnq.out h).elim⟩⟩
           case measure => simp [intOf]; omega
      ·obtain rfl : jn = n := by omega
       have s1 : decide ((jn : Int) < (jn : Int)) = false := decide_eq_false (by omega)
       have s2 : decide (jn < jn) = false := decide_eq_false (by omega)
       go_wp2
       go_roundw
       case rel => exact ⟨Int.tdiv (st + 2) 4, ps, rfl, by omega, Hs, ⟨fun h => by have := (Hq.out h).1; omega⟩⟩
       case measure => simp [intOf]; omega
    ·have t1 : decide (0 < st) = false := decide_eq_false hpos
     have Hnq : Aside0 (¬ Q) := ⟨fun h => hpos (by have := (Hq.out h).2; omega)⟩
     have Hcall := Aside0.mk (Hbd.out g cap ps wr Hs.out)
     obtain ⟨b0, hb0⟩ : ∃ b0, b0 = boundD l dec ps := ⟨_, rfl⟩
     have Hb0 := Aside0.mk hb0
     rw [← hb0] at Hcall
     clear hb0
     go_wp2_with fail
     refine Hcall.out.mono ?_
     rintro e w5 ⟨rfl, hb5⟩
     have Hs5 := Aside0.mk (Hs.out.step hb5)
     clear hb5 Hcall Hs
     go_wp2
     go_ret2
     exact ⟨_, ps, decide (b0 ≤ value), rfl, Hs5.out.len, Hs5.out.rg, fun h => by rw [← Hb0.out]; exact of_decide_eq_true h, fun h => (Hnq.out h).elim, Hs5.out.r, Hs5.out.b⟩
end Go.Proofs.Ytdamibblnjeooaa.H
