/- Texts of this claim, one behind the other. -/
import Derived.Test.YtecbfpcidoilmaaProg
import Derived.Below
import Derived.Deep.Draws
import Derived.Deep.AppendLies
import Derived.Maps.AppendAt
import Derived.OwnWalk
import Derived.Laws.BytesArg
import Derived.Laws.MakeOwn
import Derived.Laws.OwnMore
import Derived.Deep.OwnRows
import Derived.Tactics
import Derived.Lib.ConvBytes
import Derived.Laws.Slices
import Derived.WalkKit
import Derived.KernelRfl
import Derived.RowKit3
import Derived.Deep.LoopGhost
import Derived.Deep.QuietTactic
import Derived.BigQuiet
import Derived.WideLaws
import Derived.Deep.DeepCutAuto
import Derived.Deep.CutBlock
import Derived.Deep.RegionHeld3
import Derived.Laws.Rows
import Derived.Lib.AppendStr
import Derived.ArgAppend
import Derived.Laws.IdiomCopy
import Derived.OrdersHeld
import Derived.Laws.BitsLemmas
import Derived.RowKit
import Derived.Test.YtecbfpcidoilmaaMClearBesta

/- Written by a program of this session over the kit's printer: what the functions named below compute, and that the machine's calls compute it. Not trusted: Lean checks it. -/
namespace Go.Proofs.Ytecbfpcidoilmaa.H
open Go.RowKit Go.Proofs.YtecbfpcidoilmaaW.PrintWords Go.Proofs.YtecbfpcidoilmaaW.PrintLast Go.Proofs.YtecbfpcidoilmaaW.PrintMore
attribute [local go_sem] max2_int min2_int max_two min_two max_three min_three max_four min_four   -- for this text's walks alone
set_option linter.unusedVariables false
set_option linter.unusedSimpArgs false



def errW : Option Int → Value
 | none => .nilIface
 | some c => .iface 0 (.int .i64 c)
theorem errW_none : errW none = .nilIface := rfl
theorem errW_some (c : Int) : errW (some c) = .iface 0 (.int .i64 c) := rfl

theorem info3 : (Try.prog.info? 3).map (fun i => (i.zero, i.size, i.bytes)) = some (some (.int .i64 0), 1, 8) := by kernel_rfl
theorem info45 : (Try.prog.info? 45).map (fun i => (i.zero, i.size, i.bytes)) = some (some (.agg #[(.int .i64 0), (.int .i64 0), (.slice none 0 0)]), 3, 40) := by kernel_rfl
theorem info63 : (Try.prog.info? 63).map (fun i => (i.zero, i.size, i.bytes)) = some (some (.agg #[(.int .i64 0), (.int .i64 0), (.slice none 0 0)]), 3, 40) := by kernel_rfl
-- the values' own types

/-! #### struct type 63 -/
structure S63 where
 f0 : Int
 f1 : Int
 f2 : (List Int)
def z63 : S63 := ⟨(0 : Int), (0 : Int), ([] : List Int)⟩
def k63 : Kd S63 := Kd.iso (Kd.pair (Kd.int .i64) (Kd.pair (Kd.int .i64) (Kd.slice 3 (Kd.int .i64)))) (fun x : S63 => (x.f0, x.f1, x.f2))
theorem k63_open {w : World} {x : S63} {cs : List Value} (h : k63.K w x cs) : ∃ A2 c2, cs = [.int .i64 x.f0, .int .i64 x.f1, .slice A2 x.f2.length c2] ∧ x.f2.length ≤ c2 ∧ (Kd.int .i64).C w A2 x.f2.length x.f2 := by
 obtain ⟨_, _, rfl, rfl, ⟨_, _, rfl, rfl, ⟨A2, c2, rfl, l2, g2⟩⟩⟩ := h
 exact ⟨A2, c2, rfl, l2, g2⟩
theorem k63_mk (w : World) (x : S63) {A2 : Option Addr} {c2 : Nat} (l2 : x.f2.length ≤ c2) (g2 : (Kd.int .i64).C w A2 x.f2.length x.f2) : k63.K w x [.int .i64 x.f0, .int .i64 x.f1, .slice A2 x.f2.length c2] := ⟨[.int .i64 x.f0], [.int .i64 x.f1, .slice A2 x.f2.length c2], rfl, rfl, ⟨[.int .i64 x.f1], [.slice A2 x.f2.length c2], rfl, rfl, ⟨A2, c2, rfl, l2, g2⟩⟩⟩
theorem k63_mkM (w : World) (base : Nat) (ok : Nat → Prop) (x : S63) {v2 : Value} (g2 : (Kd.int .i64).R 3 w base ok v2 x.f2) : k63.M w base ok x [.int .i64 x.f0, .int .i64 x.f1, v2] := ⟨[.int .i64 x.f0], [.int .i64 x.f1, v2], rfl, rfl, ⟨[.int .i64 x.f1], [v2], rfl, rfl, ⟨v2, rfl, g2⟩⟩⟩
theorem k63_openF {W : World} {ok : Nat → Prop} {x : S63} {cs : List Value} (h : Kd.FK k63 W ok x cs) : ∃ A2 c2, cs = [.int .i64 x.f0, .int .i64 x.f1, .slice A2 x.f2.length c2] ∧ x.f2.length ≤ c2 ∧ Kd.F (Kd.int .i64) W ok A2 x.f2.length x.f2 := by
 obtain ⟨A2, c2, rfl, l2, _⟩ := k63_open (Kd.FK_now h)
 exact ⟨A2, c2, rfl, l2, (fun W' hW => by obtain ⟨A2_, c2_, he, l2_, g2_⟩ := k63_open (h W' hW); injection (Option.some.inj (show some (Value.slice A2 x.f2.length c2) = some (Value.slice A2_ x.f2.length c2_) from congrArg (fun l => l[2]?) he)) with ha_ _ _; rw [ha_]; exact g2_)⟩
theorem k63_mkF (W : World) (ok : Nat → Prop) (x : S63) {A2 : Option Addr} {c2 : Nat} (l2 : x.f2.length ≤ c2) (g2 : Kd.F (Kd.int .i64) W ok A2 x.f2.length x.f2) : Kd.FK k63 W ok x [.int .i64 x.f0, .int .i64 x.f1, .slice A2 x.f2.length c2] := fun W2 hW => k63_mk W2 x l2 (g2 W2 hW)
def rd_T63 (xs : List S63) (i : Int) : S63 := xs.getD i.toNat z63
theorem at_T63 {w : World} {A : Option Addr} {n : Nat} {xs : List S63} (h : Kd.C k63 w A n xs) (i : Int) (h0 : 0 ≤ i) (h1 : i < n) : ∃ ad A2 c2, A = some ad ∧ w.cell? (ad.add (i.toNat * 3)) = some (.int .i64 (rd_T63 xs i).f0) ∧ w.cell? ⟨(ad.add (i.toNat * 3)).block, (ad.add (i.toNat * 3)).off + 1, none⟩ = some (.int .i64 (rd_T63 xs i).f1) ∧ w.cell? ⟨(ad.add (i.toNat * 3)).block, (ad.add (i.toNat * 3)).off + 2, none⟩ = some (.slice A2 (rd_T63 xs i).f2.length c2) ∧ (rd_T63 xs i).f2.length ≤ c2 ∧ (Kd.int .i64).C w A2 (rd_T63 xs i).f2.length (rd_T63 xs i).f2 := by
 obtain ⟨ad, c, e, _, hK, hc0⟩ := Kd.C_get h z63 i h0 h1
 have hc : ∀ j u, c[j]? = some u → w.cell? (ad.add (i.toNat * 3 + j)) = some u := hc0
 obtain ⟨A2, c2, rfl, l2, g2⟩ := k63_open hK
 exact ⟨ad, A2, c2, e, hc 0 _ rfl, by rw [← add_field _ _ 1 (by omega)]; exact hc 1 _ rfl, by rw [← add_field _ _ 2 (by omega)]; exact hc 2 _ rfl, l2, g2⟩

/-! #### struct type 45 -/
structure S45 where
 f0 : Int
 f1 : Int
 f2 : (List Int)
def z45 : S45 := ⟨(0 : Int), (0 : Int), ([] : List Int)⟩
def k45 : Kd S45 := Kd.iso (Kd.pair (Kd.int .i64) (Kd.pair (Kd.int .i64) (Kd.slice 3 (Kd.int .i64)))) (fun x : S45 => (x.f0, x.f1, x.f2))
theorem k45_open {w : World} {x : S45} {cs : List Value} (h : k45.K w x cs) : ∃ A2 c2, cs = [.int .i64 x.f0, .int .i64 x.f1, .slice A2 x.f2.length c2] ∧ x.f2.length ≤ c2 ∧ (Kd.int .i64).C w A2 x.f2.length x.f2 := by
 obtain ⟨_, _, rfl, rfl, ⟨_, _, rfl, rfl, ⟨A2, c2, rfl, l2, g2⟩⟩⟩ := h
 exact ⟨A2, c2, rfl, l2, g2⟩
theorem k45_mk (w : World) (x : S45) {A2 : Option Addr} {c2 : Nat} (l2 : x.f2.length ≤ c2) (g2 : (Kd.int .i64).C w A2 x.f2.length x.f2) : k45.K w x [.int .i64 x.f0, .int .i64 x.f1, .slice A2 x.f2.length c2] := ⟨[.int .i64 x.f0], [.int .i64 x.f1, .slice A2 x.f2.length c2], rfl, rfl, ⟨[.int .i64 x.f1], [.slice A2 x.f2.length c2], rfl, rfl, ⟨A2, c2, rfl, l2, g2⟩⟩⟩
theorem k45_openF {W : World} {ok : Nat → Prop} {x : S45} {cs : List Value} (h : Kd.FK k45 W ok x cs) : ∃ A2 c2, cs = [.int .i64 x.f0, .int .i64 x.f1, .slice A2 x.f2.length c2] ∧ x.f2.length ≤ c2 ∧ Kd.F (Kd.int .i64) W ok A2 x.f2.length x.f2 := by
 obtain ⟨A2, c2, rfl, l2, _⟩ := k45_open (Kd.FK_now h)
 exact ⟨A2, c2, rfl, l2, (fun W' hW => by obtain ⟨A2_, c2_, he, l2_, g2_⟩ := k45_open (h W' hW); injection (Option.some.inj (show some (Value.slice A2 x.f2.length c2) = some (Value.slice A2_ x.f2.length c2_) from congrArg (fun l => l[2]?) he)) with ha_ _ _; rw [ha_]; exact g2_)⟩
theorem k45_mkF (W : World) (ok : Nat → Prop) (x : S45) {A2 : Option Addr} {c2 : Nat} (l2 : x.f2.length ≤ c2) (g2 : Kd.F (Kd.int .i64) W ok A2 x.f2.length x.f2) : Kd.FK k45 W ok x [.int .i64 x.f0, .int .i64 x.f1, .slice A2 x.f2.length c2] := fun W2 hW => k45_mk W2 x l2 (g2 W2 hW)
def rd_T45 (xs : List S45) (i : Int) : S45 := xs.getD i.toNat z45
theorem at_T45 {w : World} {A : Option Addr} {n : Nat} {xs : List S45} (h : Kd.C k45 w A n xs) (i : Int) (h0 : 0 ≤ i) (h1 : i < n) : ∃ ad A2 c2, A = some ad ∧ w.cell? (ad.add (i.toNat * 3)) = some (.int .i64 (rd_T45 xs i).f0) ∧ w.cell? ⟨(ad.add (i.toNat * 3)).block, (ad.add (i.toNat * 3)).off + 1, none⟩ = some (.int .i64 (rd_T45 xs i).f1) ∧ w.cell? ⟨(ad.add (i.toNat * 3)).block, (ad.add (i.toNat * 3)).off + 2, none⟩ = some (.slice A2 (rd_T45 xs i).f2.length c2) ∧ (rd_T45 xs i).f2.length ≤ c2 ∧ (Kd.int .i64).C w A2 (rd_T45 xs i).f2.length (rd_T45 xs i).f2 := by
 obtain ⟨ad, c, e, _, hK, hc0⟩ := Kd.C_get h z45 i h0 h1
 have hc : ∀ j u, c[j]? = some u → w.cell? (ad.add (i.toNat * 3 + j)) = some u := hc0
 obtain ⟨A2, c2, rfl, l2, g2⟩ := k45_open hK
 exact ⟨ad, A2, c2, e, hc 0 _ rfl, by rw [← add_field _ _ 1 (by omega)]; exact hc 1 _ rfl, by rw [← add_field _ _ 2 (by omega)]; exact hc 2 _ rfl, l2, g2⟩


def rd_L5 (xs : List (List S63)) (i : Int) : (List S63) := xs.getD i.toNat ([] : List S63)
theorem at_L5 {w : World} {A : Option Addr} {n : Nat} {xs : List (List S63)} (h : Kd.C (Kd.slice 63 k63) w A n xs) (i : Int) (h0 : 0 ≤ i) (h1 : i < n) : ∃ ad A0 c0, A = some ad ∧ w.cell? (ad.add i.toNat) = some (.slice A0 (rd_L5 xs i).length c0) ∧ (rd_L5 xs i).length ≤ c0 ∧ k63.C w A0 (rd_L5 xs i).length (rd_L5 xs i) := by
 obtain ⟨ad, c, e, _, hK, hc0⟩ := Kd.C_get h ([] : List S63) i h0 h1
 have hc : ∀ j u, c[j]? = some u → w.cell? (ad.add (i.toNat * 1 + j)) = some u := hc0
 obtain ⟨A0, c0, rfl, l0, g0⟩ := hK
 exact ⟨ad, A0, c0, e, by have hq := hc 0 _ rfl; rwa [Nat.mul_one, Nat.add_zero] at hq, l0, g0⟩

end Go.Proofs.Ytecbfpcidoilmaa.H

/- Written by a program of this session over the kit's printer: what the functions named below compute, and that the machine's calls compute it. Not trusted: Lean checks it. -/
namespace Go.Proofs.Ytecbfpcidoilmaa.H
open Go.RowKit Go.Proofs.YtecbfpcidoilmaaW.PrintWords Go.Proofs.YtecbfpcidoilmaaW.PrintLast Go.Proofs.YtecbfpcidoilmaaW.PrintMore
attribute [local go_sem] max2_int min2_int max_two min_two max_three min_three max_four min_four   -- for this text's walks alone
set_option linter.unusedVariables false
set_option linter.unusedSimpArgs false

/-! ### worldmintref01_Around: function 20 -/
def worldmintref01_Around.f (a0 : Int) (a1 : Int) : Option (Int) := if a0 < 0 then (if a1 = 0 then (none) else (some (Int.tmod (wrap64 (-(wrap64 (a0 + 1)))) a1))) else (if a1 = 0 then (none) else (some (Int.tmod a0 a1)))
set_option maxHeartbeats 8000000 in
set_option maxRecDepth 100000 in
theorem worldmintref01_Around.calls (a0 : Int) (a1 : Int) (r : Int) (w : World) (h : worldmintref01_Around.f a0 a1 = some r) :
  Calls Try.prog 20 #[.int .i64 a0, .int .i64 a1] w fun e w' => e = .returned (.int .i64 r) ∧ Drawn0 w w' := by
 have H : (if a0 < 0 then (if a1 = 0 then (none) else (some (Int.tmod (wrap64 (-(wrap64 (a0 + 1)))) a1))) else (if a1 = 0 then (none) else (some (Int.tmod a0 a1)))) = some r := h
 clear h
 by_cases c3 : a0 < 0
 ·rw [if_pos c3] at H
  have c3b0 : decide (a0 < 0) = true := decide_eq_true c3
  clear c3
  by_cases c4 : a1 = 0
  ·rw [if_pos c4] at H
   exact absurd H (by simp)
  ·rw [if_neg c4] at H
   have c4b0 : (a1 == 0) = false := beq_eq_false_iff_ne.mpr c4
   have c4b1 : (a1 != 0) = true := bne_iff_ne.mpr c4
   obtain rfl := Option.some.inj H
   go_enter Try.func20, Try.ntmps20
   go_wp2
   go_ret
   exact ⟨by first | rfl | (simp; done) | (simp [*]; done), by repeat (first | exact Drawn0.refl _ | apply Drawn0.step)⟩
 ·rw [if_neg c3] at H
  have c3b0 : decide (a0 < 0) = false := decide_eq_false c3
  clear c3
  by_cases c5 : a1 = 0
  ·rw [if_pos c5] at H
   exact absurd H (by simp)
  ·rw [if_neg c5] at H
   have c5b0 : (a1 == 0) = false := beq_eq_false_iff_ne.mpr c5
   have c5b1 : (a1 != 0) = true := bne_iff_ne.mpr c5
   obtain rfl := Option.some.inj H
   go_enter Try.func20, Try.ntmps20
   go_wp2
   go_ret
   exact ⟨by first | rfl | (simp; done) | (simp [*]; done), by repeat (first | exact Drawn0.refl _ | apply Drawn0.step)⟩

end Go.Proofs.Ytecbfpcidoilmaa.H

/- Written by a program of this session over the kit's printer: what the functions named below compute, and that the machine's calls compute it. Not trusted: Lean checks it. -/
namespace Go.Proofs.Ytecbfpcidoilmaa.H
open Go.RowKit Go.Proofs.YtecbfpcidoilmaaW.PrintWords Go.Proofs.YtecbfpcidoilmaaW.PrintLast Go.Proofs.YtecbfpcidoilmaaW.PrintMore
attribute [local go_sem] max2_int min2_int max_two min_two max_three min_three max_four min_four   -- for this text's walks alone
set_option linter.unusedVariables false
set_option linter.unusedSimpArgs false

/-! ### worldmintref27_Lots: function 11 -/
def worldmintref27_Lots.f (a0 : Int) : Option (Int) := (worldmintref01_Around.f a0 8).bind fun t101 => (some (wrap64 (1 + t101)))
set_option maxHeartbeats 8000000 in
set_option maxRecDepth 100000 in
theorem worldmintref27_Lots.calls (a0 : Int) (r : Int) (w : World) (h : worldmintref27_Lots.f a0 = some r) :
  Calls Try.prog 11 #[.int .i64 a0] w fun e w' => e = .returned (.int .i64 r) ∧ Drawn0 w w' := by
 have H : ((worldmintref01_Around.f a0 8).bind fun t101 => (some (wrap64 (1 + t101)))) = some r := h
 clear h
 replace H := Option.bind_eq_some_iff.mp H
 obtain ⟨t101, A20, H⟩ := H
 replace H : (some (wrap64 (1 + t101))) = some r := H
 have A2 := Aside0.mk A20
 clear A20
 obtain rfl := Option.some.inj H
 go_enter Try.func11, Try.ntmps11
 go_wp2_with (first | ((with_reducible refine gate_callee (f := 20) rfl ?_); refine goesL_ (some 4) rfl rfl Try.func20 (by kernel_rfl) rfl #[.int .i64 a0, .int .i64 8] rfl (by (try simp only [List.map_toArray, List.map_cons, List.map_nil]); first | done | rfl | (simp only [List.length_drop, List.length_take]; rfl)) ?_; (with_reducible refine (worldmintref01_Around.calls a0 8 t101 _ A2.out).mono ?_); rintro e w' ⟨rfl, ⟨nd, rfl⟩⟩; refine ⟨_, rfl, ?_⟩))
 go_ret
 exact ⟨by first | rfl | (simp; done) | (simp [*]; done), by repeat (first | exact Drawn0.refl _ | apply Drawn0.step)⟩

end Go.Proofs.Ytecbfpcidoilmaa.H

/- Written by a program of this session over the kit's printer: what the functions named below compute, and that the machine's calls compute it. Not trusted: Lean checks it. -/
namespace Go.Proofs.Ytecbfpcidoilmaa.H
open Go.RowKit Go.Proofs.YtecbfpcidoilmaaW.PrintWords Go.Proofs.YtecbfpcidoilmaaW.PrintLast Go.Proofs.YtecbfpcidoilmaaW.PrintMore
attribute [local go_sem] max2_int min2_int max_two min_two max_three min_three max_four min_four   -- for this text's walks alone
set_option linter.unusedVariables false
set_option linter.unusedSimpArgs false

/-! ### worldmintref01_Pick: function 34 -/
def worldmintref01_Pick.f (l0 : List Int) (a1 : Int) (a2 : Int) : Option (Int) := if a1 < 0 then (some 0) else (if a1 ≥ (l0.length : Int) then (some 0) else (if 0 ≤ a1 then (if a1 < (l0.length : Int) then ((worldmintref01_Around.f (rd l0 a1) a2).bind fun t103 => (some t103)) else (none)) else (none)))
set_option maxHeartbeats 8000000 in
set_option maxRecDepth 100000 in
theorem worldmintref01_Pick.calls (A0 : Option Addr) (c0 : Nat) (l0 : List Int) (a1 : Int) (a2 : Int) (r : Int) (w : World) (hr0 : Kd.C (Kd.int .i64) w A0 l0.length l0) (hc0 : l0.length ≤ c0) (h : worldmintref01_Pick.f l0 a1 a2 = some r) :
  Calls Try.prog 34 #[.slice A0 l0.length c0, .int .i64 a1, .int .i64 a2] w fun e w' => e = .returned (.int .i64 r) ∧ Drawn0 w w' := by
 have HR0 := Aside0.mk hr0
 have HC0 := Aside0.mk hc0
 clear hr0 hc0
 have H : (if a1 < 0 then (some 0) else (if a1 ≥ (l0.length : Int) then (some 0) else (if 0 ≤ a1 then (if a1 < (l0.length : Int) then ((worldmintref01_Around.f (rd l0 a1) a2).bind fun t103 => (some t103)) else (none)) else (none)))) = some r := h
 clear h
 by_cases c4 : a1 < 0
 ·rw [if_pos c4] at H
  have c4b0 : decide (a1 < 0) = true := decide_eq_true c4
  clear c4
  obtain rfl := Option.some.inj H
  go_enter Try.func34, Try.ntmps34
  go_wp2
  go_ret
  exact ⟨by first | rfl | (simp; done) | (simp [*]; done), by repeat (first | exact Drawn0.refl _ | apply Drawn0.step)⟩
 ·rw [if_neg c4] at H
  have c4b0 : decide (a1 < 0) = false := decide_eq_false c4
  clear c4
  by_cases c5 : a1 ≥ (l0.length : Int)
  ·rw [if_pos c5] at H
   have c5b0 : decide ((l0.length : Int) ≤ a1) = true := decide_eq_true c5
   clear c5
   obtain rfl := Option.some.inj H
   go_enter Try.func34, Try.ntmps34
   go_wp2
   go_ret
   exact ⟨by first | rfl | (simp; done) | (simp [*]; done), by repeat (first | exact Drawn0.refl _ | apply Drawn0.step)⟩
  ·rw [if_neg c5] at H
   have c5b0 : decide ((l0.length : Int) ≤ a1) = false := decide_eq_false c5
   clear c5
   by_cases c6 : 0 ≤ a1
   ·rw [if_pos c6] at H
    have c6b0 : decide (0 ≤ a1) = true := decide_eq_true c6
    clear c6
    by_cases c7 : a1 < (l0.length : Int)
    ·rw [if_pos c7] at H
     have c7b0 : decide (a1 < (l0.length : Int)) = true := decide_eq_true c7
     clear c7
     replace H := Option.bind_eq_some_iff.mp H
     obtain ⟨t103, A80, H⟩ := H
     replace H : (some t103) = some r := H
     have A8 := Aside0.mk A80
     clear A80
     obtain rfl := Option.some.inj H
     have p102 : 0 ≤ (a1 : Int) := of_decide_eq_true (by first | (with_reducible assumption) | assumption)
     have q102 : a1 < (l0.length : Int) := of_decide_eq_true (by first | (with_reducible assumption) | assumption)
     obtain ⟨ad102, e102, hx102_0⟩ := Kd.at_int HR0.out a1 p102 q102
     cases e102
     replace p102 := eq_true p102
     replace q102 := eq_true q102
     go_enter Try.func34, Try.ntmps34
     go_wp2_with (first | ((with_reducible refine gate_callee (f := 20) rfl ?_); refine goesL_ (some 20) rfl rfl Try.func20 (by kernel_rfl) rfl #[.int .i64 (rd l0 a1), .int .i64 a2] rfl (by (try simp only [List.map_toArray, List.map_cons, List.map_nil]); first | done | rfl | (simp only [List.length_drop, List.length_take]; rfl)) ?_; (with_reducible refine (worldmintref01_Around.calls (rd l0 a1) a2 t103 _ A8.out).mono ?_); rintro e w' ⟨rfl, ⟨nd, rfl⟩⟩; refine ⟨_, rfl, ?_⟩))
     go_ret
     exact ⟨by first | rfl | (simp; done) | (simp [*]; done), by repeat (first | exact Drawn0.refl _ | apply Drawn0.step)⟩
    ·rw [if_neg c7] at H
     exact absurd H (by simp)
   ·rw [if_neg c6] at H
    exact absurd H (by simp)

end Go.Proofs.Ytecbfpcidoilmaa.H

/- Written by a program of this session over the kit's printer: what the functions named below compute, and that the machine's calls compute it. Not trusted: Lean checks it. -/
namespace Go.Proofs.Ytecbfpcidoilmaa.H
open Go.RowKit Go.Proofs.YtecbfpcidoilmaaW.PrintWords Go.Proofs.YtecbfpcidoilmaaW.PrintLast Go.Proofs.YtecbfpcidoilmaaW.PrintMore
attribute [local go_sem] max2_int min2_int max_two min_two max_three min_three max_four min_four   -- for this text's walks alone
set_option linter.unusedVariables false
set_option linter.unusedSimpArgs false

/-! ### worldmintref27_Bids: function 12 -/
mutual
def worldmintref27_Bids.l0 : Nat → Int → List Int → Int → List (S63) → Int → Option ((List (S63)))
 | 0, _, _, _, _, _ => none
 | k + 1, x0, x1, x2, x7, x8 => (worldmintref01_Pick.f x1 0 (wrap64 (x2 + 1))).bind fun t104 => (if x8 < t104 then ((worldmintref01_Pick.f x1 (wrap64 (1 + (wrap64 (3 * x8)))) 1000000).bind fun t105 => (if (Int.tmod (wrap64 (Int.tdiv t105 54)) 4) = 0 then (worldmintref27_Bids.j1 k x0 x1 x2 x7 x8 (wrap64 (1 + (Int.tmod t105 6))) (wrap64 ((wrap64 (1 + (Int.tmod (wrap64 (Int.tdiv t105 6)) 9))) * (wrap64 (1 + (Int.tmod (wrap64 (Int.tdiv t105 216)) 50)))))) else (worldmintref27_Bids.j1 k x0 x1 x2 x7 x8 (wrap64 (1 + (Int.tmod t105 6))) (wrap64 (1 + (Int.tmod (wrap64 (Int.tdiv t105 6)) 9)))))) else (some x7))
def worldmintref27_Bids.j1 : Nat → Int → List Int → Int → List (S63) → Int → Int → Int → Option ((List (S63)))
 | 0, _, _, _, _, _, _, _ => none
 | k + 1, x0, x1, x2, x7, x8, x107000, x107001 => (worldmintref01_Pick.f x1 (wrap64 (2 + (wrap64 (3 * x8)))) 255).bind fun t107 => ((worldmintref01_Pick.f x1 (wrap64 (3 + (wrap64 (3 * x8)))) 255).bind fun t108 => (worldmintref27_Bids.l1 k x0 x1 x2 x7 x8 (Go.bits .and .i64 t107 (Go.bits .or .i64 t108 17)) 0 x107000 x107001 ([] : List Int)))
def worldmintref27_Bids.l1 : Nat → Int → List Int → Int → List (S63) → Int → Int → Int → Int → Int → List Int → Option ((List (S63)))
 | 0, _, _, _, _, _, _, _, _, _, _ => none
 | k + 1, x0, x1, x2, x7, x8, x11, x12, x107000, x107001, x107002 => if x12 < x0 then (if (Int.tmod x11 2) = 1 then (if x107002.length < 17592186044416 then (worldmintref27_Bids.l1 k x0 x1 x2 x7 x8 (wrap64 (Int.tdiv x11 2)) (wrap64 (x12 + 1)) x107000 x107001 (x107002 ++ [x12])) else (none)) else (if x12 = (wrap64 (x0 - 1)) then (if (x107002.length : Int) = 0 then (if x107002.length < 17592186044416 then (worldmintref27_Bids.l1 k x0 x1 x2 x7 x8 (wrap64 (Int.tdiv x11 2)) (wrap64 (x12 + 1)) x107000 x107001 (x107002 ++ [x12])) else (none)) else (worldmintref27_Bids.l1 k x0 x1 x2 x7 x8 (wrap64 (Int.tdiv x11 2)) (wrap64 (x12 + 1)) x107000 x107001 x107002)) else (worldmintref27_Bids.l1 k x0 x1 x2 x7 x8 (wrap64 (Int.tdiv x11 2)) (wrap64 (x12 + 1)) x107000 x107001 x107002))) else (if x7.length < 3518437208883 then (worldmintref27_Bids.l0 k x0 x1 x2 (x7 ++ [(⟨x107000, x107001, x107002⟩ : S63)]) (wrap64 (x8 + 1))) else (none))
end
def worldmintref27_Bids.f (k : Nat) (a0 : Int) (l1 : List Int) (a2 : Int) : Option ((List (S63))) := worldmintref27_Bids.l0 k a0 l1 a2 ([] : List (S63)) 0
theorem worldmintref27_Bids.mono_l : ∀ k, (∀ y0 y1 y2 y3 y4, LeO (worldmintref27_Bids.l0 k y0 y1 y2 y3 y4) (worldmintref27_Bids.l0 (k + 1) y0 y1 y2 y3 y4)) ∧ (∀ y0 y1 y2 y3 y4 y5 y6, LeO (worldmintref27_Bids.j1 k y0 y1 y2 y3 y4 y5 y6) (worldmintref27_Bids.j1 (k + 1) y0 y1 y2 y3 y4 y5 y6)) ∧ (∀ y0 y1 y2 y3 y4 y5 y6 y7 y8 y9, LeO (worldmintref27_Bids.l1 k y0 y1 y2 y3 y4 y5 y6 y7 y8 y9) (worldmintref27_Bids.l1 (k + 1) y0 y1 y2 y3 y4 y5 y6 y7 y8 y9))
 | 0 => ⟨fun _ _ _ _ _ r h => by simp [worldmintref27_Bids.l0] at h, fun _ _ _ _ _ _ _ r h => by simp [worldmintref27_Bids.j1] at h, fun _ _ _ _ _ _ _ _ _ _ r h => by simp [worldmintref27_Bids.l1] at h⟩
 | k + 1 => by
  obtain ⟨ih0, ih1, ih2⟩ := worldmintref27_Bids.mono_l k
  refine ⟨?_, ?_, ?_⟩
  ·intro y0 y1 y2 y3 y4
   unfold worldmintref27_Bids.l0
   repeat' first
   | (with_reducible exact ih0 _ _ _ _ _)
   | (with_reducible exact ih1 _ _ _ _ _ _ _)
   | (with_reducible exact ih2 _ _ _ _ _ _ _ _ _ _)
   | (with_reducible exact LeO.refl _)
   | (with_reducible exact LeO.none _)
   | (with_reducible refine LeO.ite ?_ ?_)
   | (with_reducible refine LeO.bind ?_ (fun _ => ?_))
   | exact ih0 _ _ _ _ _
   | exact ih1 _ _ _ _ _ _ _
   | exact ih2 _ _ _ _ _ _ _ _ _ _
   | exact LeO.none _
   | refine LeO.ite ?_ ?_
   | refine LeO.bind ?_ (fun _ => ?_)
  ·intro y0 y1 y2 y3 y4 y5 y6
   unfold worldmintref27_Bids.j1
   repeat' first
   | (with_reducible exact ih0 _ _ _ _ _)
   | (with_reducible exact ih1 _ _ _ _ _ _ _)
   | (with_reducible exact ih2 _ _ _ _ _ _ _ _ _ _)
   | (with_reducible exact LeO.refl _)
   | (with_reducible exact LeO.none _)
   | (with_reducible refine LeO.ite ?_ ?_)
   | (with_reducible refine LeO.bind ?_ (fun _ => ?_))
   | exact ih0 _ _ _ _ _
   | exact ih1 _ _ _ _ _ _ _
   | exact ih2 _ _ _ _ _ _ _ _ _ _
   | exact LeO.none _
   | refine LeO.ite ?_ ?_
   | refine LeO.bind ?_ (fun _ => ?_)
  ·intro y0 y1 y2 y3 y4 y5 y6 y7 y8 y9
   unfold worldmintref27_Bids.l1
   repeat' first
   | (with_reducible exact ih0 _ _ _ _ _)
   | (with_reducible exact ih1 _ _ _ _ _ _ _)
   | (with_reducible exact ih2 _ _ _ _ _ _ _ _ _ _)
   | (with_reducible exact LeO.refl _)
   | (with_reducible exact LeO.none _)
   | (with_reducible refine LeO.ite ?_ ?_)
   | (with_reducible refine LeO.bind ?_ (fun _ => ?_))
   | exact ih0 _ _ _ _ _
   | exact ih1 _ _ _ _ _ _ _
   | exact ih2 _ _ _ _ _ _ _ _ _ _
   | exact LeO.none _
   | refine LeO.ite ?_ ?_
   | refine LeO.bind ?_ (fun _ => ?_)
theorem worldmintref27_Bids.mono : ∀ a0 a1 a2 k, LeO (worldmintref27_Bids.f k a0 a1 a2) (worldmintref27_Bids.f (k + 1) a0 a1 a2) := by
 intro a0 a1 a2 k
 obtain ⟨ih0, ih1, ih2⟩ := worldmintref27_Bids.mono_l k
 unfold worldmintref27_Bids.f
 repeat' first
   | (with_reducible exact ih0 _ _ _ _ _)
   | (with_reducible exact ih1 _ _ _ _ _ _ _)
   | (with_reducible exact ih2 _ _ _ _ _ _ _ _ _ _)
   | (with_reducible exact LeO.refl _)
   | (with_reducible exact LeO.none _)
   | (with_reducible refine LeO.ite ?_ ?_)
   | (with_reducible refine LeO.bind ?_ (fun _ => ?_))
   | exact ih0 _ _ _ _ _
   | exact ih1 _ _ _ _ _ _ _
   | exact ih2 _ _ _ _ _ _ _ _ _ _
   | exact LeO.none _
   | refine LeO.ite ?_ ?_
   | refine LeO.bind ?_ (fun _ => ?_)
set_option maxHeartbeats 8000000 in
set_option maxRecDepth 100000 in
theorem worldmintref27_Bids.calls (k : Nat) (a0 : Int) (A1 : Option Addr) (c1 : Nat) (l1 : List Int) (a2 : Int) (r : List (S63)) (w : World) (hr1 : Kd.C (Kd.int .i64) w A1 l1.length l1) (hc1 : l1.length ≤ c1) (h : worldmintref27_Bids.f k a0 l1 a2 = some r) :
  Calls Try.prog 12 #[.int .i64 a0, .slice A1 l1.length c1, .int .i64 a2] w fun e w' => ∃ v0_ : Value, e = .returned (v0_) ∧ Kd.S k63 63 w' w.heap.size (fun _ => True) v0_ r ∧ Below w.heap.size w w' := by
 have hu63 := Try.underlying63
 have HR1 := Aside0.mk hr1
 have HC1 := Aside0.mk hc1
 clear hr1 hc1
 have HB := Aside0.mk (Below.refl w.heap.size w)
 have H : (worldmintref27_Bids.l0 k a0 l1 a2 ([] : List (S63)) 0) = some r := h
 clear h
 have H' := Aside0.mk H
 clear H
 go_enter Try.func12, Try.ntmps12
 go_wp2
 go_loopg [7, 8] k (fun kq v7 v8 w' => ∃ (x7_1 : List (S63)) (x8_1 : Int), v8 = .int .i64 x8_1 ∧ Aside0 (worldmintref27_Bids.l0 kq a0 l1 a2 x7_1 x8_1 = some r) ∧ Aside0 (kq ≤ k) ∧ Aside0 (Kd.S k63 63 w' w.heap.size (fun _ => True) v7 x7_1) ∧ Aside0 (Below w.heap.size w w'))
 case atStart => exact ⟨(([] : List (S63))), (0), (by first | rfl | (simp; done) | (simp [*]; done)), H', ⟨Nat.le_refl _⟩, ⟨by first | exact Kd.S_nil _ _ _ _ _ | exact Kd.N_nil _ _ _ _ _ | exact Kd.V_nil _ _ _ _ _ | exact Kd.Q_nil _ _ _ _ _ | exact Kd.R_nil _ _ _ _ _⟩, ⟨by repeat (first | (with_reducible first | exact HB.out | apply below_alloc | apply pw_below_drewN | apply below_drew1) | exact HB.out)⟩⟩
 case round =>
  clear H'
  try clear c1
  try clear p2
  obtain ⟨x7_1, x8_1, rfl, HA, HK1, HO_7, HB⟩ := hrel
  cases gk with
  | zero => exact absurd HA.out (by simp [worldmintref27_Bids.l0])
  | succ k1 =>
   have H := HA.out
   clear HA
   simp only [worldmintref27_Bids.l0] at H
   replace H := Option.bind_eq_some_iff.mp H
   obtain ⟨t104, A40, H⟩ := H
   replace H : (if x8_1 < t104 then ((worldmintref01_Pick.f l1 (wrap64 (1 + (wrap64 (3 * x8_1)))) 1000000).bind fun t105 => (if (Int.tmod (wrap64 (Int.tdiv t105 54)) 4) = 0 then (worldmintref27_Bids.j1 k1 a0 l1 a2 x7_1 x8_1 (wrap64 (1 + (Int.tmod t105 6))) (wrap64 ((wrap64 (1 + (Int.tmod (wrap64 (Int.tdiv t105 6)) 9))) * (wrap64 (1 + (Int.tmod (wrap64 (Int.tdiv t105 216)) 50)))))) else (worldmintref27_Bids.j1 k1 a0 l1 a2 x7_1 x8_1 (wrap64 (1 + (Int.tmod t105 6))) (wrap64 (1 + (Int.tmod (wrap64 (Int.tdiv t105 6)) 9)))))) else (some x7_1)) = some r := H
   have A4 := Aside0.mk A40
   clear A40
   by_cases c5 : x8_1 < t104
   ·rw [if_pos c5] at H
    have c5b0 : decide (x8_1 < t104) = true := decide_eq_true c5
    clear c5
    replace H := Option.bind_eq_some_iff.mp H
    obtain ⟨t105, A60, H⟩ := H
    replace H : (if (Int.tmod (wrap64 (Int.tdiv t105 54)) 4) = 0 then (worldmintref27_Bids.j1 k1 a0 l1 a2 x7_1 x8_1 (wrap64 (1 + (Int.tmod t105 6))) (wrap64 ((wrap64 (1 + (Int.tmod (wrap64 (Int.tdiv t105 6)) 9))) * (wrap64 (1 + (Int.tmod (wrap64 (Int.tdiv t105 216)) 50)))))) else (worldmintref27_Bids.j1 k1 a0 l1 a2 x7_1 x8_1 (wrap64 (1 + (Int.tmod t105 6))) (wrap64 (1 + (Int.tmod (wrap64 (Int.tdiv t105 6)) 9))))) = some r := H
    have A6 := Aside0.mk A60
    clear A60
    have HC7 := Aside0.mk H
    clear H
    go_upto_if 37 with (first | ((with_reducible refine gate_callee (f := 34) rfl ?_); refine goesL_ (some 17) rfl rfl Try.func34 (by kernel_rfl) rfl #[.slice A1 l1.length c1, .int .i64 0, .int .i64 (wrap64 (a2 + 1))] rfl (by (try simp only [List.map_toArray, List.map_cons, List.map_nil]); first | done | rfl | (simp only [List.length_drop, List.length_take]; rfl)) ?_; (with_reducible refine (worldmintref01_Pick.calls _ _ l1 0 (wrap64 (a2 + 1)) t104 _ ?side1 ?side2 A4.out).mono ?_); (case side1 => repeat (first | exact (Kd.C_below HR1.out HB.out) | (with_reducible refine Kd.C_alloc ?_ _) | (with_reducible refine Kd.C_drewN ?_ _) | (with_reducible refine Kd.C_drew ?_))); (case side2 => exact HC1.out); rintro e w' ⟨rfl, ⟨nd, rfl⟩⟩; refine ⟨_, rfl, ?_⟩; (try (rw [drewN_self wr]; generalize hq_ : World.drewN wr _ = wr; have n0_ : Aside0 (Kd.S k63 63 wr w.heap.size (fun _ => True) u7 x7_1) := ⟨by rw [← hq_]; exact (by (with_reducible repeat (first | apply Kd.S_alloc | apply Kd.S_drewN | apply Kd.S_drew)); exact HO_7.out)⟩; have n1_ : Aside0 (Below w.heap.size w wr) := ⟨by rw [← hq_]; exact (by repeat (first | (with_reducible first | exact HB.out | apply below_alloc | apply pw_below_drewN | apply below_drew1) | exact HB.out))⟩; clear HO_7 HB hq_; have HO_7 := n0_; have HB := n1_; clear n0_ n1_))) | ((with_reducible refine gate_callee (f := 34) rfl ?_); refine goesL_ (some 25) rfl rfl Try.func34 (by kernel_rfl) rfl #[.slice A1 l1.length c1, .int .i64 (wrap64 (1 + (wrap64 (3 * x8_1)))), .int .i64 1000000] rfl (by (try simp only [List.map_toArray, List.map_cons, List.map_nil]); first | done | rfl | (simp only [List.length_drop, List.length_take]; rfl)) ?_; (with_reducible refine (worldmintref01_Pick.calls _ _ l1 (wrap64 (1 + (wrap64 (3 * x8_1)))) 1000000 t105 _ ?side1 ?side2 A6.out).mono ?_); (case side1 => repeat (first | exact (Kd.C_below HR1.out HB.out) | (with_reducible refine Kd.C_alloc ?_ _) | (with_reducible refine Kd.C_drewN ?_ _) | (with_reducible refine Kd.C_drew ?_))); (case side2 => exact HC1.out); rintro e w' ⟨rfl, ⟨nd, rfl⟩⟩; refine ⟨_, rfl, ?_⟩; (try (rw [drewN_self wr]; generalize hq_ : World.drewN wr _ = wr; have n0_ : Aside0 (Kd.S k63 63 wr w.heap.size (fun _ => True) u7 x7_1) := ⟨by rw [← hq_]; exact (by (with_reducible repeat (first | apply Kd.S_alloc | apply Kd.S_drewN | apply Kd.S_drew)); exact HO_7.out)⟩; have n1_ : Aside0 (Below w.heap.size w wr) := ⟨by rw [← hq_]; exact (by repeat (first | (with_reducible first | exact HB.out | apply below_alloc | apply pw_below_drewN | apply below_drew1) | exact HB.out))⟩; clear HO_7 HB hq_; have HO_7 := n0_; have HB := n1_; clear n0_ n1_))) | ((with_reducible refine gate_dst (N := 10) rfl ?_); (try (refine gate_guard (by rfl) ?_; dsimp only)); refine box_event ?hg (N := 10) ?hd (cs := #[.int .i64 0, .int .i64 0, .slice none 0 0]) (t := 63) ?hr ?_; (case hd => rfl); (case hg => rfl); (case hr => first | (go_simp; done) | (go_simp; rfl)); intro gb106 hg w8 hbox hb; have n0_ := Aside0.mk (Kd.S_below (Kd.S_elderB (by (with_reducible repeat (first | apply Kd.S_alloc | apply Kd.S_drewN | apply Kd.S_drew)); exact HO_7.out) gb106 (Nat.le_of_eq hg.symm)) hb); have n1_ := Aside0.mk (below_step (by repeat (first | (with_reducible first | exact HB.out | apply below_alloc | apply pw_below_drewN | apply below_drew1) | exact HB.out)) hb); have n2_ := Aside0.mk (hbox); have n3_ := Aside0.mk ((by rw [hg]; exact (below_size (by repeat (first | (with_reducible first | exact HB.out | apply below_alloc | apply pw_below_drewN | apply below_drew1) | exact HB.out))) : w.heap.size ≤ gb106)); have n4_ := Aside0.mk ((by rw [hg]; exact (below_size (by repeat (first | (with_reducible first | exact HB.out | apply below_alloc | apply pw_below_drewN | apply below_drew1) | exact HB.out))) : w.heap.size ≤ gb106)); clear HO_7; clear HB; have HO_7 := n0_; have HB := n1_; have BK106 := n2_; have GW106 := n3_; have GE106 := n4_; clear n0_ n1_ n2_ n3_ n4_; clear hb hbox hg; have hcz9_0 : w8.cell? ⟨gb106, 0, none⟩ = some (.int .i64 0) := (blk_cell BK106.out 0).trans rfl; have hcz9_1 : w8.cell? ⟨gb106, 1, none⟩ = some (.int .i64 0) := (blk_cell BK106.out 1).trans rfl; have hcz9_2 : w8.cell? ⟨gb106, 2, none⟩ = some (.slice none 0 0) := (blk_cell BK106.out 2).trans rfl; have hfz9_0 := blk_frozen BK106.out 0; have hfz9_1 := blk_frozen BK106.out 1; have hfz9_2 := blk_frozen BK106.out 2))
    (try simp only [Act.put, List.setIfInBounds_toArray, List.set_cons_zero, List.set_cons_succ])
    go_cut [] (fun wc => ∃ (kq : Nat) (x107001_6 : Int), Aside0 (worldmintref27_Bids.j1 kq a0 l1 a2 x7_1 x8_1 (wrap64 (1 + (Int.tmod t105 6))) x107001_6 = some r) ∧ Aside0 (kq ≤ k1) ∧ Aside0 (Kd.S k63 63 wc w.heap.size (fun k_ => k_ ≠ gb106) u7 x7_1) ∧ Aside0 (wc.heap[gb106]? = some (.cells #[.int .i64 (wrap64 (1 + (Int.tmod t105 6))), .int .i64 x107001_6, (.slice none 0 0)] 63 (0, 0))) ∧ Aside0 (Below w.heap.size w wc))
    case first =>
     have H := HC7.out
     clear HC7
     by_cases c10 : (Int.tmod (wrap64 (Int.tdiv t105 54)) 4) = 0
     ·rw [if_pos c10] at H
      have c10b0 : ((Int.tmod (wrap64 (Int.tdiv t105 54)) 4) == 0) = true := beq_iff_eq.mpr c10
      have c10b1 : ((Int.tmod (wrap64 (Int.tdiv t105 54)) 4) != 0) = false := bne_eq_false_iff_eq.mpr c10
      clear c10
      (first | rw [c10b0] | (simp only [i64_w, i32_w]; rw [c10b0]) | skip)
      have H' := Aside0.mk H
      clear H
      have hcz11_0 : w8.cell? ⟨gb106, 0, none⟩ = some (.int .i64 0) := (blk_cell BK106.out 0).trans rfl
      have hcz11_1 : w8.cell? ⟨gb106, 1, none⟩ = some (.int .i64 0) := (blk_cell BK106.out 1).trans rfl
      have hcz11_2 : w8.cell? ⟨gb106, 2, none⟩ = some (.slice none 0 0) := (blk_cell BK106.out 2).trans rfl
      have hfz11_0 := blk_frozen BK106.out 0
      have hfz11_1 := blk_frozen BK106.out 1
      have hfz11_2 := blk_frozen BK106.out 2
      go_wp2
      go_meet
      case rel => exact ⟨_, (wrap64 ((wrap64 (1 + (Int.tmod (wrap64 (Int.tdiv t105 6)) 9))) * (wrap64 (1 + (Int.tmod (wrap64 (Int.tdiv t105 216)) 50))))), H', ⟨by have := HK1.out; first | omega | exact Nat.le_refl _⟩, ⟨by (with_reducible repeat (first | apply Kd.S_alloc | apply Kd.S_drewN | apply Kd.S_drew)); exact Kd.S_mono (Kd.S_far (p := ⟨gb106, 1, none⟩) (Kd.S_far (p := ⟨gb106, 2, none⟩) (Kd.S_far (p := ⟨gb106, 1, none⟩) (Kd.S_far (p := ⟨gb106, 0, none⟩) (Kd.S_mono HO_7.out (fun k_ hk => (⟨hk, hk.2⟩ : _ ∧ k_ ≠ gb106))) (fun _ hk => hk.2) (.int .i64 (wrap64 (1 + (Int.tmod t105 6))))) (fun _ hk => hk.2) (.int .i64 (wrap64 (1 + (Int.tmod (wrap64 (Int.tdiv t105 6)) 9))))) (fun _ hk => hk.2) (.slice none 0 0)) (fun _ hk => hk.2) (.int .i64 (wrap64 ((wrap64 (1 + (Int.tmod (wrap64 (Int.tdiv t105 6)) 9))) * (wrap64 (1 + (Int.tmod (wrap64 (Int.tdiv t105 216)) 50))))))) (fun _ hk => hk.1.2)⟩, ⟨by (with_reducible repeat (first | refine blk_drewN ?_ _ | refine blk_drew ?_ | refine blk_alloc ?_ _)); refine blk_put (cs := #[.int .i64 (wrap64 (1 + (Int.tmod t105 6))), .int .i64 (wrap64 (1 + (Int.tmod (wrap64 (Int.tdiv t105 6)) 9))), .slice none 0 0]) ?_ 1 _ rfl; (with_reducible repeat (first | refine blk_drewN ?_ _ | refine blk_drew ?_ | refine blk_alloc ?_ _)); refine blk_put (cs := #[.int .i64 (wrap64 (1 + (Int.tmod t105 6))), .int .i64 (wrap64 (1 + (Int.tmod (wrap64 (Int.tdiv t105 6)) 9))), .slice none 0 0]) ?_ 2 _ rfl; (with_reducible repeat (first | refine blk_drewN ?_ _ | refine blk_drew ?_ | refine blk_alloc ?_ _)); refine blk_put (cs := #[.int .i64 (wrap64 (1 + (Int.tmod t105 6))), .int .i64 0, .slice none 0 0]) ?_ 1 _ rfl; (with_reducible repeat (first | refine blk_drewN ?_ _ | refine blk_drew ?_ | refine blk_alloc ?_ _)); refine blk_put (cs := #[.int .i64 0, .int .i64 0, .slice none 0 0]) ?_ 0 _ rfl; (with_reducible repeat (first | refine blk_drewN ?_ _ | refine blk_drew ?_ | refine blk_alloc ?_ _)); exact BK106.out⟩, ⟨by repeat (first | (with_reducible first | exact HB.out | apply below_alloc | apply pw_below_drewN | apply below_drew1 | refine below_set ?_ GE106.out) | exact HB.out)⟩⟩
     ·rw [if_neg c10] at H
      have c10b0 : ((Int.tmod (wrap64 (Int.tdiv t105 54)) 4) == 0) = false := beq_eq_false_iff_ne.mpr c10
      have c10b1 : ((Int.tmod (wrap64 (Int.tdiv t105 54)) 4) != 0) = true := bne_iff_ne.mpr c10
      (first | rw [c10b0] | (simp only [i64_w, i32_w]; rw [c10b0]) | skip)
      have H' := Aside0.mk H
      clear H
      go_wp2
      go_meet
      case rel => exact ⟨_, (wrap64 (1 + (Int.tmod (wrap64 (Int.tdiv t105 6)) 9))), H', ⟨by have := HK1.out; first | omega | exact Nat.le_refl _⟩, ⟨by (with_reducible repeat (first | apply Kd.S_alloc | apply Kd.S_drewN | apply Kd.S_drew)); exact Kd.S_mono (Kd.S_far (p := ⟨gb106, 2, none⟩) (Kd.S_far (p := ⟨gb106, 1, none⟩) (Kd.S_far (p := ⟨gb106, 0, none⟩) (Kd.S_mono HO_7.out (fun k_ hk => (⟨hk, hk.2⟩ : _ ∧ k_ ≠ gb106))) (fun _ hk => hk.2) (.int .i64 (wrap64 (1 + (Int.tmod t105 6))))) (fun _ hk => hk.2) (.int .i64 (wrap64 (1 + (Int.tmod (wrap64 (Int.tdiv t105 6)) 9))))) (fun _ hk => hk.2) (.slice none 0 0)) (fun _ hk => hk.1.2)⟩, ⟨by (with_reducible repeat (first | refine blk_drewN ?_ _ | refine blk_drew ?_ | refine blk_alloc ?_ _)); refine blk_put (cs := #[.int .i64 (wrap64 (1 + (Int.tmod t105 6))), .int .i64 (wrap64 (1 + (Int.tmod (wrap64 (Int.tdiv t105 6)) 9))), .slice none 0 0]) ?_ 2 _ rfl; (with_reducible repeat (first | refine blk_drewN ?_ _ | refine blk_drew ?_ | refine blk_alloc ?_ _)); refine blk_put (cs := #[.int .i64 (wrap64 (1 + (Int.tmod t105 6))), .int .i64 0, .slice none 0 0]) ?_ 1 _ rfl; (with_reducible repeat (first | refine blk_drewN ?_ _ | refine blk_drew ?_ | refine blk_alloc ?_ _)); refine blk_put (cs := #[.int .i64 0, .int .i64 0, .slice none 0 0]) ?_ 0 _ rfl; (with_reducible repeat (first | refine blk_drewN ?_ _ | refine blk_drew ?_ | refine blk_alloc ?_ _)); exact BK106.out⟩, ⟨by repeat (first | (with_reducible first | exact HB.out | apply below_alloc | apply pw_below_drewN | apply below_drew1 | refine below_set ?_ GE106.out) | exact HB.out)⟩⟩
    case rest =>
     clear HC7
     try clear c1
     try clear p2
     try clear c3
     try clear c5
     try clear c5b0
     try clear p6
     try clear c10
     try clear c10b0
     try clear c10b1
     try clear hcz11_0
     try clear hcz11_1
     try clear hcz11_2
     try clear hcz9_0
     try clear hcz9_1
     try clear hcz9_2
     try clear hfz11_0
     try clear hfz11_1
     try clear hfz11_2
     try clear hfz9_0
     try clear hfz9_1
     try clear hfz9_2
     try clear p2
     obtain ⟨kq, x107001_6, HA, HJ6, HO_7, BK106, HB⟩ := hcut
     cases kq with
     | zero => exact absurd HA.out (by simp [worldmintref27_Bids.j1])
     | succ kj6 =>
      have H := HA.out
      clear HA
      simp only [worldmintref27_Bids.j1] at H
      replace H := Option.bind_eq_some_iff.mp H
      obtain ⟨t107, A120, H⟩ := H
      replace H : ((worldmintref01_Pick.f l1 (wrap64 (3 + (wrap64 (3 * x8_1)))) 255).bind fun t108 => (worldmintref27_Bids.l1 kj6 a0 l1 a2 x7_1 x8_1 (Go.bits .and .i64 t107 (Go.bits .or .i64 t108 17)) 0 (wrap64 (1 + (Int.tmod t105 6))) x107001_6 ([] : List Int))) = some r := H
      have A12 := Aside0.mk A120
      clear A120
      replace H := Option.bind_eq_some_iff.mp H
      obtain ⟨t108, A130, H⟩ := H
      replace H : (worldmintref27_Bids.l1 kj6 a0 l1 a2 x7_1 x8_1 (Go.bits .and .i64 t107 (Go.bits .or .i64 t108 17)) 0 (wrap64 (1 + (Int.tmod t105 6))) x107001_6 ([] : List Int)) = some r := H
      have A13 := Aside0.mk A130
      clear A130
      have H' := Aside0.mk H
      clear H
      go_wp2_with (first | ((with_reducible refine gate_callee (f := 34) rfl ?_); refine goesL_ (some 50) rfl rfl Try.func34 (by kernel_rfl) rfl #[.slice A1 l1.length c1, .int .i64 (wrap64 (2 + (wrap64 (3 * x8_1)))), .int .i64 255] rfl (by (try simp only [List.map_toArray, List.map_cons, List.map_nil]); first | done | rfl | (simp only [List.length_drop, List.length_take]; rfl)) ?_; (with_reducible refine (worldmintref01_Pick.calls _ _ l1 (wrap64 (2 + (wrap64 (3 * x8_1)))) 255 t107 _ ?side1 ?side2 A12.out).mono ?_); (case side1 => repeat (first | exact (Kd.C_below HR1.out HB.out) | (with_reducible refine Kd.C_alloc ?_ _) | (with_reducible refine Kd.C_drewN ?_ _) | (with_reducible refine Kd.C_drew ?_))); (case side2 => exact HC1.out); rintro e w' ⟨rfl, ⟨nd, rfl⟩⟩; refine ⟨_, rfl, ?_⟩) | ((with_reducible refine gate_callee (f := 34) rfl ?_); refine goesL_ (some 55) rfl rfl Try.func34 (by kernel_rfl) rfl #[.slice A1 l1.length c1, .int .i64 (wrap64 (3 + (wrap64 (3 * x8_1)))), .int .i64 255] rfl (by (try simp only [List.map_toArray, List.map_cons, List.map_nil]); first | done | rfl | (simp only [List.length_drop, List.length_take]; rfl)) ?_; (with_reducible refine (worldmintref01_Pick.calls _ _ l1 (wrap64 (3 + (wrap64 (3 * x8_1)))) 255 t108 _ ?side1 ?side2 A13.out).mono ?_); (case side1 => repeat (first | exact (Kd.C_below HR1.out (by repeat (first | (with_reducible first | exact HB.out | apply below_alloc | apply pw_below_drewN | apply below_drew1 | refine below_set ?_ GE106.out) | exact HB.out))) | (with_reducible refine Kd.C_alloc ?_ _) | (with_reducible refine Kd.C_drewN ?_ _) | (with_reducible refine Kd.C_drew ?_))); (case side2 => exact HC1.out); rintro e w' ⟨rfl, ⟨nd, rfl⟩⟩; refine ⟨_, rfl, ?_⟩))
      go_loopg [11, 12] kj6 (fun kq v11 v12 w' => ∃ (x11_3 : Int) (x12_3 : Int) (x107002_3 : List Int) (u107002 : Value), v11 = .int .i64 x11_3 ∧ v12 = .int .i64 x12_3 ∧ Aside0 (worldmintref27_Bids.l1 kq a0 l1 a2 x7_1 x8_1 x11_3 x12_3 (wrap64 (1 + (Int.tmod t105 6))) x107001_6 x107002_3 = some r) ∧ Aside0 (kq ≤ kj6) ∧ Aside0 (Kd.S k63 63 w' w.heap.size (fun k_ => some k_ ≠ (u107002 : Value).ownBlock ∧ k_ ≠ gb106) u7 x7_1) ∧ Aside0 (Kd.R (Kd.int .i64) 3 w' w.heap.size (fun _ => True) u107002 x107002_3) ∧ Aside0 (w'.heap[gb106]? = some (.cells #[.int .i64 (wrap64 (1 + (Int.tmod t105 6))), .int .i64 x107001_6, u107002] 63 (0, 0))) ∧ Aside0 (Below w.heap.size w w'))
      case atStart => exact ⟨(Go.bits .and .i64 t107 (Go.bits .or .i64 t108 17)), (0), (([] : List Int)), (.slice none 0 0), (by first | rfl | (simp; done) | (simp [*]; done)), (by first | rfl | (simp; done) | (simp [*]; done)), H', ⟨Nat.le_refl _⟩, ⟨by (with_reducible repeat (first | apply Kd.S_alloc | apply Kd.S_drewN | apply Kd.S_drew)); exact Kd.S_mono HO_7.out (fun _ hk => ⟨(by simp [Value.ownBlock]), hk⟩)⟩, ⟨by first | exact Kd.R_nil _ _ _ _ _ | exact Kd.N_nil _ _ _ _ _ | exact Kd.V_nil _ _ _ _ _ | exact Kd.Q_nil _ _ _ _ _ | exact Kd.S_nil _ _ _ _ _⟩, ⟨by (with_reducible repeat (first | refine blk_drewN ?_ _ | refine blk_drew ?_ | refine blk_alloc ?_ _)); exact BK106.out⟩, ⟨by repeat (first | (with_reducible first | exact HB.out | apply below_alloc | apply pw_below_drewN | apply below_drew1 | refine below_set ?_ GE106.out) | exact HB.out)⟩⟩
      case round =>
       clear H'
       try clear c1
       try clear p2
       try clear c3
       try clear c5
       try clear c5b0
       try clear p6
       try clear c10
       try clear c10b0
       try clear c10b1
       try clear c12
       try clear hcz11_0
       try clear hcz11_1
       try clear hcz11_2
       try clear hcz9_0
       try clear hcz9_1
       try clear hcz9_2
       try clear hfz11_0
       try clear hfz11_1
       try clear hfz11_2
       try clear hfz9_0
       try clear hfz9_1
       try clear hfz9_2
       try clear p2
       try clear p6
       obtain ⟨x11_3, x12_3, x107002_3, u107002, rfl, rfl, HA, HK3, HO_7, HO_107002, BK106, HB⟩ := hrel
       cases gk with
       | zero => exact absurd HA.out (by simp [worldmintref27_Bids.l1])
       | succ k3 =>
        have H := HA.out
        clear HA
        simp only [worldmintref27_Bids.l1] at H
        by_cases c14 : x12_3 < a0
        ·rw [if_pos c14] at H
         have c14b0 : decide (x12_3 < a0) = true := decide_eq_true c14
         clear c14
         by_cases c15 : (Int.tmod x11_3 2) = 1
         ·rw [if_pos c15] at H
          have c15b0 : ((Int.tmod x11_3 2) == 1) = true := beq_iff_eq.mpr c15
          have c15b1 : ((Int.tmod x11_3 2) != 1) = false := bne_eq_false_iff_eq.mpr c15
          clear c15
          by_cases c16 : x107002_3.length < 17592186044416
          ·rw [if_pos c16] at H
           have LMc16 := Aside0.mk c16
           clear c16
           obtain ⟨y109, hy109⟩ : ∃ y_ : List Int, y_ = (x107002_3 ++ [x12_3]) := ⟨_, rfl⟩
           replace H : (worldmintref27_Bids.l1 k3 a0 l1 a2 x7_1 x8_1 (wrap64 (Int.tdiv x11_3 2)) (wrap64 (x12_3 + 1)) (wrap64 (1 + (Int.tmod t105 6))) x107001_6 y109) = some r := by first | (rw [hy109]; with_reducible exact H) | (have H2_ := (Option.bind_some _ _).symm.trans H; rw [hy109]; with_reducible exact H2_) | (have H2_ := (Option.bind_some _ _).symm.trans H; with_reducible exact H2_) | with_reducible exact H | (rw [hy109]; exact H) | exact H
           have Ny109 := Aside0.mk hy109
           clear hy109
           have H' := Aside0.mk H
           clear H
           have hcz17_0 : wr.cell? ⟨gb106, 0, none⟩ = some (.int .i64 (wrap64 (1 + (Int.tmod t105 6)))) := (blk_cell BK106.out 0).trans rfl
           have hcz17_1 : wr.cell? ⟨gb106, 1, none⟩ = some (.int .i64 x107001_6) := (blk_cell BK106.out 1).trans rfl
           have hcz17_2 : wr.cell? ⟨gb106, 2, none⟩ = some (u107002) := (blk_cell BK106.out 2).trans rfl
           have hfz17_0 := blk_frozen BK106.out 0
           have hfz17_1 := blk_frozen BK106.out 1
           have hfz17_2 := blk_frozen BK106.out 2
           go_wp2_with (first | ((with_reducible refine gate_builtin (b := .append) (xs := #[.tmp 79, .tmp 81]) rfl ?_); (try (refine gate_guard (by rfl) ?_; dsimp only)); at_builtin; refine Kd.R_append (Kd.int .i64) (w0 := w) w.heap.size rfl (.tmp 79) (.tmp 81) 22 3 (.int .i64 0) 8 rfl Try.underlying22 info3 rfl (by decide) (by omega) u107002 x107002_3 x12_3 [.int .i64 x12_3] (fun _ => True) (fun _ => False) rfl rfl ?aP (fun _ hk => hk.elim) ?aF ?aO ?aB ?aS ?aL ?_; (case aP => exact rfl); (case aB => exact (by repeat (first | (with_reducible first | exact HB.out | apply below_alloc | apply pw_below_drewN | apply below_drew1 | refine below_set ?_ GE106.out) | exact HB.out))); (case aF => exact (fun _ _ => trivial)); (case aO => exact (by (with_reducible repeat (first | apply Kd.R_alloc | apply Kd.R_drewN | apply Kd.R_drew)); exact HO_107002.out)); (case aS => exact (below_size (by repeat (first | (with_reducible first | exact HB.out | apply below_alloc | apply pw_below_drewN | apply below_drew1 | refine below_set ?_ GE106.out) | exact HB.out)))); (case aL => have := LMc16.out; omega); intro v110 w18 ho hb hg hat; rw [← Ny109.out] at ho; have n0_ := Aside0.mk (Kd.S_after (ok := (fun k_ => k_ ≠ gb106)) (by (with_reducible repeat (first | apply Kd.S_alloc | apply Kd.S_drewN | apply Kd.S_drew)); exact Kd.S_mono HO_7.out (fun _ hk => ⟨hk.2, hk.1⟩)) hg hat); have n1_ := Aside0.mk (blk_grown (g := gb106) (o := .cells #[.int .i64 (wrap64 (1 + (Int.tmod t105 6))), .int .i64 x107001_6, u107002] 63 (0, 0)) (by (with_reducible repeat (first | refine blk_drewN ?_ _ | refine blk_drew ?_ | refine blk_alloc ?_ _)); exact BK106.out) hg (Kd.R_ne HO_107002.out BK106.out (by decide))); have n2_ := Aside0.mk (hb); have n3_ := Aside0.mk (ho); clear HO_7; clear BK106; clear HB; clear HO_107002; have HO_7 := n0_; have BK106 := n1_; have HB := n2_; have HO111 := n3_; clear n0_ n1_ n2_ n3_; clear ho hb hg hat; obtain ⟨Ao19, co19, eo19⟩ := Kd.R_slice HO111.out; subst eo19; have hcz20_0 : w18.cell? ⟨gb106, 0, none⟩ = some (.int .i64 (wrap64 (1 + (Int.tmod t105 6)))) := (blk_cell BK106.out 0).trans rfl; have hcz20_1 : w18.cell? ⟨gb106, 1, none⟩ = some (.int .i64 x107001_6) := (blk_cell BK106.out 1).trans rfl; have hcz20_2 : w18.cell? ⟨gb106, 2, none⟩ = some (u107002) := (blk_cell BK106.out 2).trans rfl; have hfz20_0 := blk_frozen BK106.out 0; have hfz20_1 := blk_frozen BK106.out 1; have hfz20_2 := blk_frozen BK106.out 2))
           go_roundg k3
           case measure => have := HK1.out; have := HJ6.out; have := HK3.out; omega
           case rel => exact ⟨(wrap64 (Int.tdiv x11_3 2)), (wrap64 (x12_3 + 1)), (y109), (.slice Ao19 y109.length co19), (by first | rfl | (simp; done) | (simp [*]; done)), (by first | rfl | (simp; done) | (simp [*]; done)), H', ⟨by have := HK1.out; have := HJ6.out; have := HK3.out; omega⟩, ⟨by (with_reducible repeat (first | apply Kd.S_alloc | apply Kd.S_drewN | apply Kd.S_drew)); exact Kd.S_mono (Kd.S_far (p := ⟨gb106, 2, none⟩) (Kd.S_mono HO_7.out (fun k_ hk => (⟨hk, hk.1⟩ : _ ∧ k_ ≠ gb106))) (fun _ hk => hk.2) (.slice Ao19 y109.length co19)) (fun _ hk => ⟨hk.1.2, hk.1.1⟩)⟩, ⟨by (with_reducible repeat (first | apply Kd.R_alloc | apply Kd.R_drewN | apply Kd.R_drew)); exact Kd.R_mono (Kd.R_far (p := ⟨gb106, 2, none⟩) (Kd.R_types HO111.out BK106.out (by decide)) (fun _ hk => hk.2) (.slice Ao19 y109.length co19)) (fun _ hk => trivial)⟩, ⟨by (with_reducible repeat (first | refine blk_drewN ?_ _ | refine blk_drew ?_ | refine blk_alloc ?_ _)); refine blk_put (cs := #[.int .i64 (wrap64 (1 + (Int.tmod t105 6))), .int .i64 x107001_6, u107002]) ?_ 2 _ rfl; (with_reducible repeat (first | refine blk_drewN ?_ _ | refine blk_drew ?_ | refine blk_alloc ?_ _)); exact BK106.out⟩, ⟨by repeat (first | (with_reducible first | exact HB.out | apply below_alloc | apply pw_below_drewN | apply below_drew1 | refine below_set ?_ GE106.out) | exact HB.out)⟩⟩
          ·rw [if_neg c16] at H
           exact absurd H (by simp)
         ·rw [if_neg c15] at H
          have c15b0 : ((Int.tmod x11_3 2) == 1) = false := beq_eq_false_iff_ne.mpr c15
          have c15b1 : ((Int.tmod x11_3 2) != 1) = true := bne_iff_ne.mpr c15
          by_cases c21 : x12_3 = (wrap64 (a0 - 1))
          ·rw [if_pos c21] at H
           have c21b0 : (x12_3 == (wrap64 (a0 - 1))) = true := beq_iff_eq.mpr c21
           have c21b1 : (x12_3 != (wrap64 (a0 - 1))) = false := bne_eq_false_iff_eq.mpr c21
           clear c21
           by_cases c22 : (x107002_3.length : Int) = 0
           ·rw [if_pos c22] at H
            have c22b0 : ((x107002_3.length : Int) == 0) = true := beq_iff_eq.mpr c22
            have c22b1 : ((x107002_3.length : Int) != 0) = false := bne_eq_false_iff_eq.mpr c22
            clear c22
            by_cases c23 : x107002_3.length < 17592186044416
            ·rw [if_pos c23] at H
             have LMc23 := Aside0.mk c23
             clear c23
             obtain ⟨y112, hy112⟩ : ∃ y_ : List Int, y_ = (x107002_3 ++ [x12_3]) := ⟨_, rfl⟩
             replace H : (worldmintref27_Bids.l1 k3 a0 l1 a2 x7_1 x8_1 (wrap64 (Int.tdiv x11_3 2)) (wrap64 (x12_3 + 1)) (wrap64 (1 + (Int.tmod t105 6))) x107001_6 y112) = some r := by first | (rw [hy112]; with_reducible exact H) | (have H2_ := (Option.bind_some _ _).symm.trans H; rw [hy112]; with_reducible exact H2_) | (have H2_ := (Option.bind_some _ _).symm.trans H; with_reducible exact H2_) | with_reducible exact H | (rw [hy112]; exact H) | exact H
             have Ny112 := Aside0.mk hy112
             clear hy112
             have H' := Aside0.mk H
             clear H
             have hcz24_0 : wr.cell? ⟨gb106, 0, none⟩ = some (.int .i64 (wrap64 (1 + (Int.tmod t105 6)))) := (blk_cell BK106.out 0).trans rfl
             have hcz24_1 : wr.cell? ⟨gb106, 1, none⟩ = some (.int .i64 x107001_6) := (blk_cell BK106.out 1).trans rfl
             have hcz24_2 : wr.cell? ⟨gb106, 2, none⟩ = some (u107002) := (blk_cell BK106.out 2).trans rfl
             have hfz24_0 := blk_frozen BK106.out 0
             have hfz24_1 := blk_frozen BK106.out 1
             have hfz24_2 := blk_frozen BK106.out 2
             obtain ⟨Ao25, co25, eo25⟩ := Kd.R_slice HO_107002.out
             subst eo25
             go_wp2_with (first | ((with_reducible refine gate_builtin (b := .append) (xs := #[.tmp 79, .tmp 81]) rfl ?_); (try (refine gate_guard (by rfl) ?_; dsimp only)); at_builtin; refine Kd.R_append (Kd.int .i64) (w0 := w) w.heap.size rfl (.tmp 79) (.tmp 81) 22 3 (.int .i64 0) 8 rfl Try.underlying22 info3 rfl (by decide) (by omega) (.slice Ao25 x107002_3.length co25) x107002_3 x12_3 [.int .i64 x12_3] (fun _ => True) (fun _ => False) rfl rfl ?aP (fun _ hk => hk.elim) ?aF ?aO ?aB ?aS ?aL ?_; (case aP => exact rfl); (case aB => exact (by repeat (first | (with_reducible first | exact HB.out | apply below_alloc | apply pw_below_drewN | apply below_drew1 | refine below_set ?_ GE106.out) | exact HB.out))); (case aF => exact (fun _ _ => trivial)); (case aO => exact (by (with_reducible repeat (first | apply Kd.R_alloc | apply Kd.R_drewN | apply Kd.R_drew)); exact HO_107002.out)); (case aS => exact (below_size (by repeat (first | (with_reducible first | exact HB.out | apply below_alloc | apply pw_below_drewN | apply below_drew1 | refine below_set ?_ GE106.out) | exact HB.out)))); (case aL => have := LMc23.out; omega); intro v113 w26 ho hb hg hat; rw [← Ny112.out] at ho; have n0_ := Aside0.mk (Kd.S_after (ok := (fun k_ => k_ ≠ gb106)) (by (with_reducible repeat (first | apply Kd.S_alloc | apply Kd.S_drewN | apply Kd.S_drew)); exact Kd.S_mono HO_7.out (fun _ hk => ⟨hk.2, hk.1⟩)) hg hat); have n1_ := Aside0.mk (blk_grown (g := gb106) (o := .cells #[.int .i64 (wrap64 (1 + (Int.tmod t105 6))), .int .i64 x107001_6, .slice Ao25 x107002_3.length co25] 63 (0, 0)) (by (with_reducible repeat (first | refine blk_drewN ?_ _ | refine blk_drew ?_ | refine blk_alloc ?_ _)); exact BK106.out) hg (Kd.R_ne HO_107002.out BK106.out (by decide))); have n2_ := Aside0.mk (hb); have n3_ := Aside0.mk (ho); clear HO_7; clear BK106; clear HB; clear HO_107002; have HO_7 := n0_; have BK106 := n1_; have HB := n2_; have HO114 := n3_; clear n0_ n1_ n2_ n3_; clear ho hb hg hat; obtain ⟨Ao27, co27, eo27⟩ := Kd.R_slice HO114.out; subst eo27; have hcz28_0 : w26.cell? ⟨gb106, 0, none⟩ = some (.int .i64 (wrap64 (1 + (Int.tmod t105 6)))) := (blk_cell BK106.out 0).trans rfl; have hcz28_1 : w26.cell? ⟨gb106, 1, none⟩ = some (.int .i64 x107001_6) := (blk_cell BK106.out 1).trans rfl; have hcz28_2 : w26.cell? ⟨gb106, 2, none⟩ = some (.slice Ao25 x107002_3.length co25) := (blk_cell BK106.out 2).trans rfl; have hfz28_0 := blk_frozen BK106.out 0; have hfz28_1 := blk_frozen BK106.out 1; have hfz28_2 := blk_frozen BK106.out 2))
             go_roundg k3
             case measure => have := HK1.out; have := HJ6.out; have := HK3.out; omega
             case rel => exact ⟨(wrap64 (Int.tdiv x11_3 2)), (wrap64 (x12_3 + 1)), (y112), (.slice Ao27 y112.length co27), (by first | rfl | (simp; done) | (simp [*]; done)), (by first | rfl | (simp; done) | (simp [*]; done)), H', ⟨by have := HK1.out; have := HJ6.out; have := HK3.out; omega⟩, ⟨by (with_reducible repeat (first | apply Kd.S_alloc | apply Kd.S_drewN | apply Kd.S_drew)); exact Kd.S_mono (Kd.S_far (p := ⟨gb106, 2, none⟩) (Kd.S_mono HO_7.out (fun k_ hk => (⟨hk, hk.1⟩ : _ ∧ k_ ≠ gb106))) (fun _ hk => hk.2) (.slice Ao27 y112.length co27)) (fun _ hk => ⟨hk.1.2, hk.1.1⟩)⟩, ⟨by (with_reducible repeat (first | apply Kd.R_alloc | apply Kd.R_drewN | apply Kd.R_drew)); exact Kd.R_mono (Kd.R_far (p := ⟨gb106, 2, none⟩) (Kd.R_types HO114.out BK106.out (by decide)) (fun _ hk => hk.2) (.slice Ao27 y112.length co27)) (fun _ hk => trivial)⟩, ⟨by (with_reducible repeat (first | refine blk_drewN ?_ _ | refine blk_drew ?_ | refine blk_alloc ?_ _)); refine blk_put (cs := #[.int .i64 (wrap64 (1 + (Int.tmod t105 6))), .int .i64 x107001_6, .slice Ao25 x107002_3.length co25]) ?_ 2 _ rfl; (with_reducible repeat (first | refine blk_drewN ?_ _ | refine blk_drew ?_ | refine blk_alloc ?_ _)); exact BK106.out⟩, ⟨by repeat (first | (with_reducible first | exact HB.out | apply below_alloc | apply pw_below_drewN | apply below_drew1 | refine below_set ?_ GE106.out) | exact HB.out)⟩⟩
            ·rw [if_neg c23] at H
             exact absurd H (by simp)
           ·rw [if_neg c22] at H
            have c22b0 : ((x107002_3.length : Int) == 0) = false := beq_eq_false_iff_ne.mpr c22
            have c22b1 : ((x107002_3.length : Int) != 0) = true := bne_iff_ne.mpr c22
            have c22b2 : ¬ (x107002_3 = []) := fun h_ => c22 (by rw [h_]; rfl)
            have H' := Aside0.mk H
            clear H
            have hcz29_0 : wr.cell? ⟨gb106, 0, none⟩ = some (.int .i64 (wrap64 (1 + (Int.tmod t105 6)))) := (blk_cell BK106.out 0).trans rfl
            have hcz29_1 : wr.cell? ⟨gb106, 1, none⟩ = some (.int .i64 x107001_6) := (blk_cell BK106.out 1).trans rfl
            have hcz29_2 : wr.cell? ⟨gb106, 2, none⟩ = some (u107002) := (blk_cell BK106.out 2).trans rfl
            have hfz29_0 := blk_frozen BK106.out 0
            have hfz29_1 := blk_frozen BK106.out 1
            have hfz29_2 := blk_frozen BK106.out 2
            obtain ⟨Ao30, co30, eo30⟩ := Kd.R_slice HO_107002.out
            subst eo30
            go_wp2
            go_roundg k3
            case measure => have := HK1.out; have := HJ6.out; have := HK3.out; omega
            case rel => exact ⟨(wrap64 (Int.tdiv x11_3 2)), (wrap64 (x12_3 + 1)), (x107002_3), (.slice Ao30 x107002_3.length co30), (by first | rfl | (simp; done) | (simp [*]; done)), (by first | rfl | (simp; done) | (simp [*]; done)), H', ⟨by have := HK1.out; have := HJ6.out; have := HK3.out; omega⟩, ⟨by (with_reducible repeat (first | apply Kd.S_alloc | apply Kd.S_drewN | apply Kd.S_drew)); exact HO_7.out⟩, ⟨by (with_reducible repeat (first | apply Kd.R_alloc | apply Kd.R_drewN | apply Kd.R_drew)); exact HO_107002.out⟩, ⟨by (with_reducible repeat (first | refine blk_drewN ?_ _ | refine blk_drew ?_ | refine blk_alloc ?_ _)); exact BK106.out⟩, ⟨by repeat (first | (with_reducible first | exact HB.out | apply below_alloc | apply pw_below_drewN | apply below_drew1 | refine below_set ?_ GE106.out) | exact HB.out)⟩⟩
          ·rw [if_neg c21] at H
           have c21b0 : (x12_3 == (wrap64 (a0 - 1))) = false := beq_eq_false_iff_ne.mpr c21
           have c21b1 : (x12_3 != (wrap64 (a0 - 1))) = true := bne_iff_ne.mpr c21
           have H' := Aside0.mk H
           clear H
           go_wp2
           go_roundg k3
           case measure => have := HK1.out; have := HJ6.out; have := HK3.out; omega
           case rel => exact ⟨(wrap64 (Int.tdiv x11_3 2)), (wrap64 (x12_3 + 1)), (x107002_3), (u107002), (by first | rfl | (simp; done) | (simp [*]; done)), (by first | rfl | (simp; done) | (simp [*]; done)), H', ⟨by have := HK1.out; have := HJ6.out; have := HK3.out; omega⟩, ⟨by (with_reducible repeat (first | apply Kd.S_alloc | apply Kd.S_drewN | apply Kd.S_drew)); exact HO_7.out⟩, ⟨by (with_reducible repeat (first | apply Kd.R_alloc | apply Kd.R_drewN | apply Kd.R_drew)); exact HO_107002.out⟩, ⟨by (with_reducible repeat (first | refine blk_drewN ?_ _ | refine blk_drew ?_ | refine blk_alloc ?_ _)); exact BK106.out⟩, ⟨by repeat (first | (with_reducible first | exact HB.out | apply below_alloc | apply pw_below_drewN | apply below_drew1 | refine below_set ?_ GE106.out) | exact HB.out)⟩⟩
        ·rw [if_neg c14] at H
         have c14b0 : decide (x12_3 < a0) = false := decide_eq_false c14
         clear c14
         by_cases c31 : x7_1.length < 3518437208883
         ·rw [if_pos c31] at H
          have LMc31 := Aside0.mk c31
          clear c31
          obtain ⟨y115, hy115⟩ : ∃ y_ : List (S63), y_ = (x7_1 ++ [(⟨(wrap64 (1 + (Int.tmod t105 6))), x107001_6, x107002_3⟩ : S63)]) := ⟨_, rfl⟩
          replace H : (worldmintref27_Bids.l0 k3 a0 l1 a2 y115 (wrap64 (x8_1 + 1))) = some r := by first | (rw [hy115]; with_reducible exact H) | (have H2_ := (Option.bind_some _ _).symm.trans H; rw [hy115]; with_reducible exact H2_) | (have H2_ := (Option.bind_some _ _).symm.trans H; with_reducible exact H2_) | with_reducible exact H | (rw [hy115]; exact H) | exact H
          have Ny115 := Aside0.mk hy115
          clear hy115
          have H' := Aside0.mk H
          clear H
          have hcz32_0 : wr.cell? ⟨gb106, 0, none⟩ = some (.int .i64 (wrap64 (1 + (Int.tmod t105 6)))) := (blk_cell BK106.out 0).trans rfl
          have hcz32_1 : wr.cell? ⟨gb106, 1, none⟩ = some (.int .i64 x107001_6) := (blk_cell BK106.out 1).trans rfl
          have hcz32_2 : wr.cell? ⟨gb106, 2, none⟩ = some (u107002) := (blk_cell BK106.out 2).trans rfl
          have hfz32_0 := blk_frozen BK106.out 0
          have hfz32_1 := blk_frozen BK106.out 1
          have hfz32_2 := blk_frozen BK106.out 2
          obtain ⟨Ao34, co34, eo34⟩ := Kd.R_slice HO_107002.out
          subst eo34
          go_wp2_with (first | ((with_reducible refine gate_builtin (b := .append) (xs := #[.tmp 86, .tmp 88]) rfl ?_); (try (refine gate_guard (by rfl) ?_; dsimp only)); at_builtin; refine Kd.S_append k63 (w0 := w) w.heap.size rfl (.tmp 86) (.tmp 88) 24 63 (.agg #[(.int .i64 0), (.int .i64 0), (.slice none 0 0)]) 40 rfl Try.underlying24 info63 rfl (by decide) (by omega) u7 x7_1 (⟨(wrap64 (1 + (Int.tmod t105 6))), x107001_6, x107002_3⟩ : S63) [.int .i64 (wrap64 (1 + (Int.tmod t105 6))), .int .i64 x107001_6, .slice Ao34 x107002_3.length co34] (fun k_ => k_ ≠ gb106) (fun k_ => some k_ = (.slice Ao34 x107002_3.length co34 : Value).ownBlock) rfl rfl ?aP (fun k_ hk_ => ((Kd.R_mono (ok' := fun k_ => ((fun k_ => k_ ≠ gb106)) k_ ∧ some k_ ≠ (u7 : Value).ownBlock) (Kd.R_types (Kd.R_apart' (HO_107002.out) (Kd.S_typed HO_7.out) (by decide)) BK106.out (by decide)) (fun k_ hk => ⟨hk.2, hk.1.2⟩))).1 k_ hk_.symm) ?aF ?aO ?aB ?aS ?aL ?_; (case aP => exact k63_mkM _ _ _ (⟨(wrap64 (1 + (Int.tmod t105 6))), x107001_6, x107002_3⟩ : S63) (Kd.R_mono (Kd.R_tight rfl (Kd.R_mono (ok' := fun k_ => ((fun k_ => k_ ≠ gb106)) k_ ∧ some k_ ≠ (u7 : Value).ownBlock) (Kd.R_types (Kd.R_apart' (HO_107002.out) (Kd.S_typed HO_7.out) (by decide)) BK106.out (by decide)) (fun k_ hk => ⟨hk.2, hk.1.2⟩))) (fun _ h_ => h_))); (case aB => exact (by repeat (first | (with_reducible first | exact HB.out | apply below_alloc | apply pw_below_drewN | apply below_drew1 | refine below_set ?_ GE106.out) | exact HB.out))); (case aF => exact (fun k_ hk => Kd.freshB (g := gb106) (o := .cells #[.int .i64 (wrap64 (1 + (Int.tmod t105 6))), .int .i64 x107001_6, .slice Ao34 x107002_3.length co34] 63 (0, 0)) (by (with_reducible repeat (first | refine blk_drewN ?_ _ | refine blk_drew ?_ | refine blk_alloc ?_ _)); exact BK106.out) k_ hk)); (case aO => exact (by (with_reducible repeat (first | apply Kd.S_alloc | apply Kd.S_drewN | apply Kd.S_drew)); exact Kd.S_mono HO_7.out (fun k_ hk => ⟨hk.2, fun e_ => hk.1 e_⟩))); (case aS => exact (below_size (by repeat (first | (with_reducible first | exact HB.out | apply below_alloc | apply pw_below_drewN | apply below_drew1 | refine below_set ?_ GE106.out) | exact HB.out)))); (case aL => have := LMc31.out; omega); intro v116 w33 ho hb hg hat; rw [← Ny115.out] at ho; have n0_ := Aside0.mk (blk_grown (g := gb106) (o := .cells #[.int .i64 (wrap64 (1 + (Int.tmod t105 6))), .int .i64 x107001_6, .slice Ao34 x107002_3.length co34] 63 (0, 0)) (by (with_reducible repeat (first | refine blk_drewN ?_ _ | refine blk_drew ?_ | refine blk_alloc ?_ _)); exact BK106.out) hg (Kd.S_away HO_7.out (fun _ hk => hk.2))); have n1_ := Aside0.mk (hb); have n2_ := Aside0.mk (ho); clear BK106; clear HB; clear HO_7; clear HO_107002; have BK106 := n0_; have HB := n1_; have HO117 := n2_; clear n0_ n1_ n2_; clear ho hb hg hat))
          go_roundg k3
          case measure => have := HK1.out; have := HJ6.out; have := HK3.out; omega
          case rel => exact ⟨(y115), (wrap64 (x8_1 + 1)), (by first | rfl | (simp; done) | (simp [*]; done)), H', ⟨by have := HK1.out; have := HJ6.out; have := HK3.out; omega⟩, ⟨by (with_reducible repeat (first | apply Kd.S_alloc | apply Kd.S_drewN | apply Kd.S_drew)); exact Kd.S_mono HO117.out (fun _ hk => trivial)⟩, ⟨by repeat (first | (with_reducible first | exact HB.out | apply below_alloc | apply pw_below_drewN | apply below_drew1 | refine below_set ?_ GE106.out) | exact HB.out)⟩⟩
         ·rw [if_neg c31] at H
          exact absurd H (by simp)
   ·rw [if_neg c5] at H
    have c5b0 : decide (x8_1 < t104) = false := decide_eq_false c5
    clear c5
    obtain rfl := Option.some.inj H
    go_wp2_with (first | ((with_reducible refine gate_callee (f := 34) rfl ?_); refine goesL_ (some 17) rfl rfl Try.func34 (by kernel_rfl) rfl #[.slice A1 l1.length c1, .int .i64 0, .int .i64 (wrap64 (a2 + 1))] rfl (by (try simp only [List.map_toArray, List.map_cons, List.map_nil]); first | done | rfl | (simp only [List.length_drop, List.length_take]; rfl)) ?_; (with_reducible refine (worldmintref01_Pick.calls _ _ l1 0 (wrap64 (a2 + 1)) t104 _ ?side1 ?side2 A4.out).mono ?_); (case side1 => repeat (first | exact (Kd.C_below HR1.out HB.out) | (with_reducible refine Kd.C_alloc ?_ _) | (with_reducible refine Kd.C_drewN ?_ _) | (with_reducible refine Kd.C_drew ?_))); (case side2 => exact HC1.out); rintro e w' ⟨rfl, ⟨nd, rfl⟩⟩; refine ⟨_, rfl, ?_⟩))
    go_ret
    exact ⟨_, by first | rfl | (simp [errW_none, errW_some] <;> rfl) | (simp [*, errW_none, errW_some] <;> rfl), by (with_reducible repeat (first | apply Kd.S_alloc | apply Kd.S_drewN | apply Kd.S_drew)); exact HO_7.out, by repeat (first | (with_reducible first | exact HB.out | apply below_alloc | apply pw_below_drewN | apply below_drew1) | exact HB.out)⟩

end Go.Proofs.Ytecbfpcidoilmaa.H

/- Written by a program of this session over the kit's printer: what the functions named below compute, and that the machine's calls compute it. Not trusted: Lean checks it. -/
namespace Go.Proofs.Ytecbfpcidoilmaa.H
open Go.RowKit Go.Proofs.YtecbfpcidoilmaaW.PrintWords Go.Proofs.YtecbfpcidoilmaaW.PrintLast Go.Proofs.YtecbfpcidoilmaaW.PrintMore
attribute [local go_sem] max2_int min2_int max_two min_two max_three min_three max_four min_four   -- for this text's walks alone
set_option linter.unusedVariables false
set_option linter.unusedSimpArgs false

/-! ### worldmintref27_Spoilt: function 13 -/
def worldmintref27_Spoilt.f (l0 : List (S63)) (a1 : Int) (a2 : Int) (a3 : Int) : Option ((List (S63))) := if ([] : List (S63)).length + l0.length < 3518437208883 then ((some (([] : List (S63)) ++ l0 : List (S63))).bind fun y118 => (if (y118.length : Int) = 0 then (some y118) else ((worldmintref01_Around.f a1 (y118.length : Int)).bind fun t121 => (if 0 ≤ t121 then (if t121 < (y118.length : Int) then ((worldmintref01_Around.f a2 5).bind fun t124 => (if t124 = 0 then (some (y118.set (t121 : Int).toNat (⟨a3, (rd_T63 y118 t121).f1, (rd_T63 y118 t121).f2⟩ : S63))) else (if t124 = 1 then (some (y118.set (t121 : Int).toNat (⟨(rd_T63 y118 t121).f0, a3, (rd_T63 y118 t121).f2⟩ : S63))) else (if t124 = 2 then ((some (([] : List Int) : List Int)).bind fun y127 => (if y127.length + ((rd_T63 y118 t121).f2).length < 17592186044416 then ((some (y127 ++ ((rd_T63 y118 t121).f2) : List Int)).bind fun y130 => (if y130.length < 17592186044416 then (some (y118.set (t121 : Int).toNat (⟨(rd_T63 y118 t121).f0, (rd_T63 y118 t121).f1, (y130 ++ [a3])⟩ : S63))) else (none))) else (none))) else (if t124 = 3 then (some (y118.set (t121 : Int).toNat (⟨(rd_T63 y118 t121).f0, (rd_T63 y118 t121).f1, ([] : List Int)⟩ : S63))) else ((some (([a3] : List Int) : List Int)).bind fun y138 => (if y138.length + ((rd_T63 y118 t121).f2).length < 17592186044416 then (some (y118.set (t121 : Int).toNat (⟨(rd_T63 y118 t121).f0, (rd_T63 y118 t121).f1, (y138 ++ ((rd_T63 y118 t121).f2))⟩ : S63))) else (none)))))))) else (none)) else (none))))) else (none)
set_option maxHeartbeats 8000000 in
set_option maxRecDepth 100000 in
theorem worldmintref27_Spoilt.calls (P0_ : Nat → Prop) (A0 : Option Addr) (c0 : Nat) (l0 : List (S63)) (a1 : Int) (a2 : Int) (a3 : Int) (r : List (S63)) (w : World) (hs0 : Kd.V k63 63 w w.heap.size (fun k_ => P0_ k_) (.slice A0 l0.length c0) l0) (h : worldmintref27_Spoilt.f l0 a1 a2 a3 = some r) :
  Calls Try.prog 13 #[.slice A0 l0.length c0, .int .i64 a1, .int .i64 a2, .int .i64 a3] w fun e w' => ∃ v0_ : Value, e = .returned (v0_) ∧ Kd.N k63 63 w' w.heap.size (fun k_ => (P0_ k_ ∨ w.heap.size ≤ k_)) v0_ r ∧ Below w.heap.size w w' := by
 have hu63 := Try.underlying63
 have HO0 := Aside0.mk (show Kd.V k63 63 w w.heap.size (fun k_ => (P0_ k_ ∨ w.heap.size ≤ k_)) (.slice A0 l0.length c0) l0 from Kd.V_mono hs0 (fun k_ hk => .inl hk))
 have HB := Aside0.mk (Below.refl w.heap.size w)
 have H : (if ([] : List (S63)).length + l0.length < 3518437208883 then ((some (([] : List (S63)) ++ l0 : List (S63))).bind fun y118 => (if (y118.length : Int) = 0 then (some y118) else ((worldmintref01_Around.f a1 (y118.length : Int)).bind fun t121 => (if 0 ≤ t121 then (if t121 < (y118.length : Int) then ((worldmintref01_Around.f a2 5).bind fun t124 => (if t124 = 0 then (some (y118.set (t121 : Int).toNat (⟨a3, (rd_T63 y118 t121).f1, (rd_T63 y118 t121).f2⟩ : S63))) else (if t124 = 1 then (some (y118.set (t121 : Int).toNat (⟨(rd_T63 y118 t121).f0, a3, (rd_T63 y118 t121).f2⟩ : S63))) else (if t124 = 2 then ((some (([] : List Int) : List Int)).bind fun y127 => (if y127.length + ((rd_T63 y118 t121).f2).length < 17592186044416 then ((some (y127 ++ ((rd_T63 y118 t121).f2) : List Int)).bind fun y130 => (if y130.length < 17592186044416 then (some (y118.set (t121 : Int).toNat (⟨(rd_T63 y118 t121).f0, (rd_T63 y118 t121).f1, (y130 ++ [a3])⟩ : S63))) else (none))) else (none))) else (if t124 = 3 then (some (y118.set (t121 : Int).toNat (⟨(rd_T63 y118 t121).f0, (rd_T63 y118 t121).f1, ([] : List Int)⟩ : S63))) else ((some (([a3] : List Int) : List Int)).bind fun y138 => (if y138.length + ((rd_T63 y118 t121).f2).length < 17592186044416 then (some (y118.set (t121 : Int).toNat (⟨(rd_T63 y118 t121).f0, (rd_T63 y118 t121).f1, (y138 ++ ((rd_T63 y118 t121).f2))⟩ : S63))) else (none)))))))) else (none)) else (none))))) else (none)) = some r := h
 clear h
 by_cases c5 : ([] : List (S63)).length + l0.length < 3518437208883
 ·rw [if_pos c5] at H
  have LMc5 := Aside0.mk c5
  clear c5
  obtain ⟨y118, hy118⟩ : ∃ y_ : List (S63), y_ = (([] : List (S63)) ++ l0) := ⟨_, rfl⟩
  replace H : (if (y118.length : Int) = 0 then (some y118) else ((worldmintref01_Around.f a1 (y118.length : Int)).bind fun t121 => (if 0 ≤ t121 then (if t121 < (y118.length : Int) then ((worldmintref01_Around.f a2 5).bind fun t124 => (if t124 = 0 then (some (y118.set (t121 : Int).toNat (⟨a3, (rd_T63 y118 t121).f1, (rd_T63 y118 t121).f2⟩ : S63))) else (if t124 = 1 then (some (y118.set (t121 : Int).toNat (⟨(rd_T63 y118 t121).f0, a3, (rd_T63 y118 t121).f2⟩ : S63))) else (if t124 = 2 then ((some (([] : List Int) : List Int)).bind fun y127 => (if y127.length + ((rd_T63 y118 t121).f2).length < 17592186044416 then ((some (y127 ++ ((rd_T63 y118 t121).f2) : List Int)).bind fun y130 => (if y130.length < 17592186044416 then (some (y118.set (t121 : Int).toNat (⟨(rd_T63 y118 t121).f0, (rd_T63 y118 t121).f1, (y130 ++ [a3])⟩ : S63))) else (none))) else (none))) else (if t124 = 3 then (some (y118.set (t121 : Int).toNat (⟨(rd_T63 y118 t121).f0, (rd_T63 y118 t121).f1, ([] : List Int)⟩ : S63))) else ((some (([a3] : List Int) : List Int)).bind fun y138 => (if y138.length + ((rd_T63 y118 t121).f2).length < 17592186044416 then (some (y118.set (t121 : Int).toNat (⟨(rd_T63 y118 t121).f0, (rd_T63 y118 t121).f1, (y138 ++ ((rd_T63 y118 t121).f2))⟩ : S63))) else (none)))))))) else (none)) else (none)))) = some r := by first | (rw [hy118]; with_reducible exact H) | (have H2_ := (Option.bind_some _ _).symm.trans H; rw [hy118]; with_reducible exact H2_) | (have H2_ := (Option.bind_some _ _).symm.trans H; with_reducible exact H2_) | with_reducible exact H | (rw [hy118]; exact H) | exact H
  have Ny118 := Aside0.mk hy118
  clear hy118
  by_cases c6 : (y118.length : Int) = 0
  ·rw [if_pos c6] at H
   have c6b0 : ((y118.length : Int) == 0) = true := beq_iff_eq.mpr c6
   have c6b1 : ((y118.length : Int) != 0) = false := bne_eq_false_iff_eq.mpr c6
   clear c6
   obtain rfl := Option.some.inj H
   go_enter Try.func13, Try.ntmps13
   go_wp2_with (first | ((with_reducible refine gate_builtin (b := .append) (xs := #[.tmp 12, .tmp 13]) rfl ?_); at_builtin; refine Kd.N_append_rows k63 (w0 := w) w.heap.size rfl (.tmp 12) (.tmp 13) 24 63 (.agg #[(.int .i64 0), (.int .i64 0), (.slice none 0 0)]) 40 rfl Try.underlying24 info63 rfl (by decide) (by omega) (.slice none 0 0) ([] : List (S63)) l0 _ _ _ (fun k_ => (P0_ k_ ∨ w.heap.size ≤ k_)) (fun k_ => ((fun k_ => (P0_ k_ ∨ w.heap.size ≤ k_))) k_ ∧ some k_ ≠ (.slice none 0 0 : Value).ownBlock) rfl rfl ?aO ?aR (fun _ hk => hk) ?aF ?aB ?aS ?aL ?_; (case aR => exact (by skip; exact Kd.V_F (Kd.V_mono (ok' := (fun k_ => ((fun k_ => (P0_ k_ ∨ w.heap.size ≤ k_))) k_ ∧ some k_ ≠ (.slice none 0 0 : Value).ownBlock)) (HO0.out) (fun k_ hk => ⟨hk, (by simp [Value.ownBlock])⟩)))); (case aB => exact (by repeat (first | (with_reducible first | exact HB.out | apply below_alloc | apply pw_below_drewN | apply below_drew1) | exact HB.out))); (case aF => exact (fun k_ hk => (.inr (Nat.le_trans (below_size (by repeat (first | (with_reducible first | exact HB.out | apply below_alloc | apply pw_below_drewN | apply below_drew1) | exact HB.out))) hk)))); (case aO => exact ((Kd.N_nil _ _ _ _ (fun k_ => (P0_ k_ ∨ w.heap.size ≤ k_))))); (case aS => exact (below_size (by repeat (first | (with_reducible first | exact HB.out | apply below_alloc | apply pw_below_drewN | apply below_drew1) | exact HB.out)))); (case aL => have := LMc5.out; omega); intro v119 w7 ho hb hg hat; rw [← Ny118.out] at ho; have n0_ := Aside0.mk (Kd.V_afterv (Kd.V_apart_nil (by (with_reducible repeat (first | apply Kd.V_alloc | apply Kd.V_drewN | apply Kd.V_drew)); exact HO0.out)) hg hat); have n1_ := Aside0.mk (hb); have n2_ := Aside0.mk (ho); clear HO0; clear HB; have HO0 := n0_; have HB := n1_; have HO120 := n2_; clear n0_ n1_ n2_; clear ho hb hg hat; obtain ⟨Ao8, co8, eo8⟩ := Kd.N_slice HO120.out; subst eo8))
   go_ret
   exact ⟨_, by first | rfl | (simp [errW_none, errW_some] <;> rfl) | (simp [*, errW_none, errW_some] <;> rfl), by (with_reducible repeat (first | apply Kd.N_alloc | apply Kd.N_drewN | apply Kd.N_drew)); exact HO120.out, by repeat (first | (with_reducible first | exact HB.out | apply below_alloc | apply pw_below_drewN | apply below_drew1) | exact HB.out)⟩
  ·rw [if_neg c6] at H
   have c6b0 : ((y118.length : Int) == 0) = false := beq_eq_false_iff_ne.mpr c6
   have c6b1 : ((y118.length : Int) != 0) = true := bne_iff_ne.mpr c6
   have c6b2 : ¬ (y118 = []) := fun h_ => c6 (by rw [h_]; rfl)
   replace H := Option.bind_eq_some_iff.mp H
   obtain ⟨t121, A90, H⟩ := H
   replace H : (if 0 ≤ t121 then (if t121 < (y118.length : Int) then ((worldmintref01_Around.f a2 5).bind fun t124 => (if t124 = 0 then (some (y118.set (t121 : Int).toNat (⟨a3, (rd_T63 y118 t121).f1, (rd_T63 y118 t121).f2⟩ : S63))) else (if t124 = 1 then (some (y118.set (t121 : Int).toNat (⟨(rd_T63 y118 t121).f0, a3, (rd_T63 y118 t121).f2⟩ : S63))) else (if t124 = 2 then ((some (([] : List Int) : List Int)).bind fun y127 => (if y127.length + ((rd_T63 y118 t121).f2).length < 17592186044416 then ((some (y127 ++ ((rd_T63 y118 t121).f2) : List Int)).bind fun y130 => (if y130.length < 17592186044416 then (some (y118.set (t121 : Int).toNat (⟨(rd_T63 y118 t121).f0, (rd_T63 y118 t121).f1, (y130 ++ [a3])⟩ : S63))) else (none))) else (none))) else (if t124 = 3 then (some (y118.set (t121 : Int).toNat (⟨(rd_T63 y118 t121).f0, (rd_T63 y118 t121).f1, ([] : List Int)⟩ : S63))) else ((some (([a3] : List Int) : List Int)).bind fun y138 => (if y138.length + ((rd_T63 y118 t121).f2).length < 17592186044416 then (some (y118.set (t121 : Int).toNat (⟨(rd_T63 y118 t121).f0, (rd_T63 y118 t121).f1, (y138 ++ ((rd_T63 y118 t121).f2))⟩ : S63))) else (none)))))))) else (none)) else (none)) = some r := H
   have A9 := Aside0.mk A90
   clear A90
   by_cases c10 : 0 ≤ t121
   ·rw [if_pos c10] at H
    have c10b0 : decide (0 ≤ t121) = true := decide_eq_true c10
    clear c10
    by_cases c11 : t121 < (y118.length : Int)
    ·rw [if_pos c11] at H
     have c11b0 : decide (t121 < (y118.length : Int)) = true := decide_eq_true c11
     clear c11
     replace H := Option.bind_eq_some_iff.mp H
     obtain ⟨t124, A120, H⟩ := H
     replace H : (if t124 = 0 then (some (y118.set (t121 : Int).toNat (⟨a3, (rd_T63 y118 t121).f1, (rd_T63 y118 t121).f2⟩ : S63))) else (if t124 = 1 then (some (y118.set (t121 : Int).toNat (⟨(rd_T63 y118 t121).f0, a3, (rd_T63 y118 t121).f2⟩ : S63))) else (if t124 = 2 then ((some (([] : List Int) : List Int)).bind fun y127 => (if y127.length + ((rd_T63 y118 t121).f2).length < 17592186044416 then ((some (y127 ++ ((rd_T63 y118 t121).f2) : List Int)).bind fun y130 => (if y130.length < 17592186044416 then (some (y118.set (t121 : Int).toNat (⟨(rd_T63 y118 t121).f0, (rd_T63 y118 t121).f1, (y130 ++ [a3])⟩ : S63))) else (none))) else (none))) else (if t124 = 3 then (some (y118.set (t121 : Int).toNat (⟨(rd_T63 y118 t121).f0, (rd_T63 y118 t121).f1, ([] : List Int)⟩ : S63))) else ((some (([a3] : List Int) : List Int)).bind fun y138 => (if y138.length + ((rd_T63 y118 t121).f2).length < 17592186044416 then (some (y118.set (t121 : Int).toNat (⟨(rd_T63 y118 t121).f0, (rd_T63 y118 t121).f1, (y138 ++ ((rd_T63 y118 t121).f2))⟩ : S63))) else (none))))))) = some r := H
     have A12 := Aside0.mk A120
     clear A120
     by_cases c13 : t124 = 0
     ·rw [if_pos c13] at H
      have c13b0 : (t124 == 0) = true := beq_iff_eq.mpr c13
      have c13b1 : (t124 != 0) = false := bne_eq_false_iff_eq.mpr c13
      clear c13
      obtain ⟨y125, hy125⟩ : ∃ y_ : List (S63), y_ = (y118.set (t121 : Int).toNat (⟨a3, (rd_T63 y118 t121).f1, (rd_T63 y118 t121).f2⟩ : S63)) := ⟨_, rfl⟩
      replace H : (some y125) = some r := by first | (rw [hy125]; with_reducible exact H) | (have H2_ := (Option.bind_some _ _).symm.trans H; rw [hy125]; with_reducible exact H2_) | (have H2_ := (Option.bind_some _ _).symm.trans H; with_reducible exact H2_) | with_reducible exact H | (rw [hy125]; exact H) | exact H
      have Ny125 := Aside0.mk hy125
      clear hy125
      obtain rfl := Option.some.inj H
      go_enter Try.func13, Try.ntmps13
      go_wp2_with (first | ((with_reducible refine gate_builtin (b := .append) (xs := #[.tmp 12, .tmp 13]) rfl ?_); at_builtin; refine Kd.N_append_rows k63 (w0 := w) w.heap.size rfl (.tmp 12) (.tmp 13) 24 63 (.agg #[(.int .i64 0), (.int .i64 0), (.slice none 0 0)]) 40 rfl Try.underlying24 info63 rfl (by decide) (by omega) (.slice none 0 0) ([] : List (S63)) l0 _ _ _ (fun k_ => (P0_ k_ ∨ w.heap.size ≤ k_)) (fun k_ => ((fun k_ => (P0_ k_ ∨ w.heap.size ≤ k_))) k_ ∧ some k_ ≠ (.slice none 0 0 : Value).ownBlock) rfl rfl ?aO ?aR (fun _ hk => hk) ?aF ?aB ?aS ?aL ?_; (case aR => exact (by skip; exact Kd.V_F (Kd.V_mono (ok' := (fun k_ => ((fun k_ => (P0_ k_ ∨ w.heap.size ≤ k_))) k_ ∧ some k_ ≠ (.slice none 0 0 : Value).ownBlock)) (HO0.out) (fun k_ hk => ⟨hk, (by simp [Value.ownBlock])⟩)))); (case aB => exact (by repeat (first | (with_reducible first | exact HB.out | apply below_alloc | apply pw_below_drewN | apply below_drew1) | exact HB.out))); (case aF => exact (fun k_ hk => (.inr (Nat.le_trans (below_size (by repeat (first | (with_reducible first | exact HB.out | apply below_alloc | apply pw_below_drewN | apply below_drew1) | exact HB.out))) hk)))); (case aO => exact ((Kd.N_nil _ _ _ _ (fun k_ => (P0_ k_ ∨ w.heap.size ≤ k_))))); (case aS => exact (below_size (by repeat (first | (with_reducible first | exact HB.out | apply below_alloc | apply pw_below_drewN | apply below_drew1) | exact HB.out)))); (case aL => have := LMc5.out; omega); intro v119 w15 ho hb hg hat; rw [← Ny118.out] at ho; have n0_ := Aside0.mk (Kd.V_afterv (Kd.V_apart_nil (by (with_reducible repeat (first | apply Kd.V_alloc | apply Kd.V_drewN | apply Kd.V_drew)); exact HO0.out)) hg hat); have n1_ := Aside0.mk (hb); have n2_ := Aside0.mk (ho); clear HO0; clear HB; have HO0 := n0_; have HB := n1_; have HO120 := n2_; clear n0_ n1_ n2_; clear ho hb hg hat; obtain ⟨Ao16, co16, eo16⟩ := Kd.N_slice HO120.out; subst eo16) | ((with_reducible refine gate_callee (f := 20) rfl ?_); refine goesL_ (some 22) rfl rfl Try.func20 (by kernel_rfl) rfl #[.int .i64 a1, .int .i64 (y118.length : Int)] rfl (by (try simp only [List.map_toArray, List.map_cons, List.map_nil]); first | done | rfl | (simp only [List.length_drop, List.length_take]; rfl)) ?_; (with_reducible refine (worldmintref01_Around.calls a1 (y118.length : Int) t121 _ A9.out).mono ?_); rintro e w' ⟨rfl, ⟨nd, rfl⟩⟩; refine ⟨_, rfl, ?_⟩; (try (rw [drewN_self w15]; generalize hq_ : World.drewN w15 _ = w15; have n0_ : Aside0 (Kd.V k63 63 w15 w.heap.size (fun k_ => (P0_ k_ ∨ w.heap.size ≤ k_) ∧ some k_ ≠ (.slice Ao16 y118.length co16 : Value).ownBlock) (.slice A0 l0.length c0) l0) := ⟨by rw [← hq_]; exact (by (with_reducible repeat (first | apply Kd.V_alloc | apply Kd.V_drewN | apply Kd.V_drew)); exact HO0.out)⟩; have n1_ : Aside0 (Kd.N k63 63 w15 w.heap.size (fun k_ => (P0_ k_ ∨ w.heap.size ≤ k_)) (.slice Ao16 y118.length co16) y118) := ⟨by rw [← hq_]; exact (by (with_reducible repeat (first | apply Kd.N_alloc | apply Kd.N_drewN | apply Kd.N_drew)); exact HO120.out)⟩; have n2_ : Aside0 (Below w.heap.size w w15) := ⟨by rw [← hq_]; exact (by repeat (first | (with_reducible first | exact HB.out | apply below_alloc | apply pw_below_drewN | apply below_drew1) | exact HB.out))⟩; clear HO0 HO120 HB hq_; have HO0 := n0_; have HO120 := n1_; have HB := n2_; clear n0_ n1_ n2_)); have p122 : 0 ≤ (t121 : Int) := of_decide_eq_true (by first | (with_reducible assumption) | assumption); have q122 : t121 < (y118.length : Int) := of_decide_eq_true (by first | (with_reducible assumption) | assumption); obtain ⟨ad122, A122_2, c122_2, e122, hx122_0, hx122_1, hx122_2, hl122_2, hi122_2⟩ := at_T63 (Kd.N_reads' HO120.out).2.2 t121 p122 q122; cases e122; obtain ⟨ce122, hce122, hMe122, hcc122⟩ := Kd.N_get HO120.out z63 t121 p122 (by first | exact q122 | exact of_decide_eq_true (by first | (with_reducible assumption) | assumption) | (have e_ := (Kd.N_reads' HO120.out).1; omega)); obtain ⟨ua122_2, uc122_2, rfl, ul122_2, ge122_2⟩ := k63_openF hMe122; have hv122_2 := hcc122 2 _ rfl; rw [add_field _ _ 2 (by omega)] at hv122_2; replace hv122_2 := Option.some.inj (hv122_2.symm.trans hx122_2); injection hv122_2 with hva_ hvn_ hvc_; rw [hva_] at ge122_2; rw [hvc_] at ul122_2; have HL122_2 := Aside0.mk (show Kd.V (Kd.int .i64) 3 _ w.heap.size _ _ ((rd_T63 y118 t121).f2) from Kd.V_mk ul122_2 ge122_2); clear hva_ hvn_ hvc_ ge122_2 ul122_2; clear hcc122 hce122; have HR122_2 := Aside0.mk hi122_2; have HC122_2 := Aside0.mk hl122_2; clear hi122_2 hl122_2; replace p122 := eq_true p122; replace q122 := eq_true q122) | ((with_reducible refine gate_dst (N := 11) rfl ?_); refine box_event ?hg (N := 11) ?hd (cs := #[.int .i64 0, .int .i64 0, .slice none 0 0]) (t := 63) ?hr ?_; (case hd => rfl); (case hg => rfl); (case hr => first | (go_simp; done) | (go_simp; rfl)); intro gb123 hg w17 hbox hb; have n0_ := Aside0.mk (Kd.V_below (Kd.V_elderB (by (with_reducible repeat (first | apply Kd.V_alloc | apply Kd.V_drewN | apply Kd.V_drew)); exact HO0.out) gb123 (Nat.le_of_eq hg.symm)) hb); have n1_ := Aside0.mk (Kd.N_below (Kd.N_elderB (by (with_reducible repeat (first | apply Kd.N_alloc | apply Kd.N_drewN | apply Kd.N_drew)); exact HO120.out) gb123 (Nat.le_of_eq hg.symm)) hb); have n2_ := Aside0.mk (Kd.V_below (Kd.V_elderB (by (with_reducible repeat (first | apply Kd.V_alloc | apply Kd.V_drewN | apply Kd.V_drew)); exact HL122_2.out) gb123 (Nat.le_of_eq hg.symm)) hb); have n3_ := Aside0.mk (Kd.C_below (by repeat (first | (with_reducible exact HR122_2.out) | (with_reducible refine Kd.C_alloc ?_ _) | (with_reducible refine Kd.C_drewN ?_ _) | (with_reducible refine Kd.C_drew ?_) | exact HR122_2.out)) hb); have n4_ := Aside0.mk (below_step (by repeat (first | (with_reducible first | exact HB.out | apply below_alloc | apply pw_below_drewN | apply below_drew1) | exact HB.out)) hb); have n5_ := Aside0.mk (hbox); have n6_ := Aside0.mk ((by rw [hg]; exact (below_size (by repeat (first | (with_reducible first | exact HB.out | apply below_alloc | apply pw_below_drewN | apply below_drew1) | exact HB.out))) : w.heap.size ≤ gb123)); have n7_ := Aside0.mk ((by rw [hg]; exact (below_size (by repeat (first | (with_reducible first | exact HB.out | apply below_alloc | apply pw_below_drewN | apply below_drew1) | exact HB.out))) : w.heap.size ≤ gb123)); clear HO0; clear HO120; clear HL122_2; clear HR122_2; clear HB; have HO0 := n0_; have HO120 := n1_; have HL122_2 := n2_; have HR122_2 := n3_; have HB := n4_; have BK123 := n5_; have GW123 := n6_; have GE123 := n7_; clear n0_ n1_ n2_ n3_ n4_ n5_ n6_ n7_; clear hb hbox hg; have hcz18_0 : w17.cell? ⟨gb123, 0, none⟩ = some (.int .i64 0) := (blk_cell BK123.out 0).trans rfl; have hcz18_1 : w17.cell? ⟨gb123, 1, none⟩ = some (.int .i64 0) := (blk_cell BK123.out 1).trans rfl; have hcz18_2 : w17.cell? ⟨gb123, 2, none⟩ = some (.slice none 0 0) := (blk_cell BK123.out 2).trans rfl; have hfz18_0 := blk_frozen BK123.out 0; have hfz18_1 := blk_frozen BK123.out 1; have hfz18_2 := blk_frozen BK123.out 2) | ((with_reducible refine gate_store (t := 63) (p := 11) rfl ?_); refine store_event (t := 63) (p := 11) (v := ?vo_w19) (w1 := (((w17.setCell ⟨gb123, 0, none⟩ (.int .i64 ((rd_T63 y118 t121).f0))).setCell ⟨gb123, 1, none⟩ (.int .i64 ((rd_T63 y118 t121).f1))).setCell ⟨gb123, 2, none⟩ (.slice A122_2 ((rd_T63 y118 t121).f2).length c122_2))) ?hg ?ho ?hn ?hr ?_; (case ho => rfl); (case hg => rfl); (case hn => rfl); (case hr => first | (go_simp; done) | (go_simp; rfl)); intro w19 hw; have n0_ : Aside0 (Kd.V k63 63 w19 w.heap.size (fun k_ => (P0_ k_ ∨ w.heap.size ≤ k_) ∧ some k_ ≠ (.slice (some ad122) y118.length co16 : Value).ownBlock ∧ k_ ≠ gb123) (.slice A0 l0.length c0) l0) := ⟨(by rw [hw]; exact (by (with_reducible repeat (first | apply Kd.V_alloc | apply Kd.V_drewN | apply Kd.V_drew)); exact Kd.V_mono (Kd.V_far (p := ⟨gb123, 2, none⟩) (Kd.V_far (p := ⟨gb123, 1, none⟩) (Kd.V_far (p := ⟨gb123, 0, none⟩) (Kd.V_mono HO0.out (fun k_ hk => (⟨hk, hk.2⟩ : _ ∧ k_ ≠ gb123))) (fun _ hk => hk.2) (.int .i64 ((rd_T63 y118 t121).f0))) (fun _ hk => hk.2) (.int .i64 ((rd_T63 y118 t121).f1))) (fun _ hk => hk.2) (.slice A122_2 ((rd_T63 y118 t121).f2).length c122_2)) (fun _ hk => ⟨hk.1.1.1, ⟨hk.1.1.2, hk.1.2⟩⟩)))⟩; have n1_ : Aside0 (Kd.N k63 63 w19 w.heap.size (fun k_ => (P0_ k_ ∨ w.heap.size ≤ k_) ∧ k_ ≠ gb123) (.slice (some ad122) y118.length co16) y118) := ⟨(by rw [hw]; exact (by (with_reducible repeat (first | apply Kd.N_alloc | apply Kd.N_drewN | apply Kd.N_drew)); exact Kd.N_mono (Kd.N_far (p := ⟨gb123, 2, none⟩) (Kd.N_far (p := ⟨gb123, 1, none⟩) (Kd.N_far (p := ⟨gb123, 0, none⟩) (Kd.N_mono HO120.out (fun k_ hk => (⟨hk, hk.2⟩ : _ ∧ k_ ≠ gb123))) (fun _ hk => hk.2) (.int .i64 ((rd_T63 y118 t121).f0))) (fun _ hk => hk.2) (.int .i64 ((rd_T63 y118 t121).f1))) (fun _ hk => hk.2) (.slice A122_2 ((rd_T63 y118 t121).f2).length c122_2)) (fun _ hk => ⟨hk.1.1, hk.1.2⟩)))⟩; have n2_ : Aside0 (Kd.V (Kd.int .i64) 3 w19 w.heap.size (fun k_ => (P0_ k_ ∨ w.heap.size ≤ k_) ∧ some k_ ≠ (.slice (some ad122) y118.length co16 : Value).ownBlock ∧ k_ ≠ gb123) (.slice A122_2 ((rd_T63 y118 t121).f2).length c122_2) ((rd_T63 y118 t121).f2)) := ⟨(by rw [hw]; exact (by (with_reducible repeat (first | apply Kd.V_alloc | apply Kd.V_drewN | apply Kd.V_drew)); exact Kd.V_mono (Kd.V_far (p := ⟨gb123, 2, none⟩) (Kd.V_far (p := ⟨gb123, 1, none⟩) (Kd.V_far (p := ⟨gb123, 0, none⟩) (Kd.V_mono HL122_2.out (fun k_ hk => (⟨hk, hk.2⟩ : _ ∧ k_ ≠ gb123))) (fun _ hk => hk.2) (.int .i64 ((rd_T63 y118 t121).f0))) (fun _ hk => hk.2) (.int .i64 ((rd_T63 y118 t121).f1))) (fun _ hk => hk.2) (.slice A122_2 ((rd_T63 y118 t121).f2).length c122_2)) (fun _ hk => ⟨hk.1.1.1, ⟨hk.1.1.2, hk.1.2⟩⟩)))⟩; have n3_ : Aside0 (w19.heap[gb123]? = some (.cells #[.int .i64 ((rd_T63 y118 t121).f0), .int .i64 ((rd_T63 y118 t121).f1), .slice A122_2 ((rd_T63 y118 t121).f2).length c122_2] 63 (0, 0))) := ⟨(by rw [hw]; exact (by (with_reducible repeat (first | refine blk_drewN ?_ _ | refine blk_drew ?_ | refine blk_alloc ?_ _)); refine blk_put (cs := #[.int .i64 ((rd_T63 y118 t121).f0), .int .i64 ((rd_T63 y118 t121).f1), .slice none 0 0]) ?_ 2 _ rfl; (with_reducible repeat (first | refine blk_drewN ?_ _ | refine blk_drew ?_ | refine blk_alloc ?_ _)); refine blk_put (cs := #[.int .i64 ((rd_T63 y118 t121).f0), .int .i64 0, .slice none 0 0]) ?_ 1 _ rfl; (with_reducible repeat (first | refine blk_drewN ?_ _ | refine blk_drew ?_ | refine blk_alloc ?_ _)); refine blk_put (cs := #[.int .i64 0, .int .i64 0, .slice none 0 0]) ?_ 0 _ rfl; (with_reducible repeat (first | refine blk_drewN ?_ _ | refine blk_drew ?_ | refine blk_alloc ?_ _)); exact BK123.out))⟩; have n4_ : Aside0 (Below w.heap.size w w19) := ⟨(by rw [hw]; exact (by repeat (first | (with_reducible first | exact HB.out | apply below_alloc | apply pw_below_drewN | apply below_drew1 | refine below_set ?_ GE123.out) | exact HB.out)))⟩; clear hw; clear HO0; clear HO120; clear HL122_2; clear BK123; clear HB; have HO0 := n0_; have HO120 := n1_; have HL122_2 := n2_; have BK123 := n3_; have HB := n4_; clear n0_ n1_ n2_ n3_ n4_) | ((with_reducible refine gate_callee (f := 20) rfl ?_); refine goesL_ (some 28) rfl rfl Try.func20 (by kernel_rfl) rfl #[.int .i64 a2, .int .i64 5] rfl (by (try simp only [List.map_toArray, List.map_cons, List.map_nil]); first | done | rfl | (simp only [List.length_drop, List.length_take]; rfl)) ?_; (with_reducible refine (worldmintref01_Around.calls a2 5 t124 _ A12.out).mono ?_); rintro e w' ⟨rfl, ⟨nd, rfl⟩⟩; refine ⟨_, rfl, ?_⟩; (try (rw [drewN_self w19]; generalize hq_ : World.drewN w19 _ = w19; have n0_ : Aside0 (Kd.V (Kd.int .i64) 3 w19 w.heap.size (fun k_ => (P0_ k_ ∨ w.heap.size ≤ k_) ∧ some k_ ≠ (.slice (some ad122) y118.length co16 : Value).ownBlock ∧ k_ ≠ gb123) (.slice A122_2 ((rd_T63 y118 t121).f2).length c122_2) ((rd_T63 y118 t121).f2)) := ⟨by rw [← hq_]; exact (by (with_reducible repeat (first | apply Kd.V_alloc | apply Kd.V_drewN | apply Kd.V_drew)); exact HL122_2.out)⟩; have n1_ : Aside0 (Kd.V k63 63 w19 w.heap.size (fun k_ => (P0_ k_ ∨ w.heap.size ≤ k_) ∧ some k_ ≠ (.slice (some ad122) y118.length co16 : Value).ownBlock ∧ k_ ≠ gb123) (.slice A0 l0.length c0) l0) := ⟨by rw [← hq_]; exact (by (with_reducible repeat (first | apply Kd.V_alloc | apply Kd.V_drewN | apply Kd.V_drew)); exact HO0.out)⟩; have n2_ : Aside0 (Kd.N k63 63 w19 w.heap.size (fun k_ => (P0_ k_ ∨ w.heap.size ≤ k_) ∧ k_ ≠ gb123) (.slice (some ad122) y118.length co16) y118) := ⟨by rw [← hq_]; exact (by (with_reducible repeat (first | apply Kd.N_alloc | apply Kd.N_drewN | apply Kd.N_drew)); exact HO120.out)⟩; have n3_ : Aside0 (w19.heap[gb123]? = some (.cells #[.int .i64 ((rd_T63 y118 t121).f0), .int .i64 ((rd_T63 y118 t121).f1), .slice A122_2 ((rd_T63 y118 t121).f2).length c122_2] 63 (0, 0))) := ⟨by rw [← hq_]; exact (by (with_reducible repeat (first | refine blk_drewN ?_ _ | refine blk_drew ?_ | refine blk_alloc ?_ _)); exact BK123.out)⟩; have n4_ : Aside0 (Below w.heap.size w w19) := ⟨by rw [← hq_]; exact (by repeat (first | (with_reducible first | exact HB.out | apply below_alloc | apply pw_below_drewN | apply below_drew1 | refine below_set ?_ GE123.out) | exact HB.out))⟩; have n5_ : Aside0 (Kd.C (Kd.int .i64) w19 A122_2 ((rd_T63 y118 t121).f2).length ((rd_T63 y118 t121).f2)) := ⟨by first | exact (Kd.V_reads' n0_.out).2.2 | exact (Kd.V_reads' n1_.out).2.2 | (rw [← hq_]; exact (by repeat (first | (with_reducible exact HR122_2.out) | (with_reducible refine Kd.C_alloc ?_ _) | (with_reducible refine Kd.C_drewN ?_ _) | (with_reducible refine Kd.C_drew ?_) | exact HR122_2.out)))⟩; clear HL122_2 HO0 HO120 BK123 HB HR122_2 hq_; have HL122_2 := n0_; have HO0 := n1_; have HO120 := n2_; have BK123 := n3_; have HB := n4_; have HR122_2 := n5_; clear n0_ n1_ n2_ n3_ n4_ n5_)); have hcz20_0 : w19.cell? ⟨gb123, 0, none⟩ = some (.int .i64 ((rd_T63 y118 t121).f0)) := (blk_cell BK123.out 0).trans rfl; have hcz20_1 : w19.cell? ⟨gb123, 1, none⟩ = some (.int .i64 ((rd_T63 y118 t121).f1)) := (blk_cell BK123.out 1).trans rfl; have hcz20_2 : w19.cell? ⟨gb123, 2, none⟩ = some (.slice A122_2 ((rd_T63 y118 t121).f2).length c122_2) := (blk_cell BK123.out 2).trans rfl; have hfz20_0 := blk_frozen BK123.out 0; have hfz20_1 := blk_frozen BK123.out 1; have hfz20_2 := blk_frozen BK123.out 2) | ((with_reducible refine gate_store (t := 3) (p := 38) rfl ?_); refine store_event (t := 3) (p := 38) (v := ?vo_w21) (w1 := (w19.setCell ⟨gb123, 0, none⟩ (.int .i64 a3))) ?hg ?ho ?hn ?hr ?_; (case ho => rfl); (case hg => rfl); (case hn => rfl); (case hr => first | (go_simp; done) | (go_simp; rfl)); intro w21 hw; have n0_ : Aside0 (Kd.V k63 63 w21 w.heap.size (fun k_ => (P0_ k_ ∨ w.heap.size ≤ k_) ∧ some k_ ≠ (.slice (some ad122) y118.length co16 : Value).ownBlock ∧ k_ ≠ gb123) (.slice A0 l0.length c0) l0) := ⟨(by rw [hw]; exact (by (with_reducible repeat (first | apply Kd.V_alloc | apply Kd.V_drewN | apply Kd.V_drew)); exact Kd.V_mono (Kd.V_far (p := ⟨gb123, 0, none⟩) (Kd.V_mono HO0.out (fun k_ hk => (⟨hk, hk.2.2⟩ : _ ∧ k_ ≠ gb123))) (fun _ hk => hk.2) (.int .i64 a3)) (fun _ hk => ⟨hk.1.1, ⟨hk.1.2.1, hk.1.2.2⟩⟩)))⟩; have n1_ : Aside0 (Kd.N k63 63 w21 w.heap.size (fun k_ => (P0_ k_ ∨ w.heap.size ≤ k_) ∧ k_ ≠ gb123) (.slice (some ad122) y118.length co16) y118) := ⟨(by rw [hw]; exact (by (with_reducible repeat (first | apply Kd.N_alloc | apply Kd.N_drewN | apply Kd.N_drew)); exact Kd.N_mono (Kd.N_far (p := ⟨gb123, 0, none⟩) (Kd.N_mono HO120.out (fun k_ hk => (⟨hk, hk.2⟩ : _ ∧ k_ ≠ gb123))) (fun _ hk => hk.2) (.int .i64 a3)) (fun _ hk => ⟨hk.1.1, hk.1.2⟩)))⟩; have n2_ : Aside0 (Kd.V (Kd.int .i64) 3 w21 w.heap.size (fun k_ => (P0_ k_ ∨ w.heap.size ≤ k_) ∧ some k_ ≠ (.slice (some ad122) y118.length co16 : Value).ownBlock ∧ k_ ≠ gb123) (.slice A122_2 ((rd_T63 y118 t121).f2).length c122_2) ((rd_T63 y118 t121).f2)) := ⟨(by rw [hw]; exact (by (with_reducible repeat (first | apply Kd.V_alloc | apply Kd.V_drewN | apply Kd.V_drew)); exact Kd.V_mono (Kd.V_far (p := ⟨gb123, 0, none⟩) (Kd.V_mono HL122_2.out (fun k_ hk => (⟨hk, hk.2.2⟩ : _ ∧ k_ ≠ gb123))) (fun _ hk => hk.2) (.int .i64 a3)) (fun _ hk => ⟨hk.1.1, ⟨hk.1.2.1, hk.1.2.2⟩⟩)))⟩; have n3_ : Aside0 (w21.heap[gb123]? = some (.cells #[.int .i64 a3, .int .i64 ((rd_T63 y118 t121).f1), .slice A122_2 ((rd_T63 y118 t121).f2).length c122_2] 63 (0, 0))) := ⟨(by rw [hw]; exact (by (with_reducible repeat (first | refine blk_drewN ?_ _ | refine blk_drew ?_ | refine blk_alloc ?_ _)); refine blk_put (cs := #[.int .i64 ((rd_T63 y118 t121).f0), .int .i64 ((rd_T63 y118 t121).f1), .slice A122_2 ((rd_T63 y118 t121).f2).length c122_2]) ?_ 0 _ rfl; (with_reducible repeat (first | refine blk_drewN ?_ _ | refine blk_drew ?_ | refine blk_alloc ?_ _)); exact BK123.out))⟩; have n4_ : Aside0 (Below w.heap.size w w21) := ⟨(by rw [hw]; exact (by repeat (first | (with_reducible first | exact HB.out | apply below_alloc | apply pw_below_drewN | apply below_drew1 | refine below_set ?_ GE123.out) | exact HB.out)))⟩; clear hw; clear HO0; clear HO120; clear HL122_2; clear BK123; clear HB; have HO0 := n0_; have HO120 := n1_; have HL122_2 := n2_; have BK123 := n3_; have HB := n4_; clear n0_ n1_ n2_ n3_ n4_; have hcz22_0 : w21.cell? ⟨gb123, 0, none⟩ = some (.int .i64 a3) := (blk_cell BK123.out 0).trans rfl; have hcz22_1 : w21.cell? ⟨gb123, 1, none⟩ = some (.int .i64 ((rd_T63 y118 t121).f1)) := (blk_cell BK123.out 1).trans rfl; have hcz22_2 : w21.cell? ⟨gb123, 2, none⟩ = some (.slice A122_2 ((rd_T63 y118 t121).f2).length c122_2) := (blk_cell BK123.out 2).trans rfl; have hfz22_0 := blk_frozen BK123.out 0; have hfz22_1 := blk_frozen BK123.out 1; have hfz22_2 := blk_frozen BK123.out 2; have p14 : 0 ≤ (t121 : Int) := of_decide_eq_true (by first | (with_reducible assumption) | assumption); have q14 : (t121 : Int) < ((y118.length : Int) : Int) := of_decide_eq_true (by first | (with_reducible assumption) | assumption); obtain ⟨go14, co14, eo14, gb14, gl14, cl14, HG14⟩ := Kd.N_form HO120.out (by omega); (first | cases eo14 | (injection eo14 with ea_ en_ ec_; (first | subst ea_ | (injection ea_ with ea_; subst ea_)); subst ec_; clear en_)); have GB14 := Aside0.mk gb14; have GG14 := Aside0.mk HG14; clear gb14 gl14 HG14; (first | simp only [add_plain] at hx122_0 | skip); (first | simp only [add_plain] at hx122_1 | skip); (first | simp only [add_plain] at hx122_2 | skip); obtain ⟨ce14, hcl14, hM14, hcc14, hfr14⟩ := Kd.N_elem HO120.out z63 (t121 : Int) p14 q14; obtain ⟨ua14_2, uc14_2, rfl, ul14_2, ge14_2⟩ := k63_openF hM14; have hx14_0 : w21.cell? ⟨go14, (t121 : Int).toNat * 3, none⟩ = some (.int .i64 ((rd_T63 y118 t121).f0)) := hcc14 0 _ rfl; have hx14_1 : w21.cell? ⟨go14, (t121 : Int).toNat * 3 + 1, none⟩ = some (.int .i64 ((rd_T63 y118 t121).f1)) := hcc14 1 _ rfl; have hx14_2 : w21.cell? ⟨go14, (t121 : Int).toNat * 3 + 2, none⟩ = some (.slice ua14_2 ((rd_T63 y118 t121).f2).length uc14_2) := hcc14 2 _ rfl; have hf14_0 : w21.frozen? ⟨go14, (t121 : Int).toNat * 3, none⟩ = false := hfr14 0; have hf14_1 : w21.frozen? ⟨go14, (t121 : Int).toNat * 3 + 1, none⟩ = false := hfr14 1; have hf14_2 : w21.frozen? ⟨go14, (t121 : Int).toNat * 3 + 2, none⟩ = false := hfr14 2; clear hcl14 hcc14 hfr14 hM14; replace p14 := eq_true p14; replace q14 := eq_true q14; have HX23 := Aside0.mk (show Kd.N k63 63 w21 w.heap.size (fun k_ => (P0_ k_ ∨ w.heap.size ≤ k_) ∧ k_ ≠ gb123) (.slice (some ⟨go14, 0, none⟩) y118.length co16) y118 from (by (with_reducible repeat (first | apply Kd.N_alloc | apply Kd.N_drewN | apply Kd.N_drew)); exact HO120.out)); obtain ⟨ce23, hcl23, hM23, hcc23, hfr23⟩ := Kd.N_elem HX23.out z63 (t121 : Int) (of_decide_eq_true (by first | (with_reducible assumption) | assumption)) (by have h_ : (t121 : Int) < ((y118.length : Int) : Int) := of_decide_eq_true (by first | (with_reducible assumption) | assumption); first | exact h_ | (have e_ := (Kd.N_reads' HO120.out).1; omega) | simpa using h_); obtain ⟨ua23_2, uc23_2, rfl, ul23_2, ge23_2⟩ := k63_openF hM23; have HP23 := Kd.N_seg HX23.out (t121 : Int) (of_decide_eq_true (by first | (with_reducible assumption) | assumption)) (by have h_ : (t121 : Int) < ((y118.length : Int) : Int) := of_decide_eq_true (by first | (with_reducible assumption) | assumption); first | exact h_ | (have e_ := (Kd.N_reads' HO120.out).1; omega) | simpa using h_) (seg := [.int .i64 a3, .int .i64 ((rd_T63 y118 t121).f1), .slice A122_2 ((rd_T63 y118 t121).f2).length c122_2]) (j := 0) hcl23 hcc23 (show 3 ≤ 3 from by decide) (x' := (⟨a3, (rd_T63 y118 t121).f1, (rd_T63 y118 t121).f2⟩ : S63)) (k63_mkF _ _ (⟨a3, (rd_T63 y118 t121).f1, (rd_T63 y118 t121).f2⟩ : S63) (Kd.V_reads' (Kd.V_mono (ok' := (fun k_ => ((fun k_ => (P0_ k_ ∨ w.heap.size ≤ k_) ∧ k_ ≠ gb123)) k_ ∧ k_ ≠ go14)) (HL122_2.out) (fun k_ hk => ⟨⟨hk.1, hk.2.2⟩, fun e_ => (hk.2.1) (by rw [e_]; rfl)⟩))).2.1 (Kd.V_F (Kd.V_mono (ok' := (fun k_ => ((fun k_ => (P0_ k_ ∨ w.heap.size ≤ k_) ∧ k_ ≠ gb123)) k_ ∧ k_ ≠ go14)) (HL122_2.out) (fun k_ hk => ⟨⟨hk.1, hk.2.2⟩, fun e_ => (hk.2.1) (by rw [e_]; rfl)⟩)))) (fun _ hk => hk); have hx23_0 := hcc23 0 _ rfl; (try simp only [show (k63).sz = 3 from rfl, Nat.mul_one, Nat.add_zero] at hx23_0); have hf23_0 := hfr23 0; (try simp only [show (k63).sz = 3 from rfl, Nat.mul_one, Nat.add_zero] at hf23_0); have hx23_1 := hcc23 1 _ rfl; (try simp only [show (k63).sz = 3 from rfl, Nat.mul_one, Nat.add_zero] at hx23_1); have hf23_1 := hfr23 1; (try simp only [show (k63).sz = 3 from rfl, Nat.mul_one, Nat.add_zero] at hf23_1); have hx23_2 := hcc23 2 _ rfl; (try simp only [show (k63).sz = 3 from rfl, Nat.mul_one, Nat.add_zero] at hx23_2); have hf23_2 := hfr23 2; (try simp only [show (k63).sz = 3 from rfl, Nat.mul_one, Nat.add_zero] at hf23_2); clear hcl23 hcc23 hfr23 hM23) | ((with_reducible refine gate_store (t := 63) (p := 59) rfl ?_); refine store_event (t := 63) (p := 59) (v := ?vo_w24) (w1 := (((w21.setCell ⟨go14, (t121 : Int).toNat * 3, none⟩ (.int .i64 a3)).setCell ⟨go14, (t121 : Int).toNat * 3 + 1, none⟩ (.int .i64 ((rd_T63 y118 t121).f1))).setCell ⟨go14, (t121 : Int).toNat * 3 + 2, none⟩ (.slice A122_2 ((rd_T63 y118 t121).f2).length c122_2))) ?hg ?ho ?hn ?hr ?_; (case ho => rfl); (case hg => rfl); (case hn => rfl); (case hr => first | (go_simp; done) | (go_simp; rfl)); intro w24 hw; have hg : w21.grownBy w24 (some go14) := (by rw [hw]; exact HP23.2); have hp_ : Kd.N k63 63 w24 w.heap.size (fun k_ => (P0_ k_ ∨ w.heap.size ≤ k_) ∧ k_ ≠ gb123) (.slice (some ⟨go14, 0, none⟩) y118.length co16) y125 := (by rw [hw, Ny125.out]; exact HP23.1); clear HP23; have n0_ := Aside0.mk (Kd.V_afterv (v := (.slice (some ⟨go14, 0, none⟩) y118.length co16)) (v1 := (.slice (some ⟨go14, 0, none⟩) y118.length co16)) (ok := (fun k_ => (P0_ k_ ∨ w.heap.size ≤ k_) ∧ k_ ≠ gb123)) (by (with_reducible repeat (first | apply Kd.V_alloc | apply Kd.V_drewN | apply Kd.V_drew)); exact Kd.V_mono HO0.out (fun _ hk => ⟨⟨hk.1, hk.2.2⟩, hk.2.1⟩)) hg (.inl rfl)); have n1_ := Aside0.mk (hp_); have n2_ := Aside0.mk (Kd.V_afterv (v := (.slice (some ⟨go14, 0, none⟩) y118.length co16)) (v1 := (.slice (some ⟨go14, 0, none⟩) y118.length co16)) (ok := (fun k_ => (P0_ k_ ∨ w.heap.size ≤ k_) ∧ k_ ≠ gb123)) (by (with_reducible repeat (first | apply Kd.V_alloc | apply Kd.V_drewN | apply Kd.V_drew)); exact Kd.V_mono HL122_2.out (fun _ hk => ⟨⟨hk.1, hk.2.2⟩, hk.2.1⟩)) hg (.inl rfl)); have n3_ := Aside0.mk (blk_grown (g := gb123) (o := .cells #[.int .i64 a3, .int .i64 ((rd_T63 y118 t121).f1), .slice A122_2 ((rd_T63 y118 t121).f2).length c122_2] 63 (0, 0)) (by (with_reducible repeat (first | refine blk_drewN ?_ _ | refine blk_drew ?_ | refine blk_alloc ?_ _)); exact BK123.out) hg (Kd.N_away HO120.out (fun _ hk => hk.2))); have n4_ := Aside0.mk ((by rw [hw]; exact below_set (below_set (below_set (HB.out) GB14.out) GB14.out) GB14.out : Below w.heap.size w w24)); clear HO0; clear HO120; clear HL122_2; clear BK123; clear HB; have HO0 := n0_; have HO120 := n1_; have HL122_2 := n2_; have BK123 := n3_; have HB := n4_; clear n0_ n1_ n2_ n3_ n4_; clear hg hw hp_))
      go_ret
      exact ⟨_, by first | rfl | (simp [errW_none, errW_some] <;> rfl) | (simp [*, errW_none, errW_some] <;> rfl), by (with_reducible repeat (first | apply Kd.N_alloc | apply Kd.N_drewN | apply Kd.N_drew)); exact Kd.N_mono HO120.out (fun _ hk => hk.1), by repeat (first | (with_reducible first | exact HB.out | apply below_alloc | apply pw_below_drewN | apply below_drew1 | refine below_set ?_ GE123.out) | exact HB.out)⟩
     ·rw [if_neg c13] at H
      have c13b0 : (t124 == 0) = false := beq_eq_false_iff_ne.mpr c13
      have c13b1 : (t124 != 0) = true := bne_iff_ne.mpr c13
      by_cases c25 : t124 = 1
      ·rw [if_pos c25] at H
       have c25b0 : (t124 == 1) = true := beq_iff_eq.mpr c25
       have c25b1 : (t124 != 1) = false := bne_eq_false_iff_eq.mpr c25
       clear c25
       obtain ⟨y126, hy126⟩ : ∃ y_ : List (S63), y_ = (y118.set (t121 : Int).toNat (⟨(rd_T63 y118 t121).f0, a3, (rd_T63 y118 t121).f2⟩ : S63)) := ⟨_, rfl⟩
       replace H : (some y126) = some r := by first | (rw [hy126]; with_reducible exact H) | (have H2_ := (Option.bind_some _ _).symm.trans H; rw [hy126]; with_reducible exact H2_) | (have H2_ := (Option.bind_some _ _).symm.trans H; with_reducible exact H2_) | with_reducible exact H | (rw [hy126]; exact H) | exact H
       have Ny126 := Aside0.mk hy126
       clear hy126
       obtain rfl := Option.some.inj H
       go_enter Try.func13, Try.ntmps13
       go_wp2_with (first | ((with_reducible refine gate_builtin (b := .append) (xs := #[.tmp 12, .tmp 13]) rfl ?_); at_builtin; refine Kd.N_append_rows k63 (w0 := w) w.heap.size rfl (.tmp 12) (.tmp 13) 24 63 (.agg #[(.int .i64 0), (.int .i64 0), (.slice none 0 0)]) 40 rfl Try.underlying24 info63 rfl (by decide) (by omega) (.slice none 0 0) ([] : List (S63)) l0 _ _ _ (fun k_ => (P0_ k_ ∨ w.heap.size ≤ k_)) (fun k_ => ((fun k_ => (P0_ k_ ∨ w.heap.size ≤ k_))) k_ ∧ some k_ ≠ (.slice none 0 0 : Value).ownBlock) rfl rfl ?aO ?aR (fun _ hk => hk) ?aF ?aB ?aS ?aL ?_; (case aR => exact (by skip; exact Kd.V_F (Kd.V_mono (ok' := (fun k_ => ((fun k_ => (P0_ k_ ∨ w.heap.size ≤ k_))) k_ ∧ some k_ ≠ (.slice none 0 0 : Value).ownBlock)) (HO0.out) (fun k_ hk => ⟨hk, (by simp [Value.ownBlock])⟩)))); (case aB => exact (by repeat (first | (with_reducible first | exact HB.out | apply below_alloc | apply pw_below_drewN | apply below_drew1) | exact HB.out))); (case aF => exact (fun k_ hk => (.inr (Nat.le_trans (below_size (by repeat (first | (with_reducible first | exact HB.out | apply below_alloc | apply pw_below_drewN | apply below_drew1) | exact HB.out))) hk)))); (case aO => exact ((Kd.N_nil _ _ _ _ (fun k_ => (P0_ k_ ∨ w.heap.size ≤ k_))))); (case aS => exact (below_size (by repeat (first | (with_reducible first | exact HB.out | apply below_alloc | apply pw_below_drewN | apply below_drew1) | exact HB.out)))); (case aL => have := LMc5.out; omega); intro v119 w27 ho hb hg hat; rw [← Ny118.out] at ho; have n0_ := Aside0.mk (Kd.V_afterv (Kd.V_apart_nil (by (with_reducible repeat (first | apply Kd.V_alloc | apply Kd.V_drewN | apply Kd.V_drew)); exact HO0.out)) hg hat); have n1_ := Aside0.mk (hb); have n2_ := Aside0.mk (ho); clear HO0; clear HB; have HO0 := n0_; have HB := n1_; have HO120 := n2_; clear n0_ n1_ n2_; clear ho hb hg hat; obtain ⟨Ao28, co28, eo28⟩ := Kd.N_slice HO120.out; subst eo28) | ((with_reducible refine gate_callee (f := 20) rfl ?_); refine goesL_ (some 22) rfl rfl Try.func20 (by kernel_rfl) rfl #[.int .i64 a1, .int .i64 (y118.length : Int)] rfl (by (try simp only [List.map_toArray, List.map_cons, List.map_nil]); first | done | rfl | (simp only [List.length_drop, List.length_take]; rfl)) ?_; (with_reducible refine (worldmintref01_Around.calls a1 (y118.length : Int) t121 _ A9.out).mono ?_); rintro e w' ⟨rfl, ⟨nd, rfl⟩⟩; refine ⟨_, rfl, ?_⟩; (try (rw [drewN_self w27]; generalize hq_ : World.drewN w27 _ = w27; have n0_ : Aside0 (Kd.V k63 63 w27 w.heap.size (fun k_ => (P0_ k_ ∨ w.heap.size ≤ k_) ∧ some k_ ≠ (.slice Ao28 y118.length co28 : Value).ownBlock) (.slice A0 l0.length c0) l0) := ⟨by rw [← hq_]; exact (by (with_reducible repeat (first | apply Kd.V_alloc | apply Kd.V_drewN | apply Kd.V_drew)); exact HO0.out)⟩; have n1_ : Aside0 (Kd.N k63 63 w27 w.heap.size (fun k_ => (P0_ k_ ∨ w.heap.size ≤ k_)) (.slice Ao28 y118.length co28) y118) := ⟨by rw [← hq_]; exact (by (with_reducible repeat (first | apply Kd.N_alloc | apply Kd.N_drewN | apply Kd.N_drew)); exact HO120.out)⟩; have n2_ : Aside0 (Below w.heap.size w w27) := ⟨by rw [← hq_]; exact (by repeat (first | (with_reducible first | exact HB.out | apply below_alloc | apply pw_below_drewN | apply below_drew1) | exact HB.out))⟩; clear HO0 HO120 HB hq_; have HO0 := n0_; have HO120 := n1_; have HB := n2_; clear n0_ n1_ n2_)); have p122 : 0 ≤ (t121 : Int) := of_decide_eq_true (by first | (with_reducible assumption) | assumption); have q122 : t121 < (y118.length : Int) := of_decide_eq_true (by first | (with_reducible assumption) | assumption); obtain ⟨ad122, A122_2, c122_2, e122, hx122_0, hx122_1, hx122_2, hl122_2, hi122_2⟩ := at_T63 (Kd.N_reads' HO120.out).2.2 t121 p122 q122; cases e122; obtain ⟨ce122, hce122, hMe122, hcc122⟩ := Kd.N_get HO120.out z63 t121 p122 (by first | exact q122 | exact of_decide_eq_true (by first | (with_reducible assumption) | assumption) | (have e_ := (Kd.N_reads' HO120.out).1; omega)); obtain ⟨ua122_2, uc122_2, rfl, ul122_2, ge122_2⟩ := k63_openF hMe122; have hv122_2 := hcc122 2 _ rfl; rw [add_field _ _ 2 (by omega)] at hv122_2; replace hv122_2 := Option.some.inj (hv122_2.symm.trans hx122_2); injection hv122_2 with hva_ hvn_ hvc_; rw [hva_] at ge122_2; rw [hvc_] at ul122_2; have HL122_2 := Aside0.mk (show Kd.V (Kd.int .i64) 3 _ w.heap.size _ _ ((rd_T63 y118 t121).f2) from Kd.V_mk ul122_2 ge122_2); clear hva_ hvn_ hvc_ ge122_2 ul122_2; clear hcc122 hce122; have HR122_2 := Aside0.mk hi122_2; have HC122_2 := Aside0.mk hl122_2; clear hi122_2 hl122_2; replace p122 := eq_true p122; replace q122 := eq_true q122) | ((with_reducible refine gate_dst (N := 11) rfl ?_); refine box_event ?hg (N := 11) ?hd (cs := #[.int .i64 0, .int .i64 0, .slice none 0 0]) (t := 63) ?hr ?_; (case hd => rfl); (case hg => rfl); (case hr => first | (go_simp; done) | (go_simp; rfl)); intro gb123 hg w29 hbox hb; have n0_ := Aside0.mk (Kd.V_below (Kd.V_elderB (by (with_reducible repeat (first | apply Kd.V_alloc | apply Kd.V_drewN | apply Kd.V_drew)); exact HO0.out) gb123 (Nat.le_of_eq hg.symm)) hb); have n1_ := Aside0.mk (Kd.N_below (Kd.N_elderB (by (with_reducible repeat (first | apply Kd.N_alloc | apply Kd.N_drewN | apply Kd.N_drew)); exact HO120.out) gb123 (Nat.le_of_eq hg.symm)) hb); have n2_ := Aside0.mk (Kd.V_below (Kd.V_elderB (by (with_reducible repeat (first | apply Kd.V_alloc | apply Kd.V_drewN | apply Kd.V_drew)); exact HL122_2.out) gb123 (Nat.le_of_eq hg.symm)) hb); have n3_ := Aside0.mk (Kd.C_below (by repeat (first | (with_reducible exact HR122_2.out) | (with_reducible refine Kd.C_alloc ?_ _) | (with_reducible refine Kd.C_drewN ?_ _) | (with_reducible refine Kd.C_drew ?_) | exact HR122_2.out)) hb); have n4_ := Aside0.mk (below_step (by repeat (first | (with_reducible first | exact HB.out | apply below_alloc | apply pw_below_drewN | apply below_drew1) | exact HB.out)) hb); have n5_ := Aside0.mk (hbox); have n6_ := Aside0.mk ((by rw [hg]; exact (below_size (by repeat (first | (with_reducible first | exact HB.out | apply below_alloc | apply pw_below_drewN | apply below_drew1) | exact HB.out))) : w.heap.size ≤ gb123)); have n7_ := Aside0.mk ((by rw [hg]; exact (below_size (by repeat (first | (with_reducible first | exact HB.out | apply below_alloc | apply pw_below_drewN | apply below_drew1) | exact HB.out))) : w.heap.size ≤ gb123)); clear HO0; clear HO120; clear HL122_2; clear HR122_2; clear HB; have HO0 := n0_; have HO120 := n1_; have HL122_2 := n2_; have HR122_2 := n3_; have HB := n4_; have BK123 := n5_; have GW123 := n6_; have GE123 := n7_; clear n0_ n1_ n2_ n3_ n4_ n5_ n6_ n7_; clear hb hbox hg; have hcz30_0 : w29.cell? ⟨gb123, 0, none⟩ = some (.int .i64 0) := (blk_cell BK123.out 0).trans rfl; have hcz30_1 : w29.cell? ⟨gb123, 1, none⟩ = some (.int .i64 0) := (blk_cell BK123.out 1).trans rfl; have hcz30_2 : w29.cell? ⟨gb123, 2, none⟩ = some (.slice none 0 0) := (blk_cell BK123.out 2).trans rfl; have hfz30_0 := blk_frozen BK123.out 0; have hfz30_1 := blk_frozen BK123.out 1; have hfz30_2 := blk_frozen BK123.out 2) | ((with_reducible refine gate_store (t := 63) (p := 11) rfl ?_); refine store_event (t := 63) (p := 11) (v := ?vo_w31) (w1 := (((w29.setCell ⟨gb123, 0, none⟩ (.int .i64 ((rd_T63 y118 t121).f0))).setCell ⟨gb123, 1, none⟩ (.int .i64 ((rd_T63 y118 t121).f1))).setCell ⟨gb123, 2, none⟩ (.slice A122_2 ((rd_T63 y118 t121).f2).length c122_2))) ?hg ?ho ?hn ?hr ?_; (case ho => rfl); (case hg => rfl); (case hn => rfl); (case hr => first | (go_simp; done) | (go_simp; rfl)); intro w31 hw; have n0_ : Aside0 (Kd.V k63 63 w31 w.heap.size (fun k_ => (P0_ k_ ∨ w.heap.size ≤ k_) ∧ some k_ ≠ (.slice (some ad122) y118.length co28 : Value).ownBlock ∧ k_ ≠ gb123) (.slice A0 l0.length c0) l0) := ⟨(by rw [hw]; exact (by (with_reducible repeat (first | apply Kd.V_alloc | apply Kd.V_drewN | apply Kd.V_drew)); exact Kd.V_mono (Kd.V_far (p := ⟨gb123, 2, none⟩) (Kd.V_far (p := ⟨gb123, 1, none⟩) (Kd.V_far (p := ⟨gb123, 0, none⟩) (Kd.V_mono HO0.out (fun k_ hk => (⟨hk, hk.2⟩ : _ ∧ k_ ≠ gb123))) (fun _ hk => hk.2) (.int .i64 ((rd_T63 y118 t121).f0))) (fun _ hk => hk.2) (.int .i64 ((rd_T63 y118 t121).f1))) (fun _ hk => hk.2) (.slice A122_2 ((rd_T63 y118 t121).f2).length c122_2)) (fun _ hk => ⟨hk.1.1.1, ⟨hk.1.1.2, hk.1.2⟩⟩)))⟩; have n1_ : Aside0 (Kd.N k63 63 w31 w.heap.size (fun k_ => (P0_ k_ ∨ w.heap.size ≤ k_) ∧ k_ ≠ gb123) (.slice (some ad122) y118.length co28) y118) := ⟨(by rw [hw]; exact (by (with_reducible repeat (first | apply Kd.N_alloc | apply Kd.N_drewN | apply Kd.N_drew)); exact Kd.N_mono (Kd.N_far (p := ⟨gb123, 2, none⟩) (Kd.N_far (p := ⟨gb123, 1, none⟩) (Kd.N_far (p := ⟨gb123, 0, none⟩) (Kd.N_mono HO120.out (fun k_ hk => (⟨hk, hk.2⟩ : _ ∧ k_ ≠ gb123))) (fun _ hk => hk.2) (.int .i64 ((rd_T63 y118 t121).f0))) (fun _ hk => hk.2) (.int .i64 ((rd_T63 y118 t121).f1))) (fun _ hk => hk.2) (.slice A122_2 ((rd_T63 y118 t121).f2).length c122_2)) (fun _ hk => ⟨hk.1.1, hk.1.2⟩)))⟩; have n2_ : Aside0 (Kd.V (Kd.int .i64) 3 w31 w.heap.size (fun k_ => (P0_ k_ ∨ w.heap.size ≤ k_) ∧ some k_ ≠ (.slice (some ad122) y118.length co28 : Value).ownBlock ∧ k_ ≠ gb123) (.slice A122_2 ((rd_T63 y118 t121).f2).length c122_2) ((rd_T63 y118 t121).f2)) := ⟨(by rw [hw]; exact (by (with_reducible repeat (first | apply Kd.V_alloc | apply Kd.V_drewN | apply Kd.V_drew)); exact Kd.V_mono (Kd.V_far (p := ⟨gb123, 2, none⟩) (Kd.V_far (p := ⟨gb123, 1, none⟩) (Kd.V_far (p := ⟨gb123, 0, none⟩) (Kd.V_mono HL122_2.out (fun k_ hk => (⟨hk, hk.2⟩ : _ ∧ k_ ≠ gb123))) (fun _ hk => hk.2) (.int .i64 ((rd_T63 y118 t121).f0))) (fun _ hk => hk.2) (.int .i64 ((rd_T63 y118 t121).f1))) (fun _ hk => hk.2) (.slice A122_2 ((rd_T63 y118 t121).f2).length c122_2)) (fun _ hk => ⟨hk.1.1.1, ⟨hk.1.1.2, hk.1.2⟩⟩)))⟩; have n3_ : Aside0 (w31.heap[gb123]? = some (.cells #[.int .i64 ((rd_T63 y118 t121).f0), .int .i64 ((rd_T63 y118 t121).f1), .slice A122_2 ((rd_T63 y118 t121).f2).length c122_2] 63 (0, 0))) := ⟨(by rw [hw]; exact (by (with_reducible repeat (first | refine blk_drewN ?_ _ | refine blk_drew ?_ | refine blk_alloc ?_ _)); refine blk_put (cs := #[.int .i64 ((rd_T63 y118 t121).f0), .int .i64 ((rd_T63 y118 t121).f1), .slice none 0 0]) ?_ 2 _ rfl; (with_reducible repeat (first | refine blk_drewN ?_ _ | refine blk_drew ?_ | refine blk_alloc ?_ _)); refine blk_put (cs := #[.int .i64 ((rd_T63 y118 t121).f0), .int .i64 0, .slice none 0 0]) ?_ 1 _ rfl; (with_reducible repeat (first | refine blk_drewN ?_ _ | refine blk_drew ?_ | refine blk_alloc ?_ _)); refine blk_put (cs := #[.int .i64 0, .int .i64 0, .slice none 0 0]) ?_ 0 _ rfl; (with_reducible repeat (first | refine blk_drewN ?_ _ | refine blk_drew ?_ | refine blk_alloc ?_ _)); exact BK123.out))⟩; have n4_ : Aside0 (Below w.heap.size w w31) := ⟨(by rw [hw]; exact (by repeat (first | (with_reducible first | exact HB.out | apply below_alloc | apply pw_below_drewN | apply below_drew1 | refine below_set ?_ GE123.out) | exact HB.out)))⟩; clear hw; clear HO0; clear HO120; clear HL122_2; clear BK123; clear HB; have HO0 := n0_; have HO120 := n1_; have HL122_2 := n2_; have BK123 := n3_; have HB := n4_; clear n0_ n1_ n2_ n3_ n4_) | ((with_reducible refine gate_callee (f := 20) rfl ?_); refine goesL_ (some 28) rfl rfl Try.func20 (by kernel_rfl) rfl #[.int .i64 a2, .int .i64 5] rfl (by (try simp only [List.map_toArray, List.map_cons, List.map_nil]); first | done | rfl | (simp only [List.length_drop, List.length_take]; rfl)) ?_; (with_reducible refine (worldmintref01_Around.calls a2 5 t124 _ A12.out).mono ?_); rintro e w' ⟨rfl, ⟨nd, rfl⟩⟩; refine ⟨_, rfl, ?_⟩; (try (rw [drewN_self w31]; generalize hq_ : World.drewN w31 _ = w31; have n0_ : Aside0 (Kd.V (Kd.int .i64) 3 w31 w.heap.size (fun k_ => (P0_ k_ ∨ w.heap.size ≤ k_) ∧ some k_ ≠ (.slice (some ad122) y118.length co28 : Value).ownBlock ∧ k_ ≠ gb123) (.slice A122_2 ((rd_T63 y118 t121).f2).length c122_2) ((rd_T63 y118 t121).f2)) := ⟨by rw [← hq_]; exact (by (with_reducible repeat (first | apply Kd.V_alloc | apply Kd.V_drewN | apply Kd.V_drew)); exact HL122_2.out)⟩; have n1_ : Aside0 (Kd.V k63 63 w31 w.heap.size (fun k_ => (P0_ k_ ∨ w.heap.size ≤ k_) ∧ some k_ ≠ (.slice (some ad122) y118.length co28 : Value).ownBlock ∧ k_ ≠ gb123) (.slice A0 l0.length c0) l0) := ⟨by rw [← hq_]; exact (by (with_reducible repeat (first | apply Kd.V_alloc | apply Kd.V_drewN | apply Kd.V_drew)); exact HO0.out)⟩; have n2_ : Aside0 (Kd.N k63 63 w31 w.heap.size (fun k_ => (P0_ k_ ∨ w.heap.size ≤ k_) ∧ k_ ≠ gb123) (.slice (some ad122) y118.length co28) y118) := ⟨by rw [← hq_]; exact (by (with_reducible repeat (first | apply Kd.N_alloc | apply Kd.N_drewN | apply Kd.N_drew)); exact HO120.out)⟩; have n3_ : Aside0 (w31.heap[gb123]? = some (.cells #[.int .i64 ((rd_T63 y118 t121).f0), .int .i64 ((rd_T63 y118 t121).f1), .slice A122_2 ((rd_T63 y118 t121).f2).length c122_2] 63 (0, 0))) := ⟨by rw [← hq_]; exact (by (with_reducible repeat (first | refine blk_drewN ?_ _ | refine blk_drew ?_ | refine blk_alloc ?_ _)); exact BK123.out)⟩; have n4_ : Aside0 (Below w.heap.size w w31) := ⟨by rw [← hq_]; exact (by repeat (first | (with_reducible first | exact HB.out | apply below_alloc | apply pw_below_drewN | apply below_drew1 | refine below_set ?_ GE123.out) | exact HB.out))⟩; have n5_ : Aside0 (Kd.C (Kd.int .i64) w31 A122_2 ((rd_T63 y118 t121).f2).length ((rd_T63 y118 t121).f2)) := ⟨by first | exact (Kd.V_reads' n0_.out).2.2 | exact (Kd.V_reads' n1_.out).2.2 | (rw [← hq_]; exact (by repeat (first | (with_reducible exact HR122_2.out) | (with_reducible refine Kd.C_alloc ?_ _) | (with_reducible refine Kd.C_drewN ?_ _) | (with_reducible refine Kd.C_drew ?_) | exact HR122_2.out)))⟩; clear HL122_2 HO0 HO120 BK123 HB HR122_2 hq_; have HL122_2 := n0_; have HO0 := n1_; have HO120 := n2_; have BK123 := n3_; have HB := n4_; have HR122_2 := n5_; clear n0_ n1_ n2_ n3_ n4_ n5_)); have hcz32_0 : w31.cell? ⟨gb123, 0, none⟩ = some (.int .i64 ((rd_T63 y118 t121).f0)) := (blk_cell BK123.out 0).trans rfl; have hcz32_1 : w31.cell? ⟨gb123, 1, none⟩ = some (.int .i64 ((rd_T63 y118 t121).f1)) := (blk_cell BK123.out 1).trans rfl; have hcz32_2 : w31.cell? ⟨gb123, 2, none⟩ = some (.slice A122_2 ((rd_T63 y118 t121).f2).length c122_2) := (blk_cell BK123.out 2).trans rfl; have hfz32_0 := blk_frozen BK123.out 0; have hfz32_1 := blk_frozen BK123.out 1; have hfz32_2 := blk_frozen BK123.out 2) | ((with_reducible refine gate_store (t := 3) (p := 42) rfl ?_); refine store_event (t := 3) (p := 42) (v := ?vo_w33) (w1 := (w31.setCell ⟨gb123, 1, none⟩ (.int .i64 a3))) ?hg ?ho ?hn ?hr ?_; (case ho => rfl); (case hg => rfl); (case hn => rfl); (case hr => first | (go_simp; done) | (go_simp; rfl)); intro w33 hw; have n0_ : Aside0 (Kd.V k63 63 w33 w.heap.size (fun k_ => (P0_ k_ ∨ w.heap.size ≤ k_) ∧ some k_ ≠ (.slice (some ad122) y118.length co28 : Value).ownBlock ∧ k_ ≠ gb123) (.slice A0 l0.length c0) l0) := ⟨(by rw [hw]; exact (by (with_reducible repeat (first | apply Kd.V_alloc | apply Kd.V_drewN | apply Kd.V_drew)); exact Kd.V_mono (Kd.V_far (p := ⟨gb123, 1, none⟩) (Kd.V_mono HO0.out (fun k_ hk => (⟨hk, hk.2.2⟩ : _ ∧ k_ ≠ gb123))) (fun _ hk => hk.2) (.int .i64 a3)) (fun _ hk => ⟨hk.1.1, ⟨hk.1.2.1, hk.1.2.2⟩⟩)))⟩; have n1_ : Aside0 (Kd.N k63 63 w33 w.heap.size (fun k_ => (P0_ k_ ∨ w.heap.size ≤ k_) ∧ k_ ≠ gb123) (.slice (some ad122) y118.length co28) y118) := ⟨(by rw [hw]; exact (by (with_reducible repeat (first | apply Kd.N_alloc | apply Kd.N_drewN | apply Kd.N_drew)); exact Kd.N_mono (Kd.N_far (p := ⟨gb123, 1, none⟩) (Kd.N_mono HO120.out (fun k_ hk => (⟨hk, hk.2⟩ : _ ∧ k_ ≠ gb123))) (fun _ hk => hk.2) (.int .i64 a3)) (fun _ hk => ⟨hk.1.1, hk.1.2⟩)))⟩; have n2_ : Aside0 (Kd.V (Kd.int .i64) 3 w33 w.heap.size (fun k_ => (P0_ k_ ∨ w.heap.size ≤ k_) ∧ some k_ ≠ (.slice (some ad122) y118.length co28 : Value).ownBlock ∧ k_ ≠ gb123) (.slice A122_2 ((rd_T63 y118 t121).f2).length c122_2) ((rd_T63 y118 t121).f2)) := ⟨(by rw [hw]; exact (by (with_reducible repeat (first | apply Kd.V_alloc | apply Kd.V_drewN | apply Kd.V_drew)); exact Kd.V_mono (Kd.V_far (p := ⟨gb123, 1, none⟩) (Kd.V_mono HL122_2.out (fun k_ hk => (⟨hk, hk.2.2⟩ : _ ∧ k_ ≠ gb123))) (fun _ hk => hk.2) (.int .i64 a3)) (fun _ hk => ⟨hk.1.1, ⟨hk.1.2.1, hk.1.2.2⟩⟩)))⟩; have n3_ : Aside0 (w33.heap[gb123]? = some (.cells #[.int .i64 ((rd_T63 y118 t121).f0), .int .i64 a3, .slice A122_2 ((rd_T63 y118 t121).f2).length c122_2] 63 (0, 0))) := ⟨(by rw [hw]; exact (by (with_reducible repeat (first | refine blk_drewN ?_ _ | refine blk_drew ?_ | refine blk_alloc ?_ _)); refine blk_put (cs := #[.int .i64 ((rd_T63 y118 t121).f0), .int .i64 ((rd_T63 y118 t121).f1), .slice A122_2 ((rd_T63 y118 t121).f2).length c122_2]) ?_ 1 _ rfl; (with_reducible repeat (first | refine blk_drewN ?_ _ | refine blk_drew ?_ | refine blk_alloc ?_ _)); exact BK123.out))⟩; have n4_ : Aside0 (Below w.heap.size w w33) := ⟨(by rw [hw]; exact (by repeat (first | (with_reducible first | exact HB.out | apply below_alloc | apply pw_below_drewN | apply below_drew1 | refine below_set ?_ GE123.out) | exact HB.out)))⟩; clear hw; clear HO0; clear HO120; clear HL122_2; clear BK123; clear HB; have HO0 := n0_; have HO120 := n1_; have HL122_2 := n2_; have BK123 := n3_; have HB := n4_; clear n0_ n1_ n2_ n3_ n4_; have hcz34_0 : w33.cell? ⟨gb123, 0, none⟩ = some (.int .i64 ((rd_T63 y118 t121).f0)) := (blk_cell BK123.out 0).trans rfl; have hcz34_1 : w33.cell? ⟨gb123, 1, none⟩ = some (.int .i64 a3) := (blk_cell BK123.out 1).trans rfl; have hcz34_2 : w33.cell? ⟨gb123, 2, none⟩ = some (.slice A122_2 ((rd_T63 y118 t121).f2).length c122_2) := (blk_cell BK123.out 2).trans rfl; have hfz34_0 := blk_frozen BK123.out 0; have hfz34_1 := blk_frozen BK123.out 1; have hfz34_2 := blk_frozen BK123.out 2; have p26 : 0 ≤ (t121 : Int) := of_decide_eq_true (by first | (with_reducible assumption) | assumption); have q26 : (t121 : Int) < ((y118.length : Int) : Int) := of_decide_eq_true (by first | (with_reducible assumption) | assumption); obtain ⟨go26, co26, eo26, gb26, gl26, cl26, HG26⟩ := Kd.N_form HO120.out (by omega); (first | cases eo26 | (injection eo26 with ea_ en_ ec_; (first | subst ea_ | (injection ea_ with ea_; subst ea_)); subst ec_; clear en_)); have GB26 := Aside0.mk gb26; have GG26 := Aside0.mk HG26; clear gb26 gl26 HG26; (first | simp only [add_plain] at hx122_0 | skip); (first | simp only [add_plain] at hx122_1 | skip); (first | simp only [add_plain] at hx122_2 | skip); obtain ⟨ce26, hcl26, hM26, hcc26, hfr26⟩ := Kd.N_elem HO120.out z63 (t121 : Int) p26 q26; obtain ⟨ua26_2, uc26_2, rfl, ul26_2, ge26_2⟩ := k63_openF hM26; have hx26_0 : w33.cell? ⟨go26, (t121 : Int).toNat * 3, none⟩ = some (.int .i64 ((rd_T63 y118 t121).f0)) := hcc26 0 _ rfl; have hx26_1 : w33.cell? ⟨go26, (t121 : Int).toNat * 3 + 1, none⟩ = some (.int .i64 ((rd_T63 y118 t121).f1)) := hcc26 1 _ rfl; have hx26_2 : w33.cell? ⟨go26, (t121 : Int).toNat * 3 + 2, none⟩ = some (.slice ua26_2 ((rd_T63 y118 t121).f2).length uc26_2) := hcc26 2 _ rfl; have hf26_0 : w33.frozen? ⟨go26, (t121 : Int).toNat * 3, none⟩ = false := hfr26 0; have hf26_1 : w33.frozen? ⟨go26, (t121 : Int).toNat * 3 + 1, none⟩ = false := hfr26 1; have hf26_2 : w33.frozen? ⟨go26, (t121 : Int).toNat * 3 + 2, none⟩ = false := hfr26 2; clear hcl26 hcc26 hfr26 hM26; replace p26 := eq_true p26; replace q26 := eq_true q26; have HX35 := Aside0.mk (show Kd.N k63 63 w33 w.heap.size (fun k_ => (P0_ k_ ∨ w.heap.size ≤ k_) ∧ k_ ≠ gb123) (.slice (some ⟨go26, 0, none⟩) y118.length co28) y118 from (by (with_reducible repeat (first | apply Kd.N_alloc | apply Kd.N_drewN | apply Kd.N_drew)); exact HO120.out)); obtain ⟨ce35, hcl35, hM35, hcc35, hfr35⟩ := Kd.N_elem HX35.out z63 (t121 : Int) (of_decide_eq_true (by first | (with_reducible assumption) | assumption)) (by have h_ : (t121 : Int) < ((y118.length : Int) : Int) := of_decide_eq_true (by first | (with_reducible assumption) | assumption); first | exact h_ | (have e_ := (Kd.N_reads' HO120.out).1; omega) | simpa using h_); obtain ⟨ua35_2, uc35_2, rfl, ul35_2, ge35_2⟩ := k63_openF hM35; have HP35 := Kd.N_seg HX35.out (t121 : Int) (of_decide_eq_true (by first | (with_reducible assumption) | assumption)) (by have h_ : (t121 : Int) < ((y118.length : Int) : Int) := of_decide_eq_true (by first | (with_reducible assumption) | assumption); first | exact h_ | (have e_ := (Kd.N_reads' HO120.out).1; omega) | simpa using h_) (seg := [.int .i64 ((rd_T63 y118 t121).f0), .int .i64 a3, .slice A122_2 ((rd_T63 y118 t121).f2).length c122_2]) (j := 0) hcl35 hcc35 (show 3 ≤ 3 from by decide) (x' := (⟨(rd_T63 y118 t121).f0, a3, (rd_T63 y118 t121).f2⟩ : S63)) (k63_mkF _ _ (⟨(rd_T63 y118 t121).f0, a3, (rd_T63 y118 t121).f2⟩ : S63) (Kd.V_reads' (Kd.V_mono (ok' := (fun k_ => ((fun k_ => (P0_ k_ ∨ w.heap.size ≤ k_) ∧ k_ ≠ gb123)) k_ ∧ k_ ≠ go26)) (HL122_2.out) (fun k_ hk => ⟨⟨hk.1, hk.2.2⟩, fun e_ => (hk.2.1) (by rw [e_]; rfl)⟩))).2.1 (Kd.V_F (Kd.V_mono (ok' := (fun k_ => ((fun k_ => (P0_ k_ ∨ w.heap.size ≤ k_) ∧ k_ ≠ gb123)) k_ ∧ k_ ≠ go26)) (HL122_2.out) (fun k_ hk => ⟨⟨hk.1, hk.2.2⟩, fun e_ => (hk.2.1) (by rw [e_]; rfl)⟩)))) (fun _ hk => hk); have hx35_0 := hcc35 0 _ rfl; (try simp only [show (k63).sz = 3 from rfl, Nat.mul_one, Nat.add_zero] at hx35_0); have hf35_0 := hfr35 0; (try simp only [show (k63).sz = 3 from rfl, Nat.mul_one, Nat.add_zero] at hf35_0); have hx35_1 := hcc35 1 _ rfl; (try simp only [show (k63).sz = 3 from rfl, Nat.mul_one, Nat.add_zero] at hx35_1); have hf35_1 := hfr35 1; (try simp only [show (k63).sz = 3 from rfl, Nat.mul_one, Nat.add_zero] at hf35_1); have hx35_2 := hcc35 2 _ rfl; (try simp only [show (k63).sz = 3 from rfl, Nat.mul_one, Nat.add_zero] at hx35_2); have hf35_2 := hfr35 2; (try simp only [show (k63).sz = 3 from rfl, Nat.mul_one, Nat.add_zero] at hf35_2); clear hcl35 hcc35 hfr35 hM35) | ((with_reducible refine gate_store (t := 63) (p := 59) rfl ?_); refine store_event (t := 63) (p := 59) (v := ?vo_w36) (w1 := (((w33.setCell ⟨go26, (t121 : Int).toNat * 3, none⟩ (.int .i64 ((rd_T63 y118 t121).f0))).setCell ⟨go26, (t121 : Int).toNat * 3 + 1, none⟩ (.int .i64 a3)).setCell ⟨go26, (t121 : Int).toNat * 3 + 2, none⟩ (.slice A122_2 ((rd_T63 y118 t121).f2).length c122_2))) ?hg ?ho ?hn ?hr ?_; (case ho => rfl); (case hg => rfl); (case hn => rfl); (case hr => first | (go_simp; done) | (go_simp; rfl)); intro w36 hw; have hg : w33.grownBy w36 (some go26) := (by rw [hw]; exact HP35.2); have hp_ : Kd.N k63 63 w36 w.heap.size (fun k_ => (P0_ k_ ∨ w.heap.size ≤ k_) ∧ k_ ≠ gb123) (.slice (some ⟨go26, 0, none⟩) y118.length co28) y126 := (by rw [hw, Ny126.out]; exact HP35.1); clear HP35; have n0_ := Aside0.mk (Kd.V_afterv (v := (.slice (some ⟨go26, 0, none⟩) y118.length co28)) (v1 := (.slice (some ⟨go26, 0, none⟩) y118.length co28)) (ok := (fun k_ => (P0_ k_ ∨ w.heap.size ≤ k_) ∧ k_ ≠ gb123)) (by (with_reducible repeat (first | apply Kd.V_alloc | apply Kd.V_drewN | apply Kd.V_drew)); exact Kd.V_mono HO0.out (fun _ hk => ⟨⟨hk.1, hk.2.2⟩, hk.2.1⟩)) hg (.inl rfl)); have n1_ := Aside0.mk (hp_); have n2_ := Aside0.mk (Kd.V_afterv (v := (.slice (some ⟨go26, 0, none⟩) y118.length co28)) (v1 := (.slice (some ⟨go26, 0, none⟩) y118.length co28)) (ok := (fun k_ => (P0_ k_ ∨ w.heap.size ≤ k_) ∧ k_ ≠ gb123)) (by (with_reducible repeat (first | apply Kd.V_alloc | apply Kd.V_drewN | apply Kd.V_drew)); exact Kd.V_mono HL122_2.out (fun _ hk => ⟨⟨hk.1, hk.2.2⟩, hk.2.1⟩)) hg (.inl rfl)); have n3_ := Aside0.mk (blk_grown (g := gb123) (o := .cells #[.int .i64 ((rd_T63 y118 t121).f0), .int .i64 a3, .slice A122_2 ((rd_T63 y118 t121).f2).length c122_2] 63 (0, 0)) (by (with_reducible repeat (first | refine blk_drewN ?_ _ | refine blk_drew ?_ | refine blk_alloc ?_ _)); exact BK123.out) hg (Kd.N_away HO120.out (fun _ hk => hk.2))); have n4_ := Aside0.mk ((by rw [hw]; exact below_set (below_set (below_set (HB.out) GB26.out) GB26.out) GB26.out : Below w.heap.size w w36)); clear HO0; clear HO120; clear HL122_2; clear BK123; clear HB; have HO0 := n0_; have HO120 := n1_; have HL122_2 := n2_; have BK123 := n3_; have HB := n4_; clear n0_ n1_ n2_ n3_ n4_; clear hg hw hp_))
       go_ret
       exact ⟨_, by first | rfl | (simp [errW_none, errW_some] <;> rfl) | (simp [*, errW_none, errW_some] <;> rfl), by (with_reducible repeat (first | apply Kd.N_alloc | apply Kd.N_drewN | apply Kd.N_drew)); exact Kd.N_mono HO120.out (fun _ hk => hk.1), by repeat (first | (with_reducible first | exact HB.out | apply below_alloc | apply pw_below_drewN | apply below_drew1 | refine below_set ?_ GE123.out) | exact HB.out)⟩
      ·rw [if_neg c25] at H
       have c25b0 : (t124 == 1) = false := beq_eq_false_iff_ne.mpr c25
       have c25b1 : (t124 != 1) = true := bne_iff_ne.mpr c25
       by_cases c37 : t124 = 2
       ·rw [if_pos c37] at H
        have c37b0 : (t124 == 2) = true := beq_iff_eq.mpr c37
        have c37b1 : (t124 != 2) = false := bne_eq_false_iff_eq.mpr c37
        clear c37
        obtain ⟨y127, hy127⟩ : ∃ y_ : List Int, y_ = (([] : List Int)) := ⟨_, rfl⟩
        replace H : (if y127.length + ((rd_T63 y118 t121).f2).length < 17592186044416 then ((some (y127 ++ ((rd_T63 y118 t121).f2) : List Int)).bind fun y130 => (if y130.length < 17592186044416 then (some (y118.set (t121 : Int).toNat (⟨(rd_T63 y118 t121).f0, (rd_T63 y118 t121).f1, (y130 ++ [a3])⟩ : S63))) else (none))) else (none)) = some r := by first | (rw [hy127]; with_reducible exact H) | (have H2_ := (Option.bind_some _ _).symm.trans H; rw [hy127]; with_reducible exact H2_) | (have H2_ := (Option.bind_some _ _).symm.trans H; with_reducible exact H2_) | with_reducible exact H | (rw [hy127]; exact H) | exact H
        have Ny127 := Aside0.mk hy127
        clear hy127
        by_cases c38 : y127.length + ((rd_T63 y118 t121).f2).length < 17592186044416
        ·rw [if_pos c38] at H
         have LMc38 := Aside0.mk c38
         clear c38
         obtain ⟨y130, hy130⟩ : ∃ y_ : List Int, y_ = (y127 ++ ((rd_T63 y118 t121).f2)) := ⟨_, rfl⟩
         replace H : (if y130.length < 17592186044416 then (some (y118.set (t121 : Int).toNat (⟨(rd_T63 y118 t121).f0, (rd_T63 y118 t121).f1, (y130 ++ [a3])⟩ : S63))) else (none)) = some r := by first | (rw [hy130]; with_reducible exact H) | (have H2_ := (Option.bind_some _ _).symm.trans H; rw [hy130]; with_reducible exact H2_) | (have H2_ := (Option.bind_some _ _).symm.trans H; with_reducible exact H2_) | with_reducible exact H | (rw [hy130]; exact H) | exact H
         have Ny130 := Aside0.mk hy130
         clear hy130
         by_cases c39 : y130.length < 17592186044416
         ·rw [if_pos c39] at H
          have LMc39 := Aside0.mk c39
          clear c39
          obtain ⟨y133, hy133⟩ : ∃ y_ : List Int, y_ = (y130 ++ [a3]) := ⟨_, rfl⟩
          replace H : (some (y118.set (t121 : Int).toNat (⟨(rd_T63 y118 t121).f0, (rd_T63 y118 t121).f1, y133⟩ : S63))) = some r := by first | (rw [hy133]; with_reducible exact H) | (have H2_ := (Option.bind_some _ _).symm.trans H; rw [hy133]; with_reducible exact H2_) | (have H2_ := (Option.bind_some _ _).symm.trans H; with_reducible exact H2_) | with_reducible exact H | (rw [hy133]; exact H) | exact H
          have Ny133 := Aside0.mk hy133
          clear hy133
          obtain ⟨y136, hy136⟩ : ∃ y_ : List (S63), y_ = (y118.set (t121 : Int).toNat (⟨(rd_T63 y118 t121).f0, (rd_T63 y118 t121).f1, y133⟩ : S63)) := ⟨_, rfl⟩
          replace H : (some y136) = some r := by first | (rw [hy136]; with_reducible exact H) | (have H2_ := (Option.bind_some _ _).symm.trans H; rw [hy136]; with_reducible exact H2_) | (have H2_ := (Option.bind_some _ _).symm.trans H; with_reducible exact H2_) | with_reducible exact H | (rw [hy136]; exact H) | exact H
          have Ny136 := Aside0.mk hy136
          clear hy136
          obtain rfl := Option.some.inj H
          go_enter Try.func13, Try.ntmps13
          go_wp2_with (first | ((with_reducible refine gate_builtin (b := .append) (xs := #[.tmp 12, .tmp 13]) rfl ?_); at_builtin; refine Kd.N_append_rows k63 (w0 := w) w.heap.size rfl (.tmp 12) (.tmp 13) 24 63 (.agg #[(.int .i64 0), (.int .i64 0), (.slice none 0 0)]) 40 rfl Try.underlying24 info63 rfl (by decide) (by omega) (.slice none 0 0) ([] : List (S63)) l0 _ _ _ (fun k_ => (P0_ k_ ∨ w.heap.size ≤ k_)) (fun k_ => ((fun k_ => (P0_ k_ ∨ w.heap.size ≤ k_))) k_ ∧ some k_ ≠ (.slice none 0 0 : Value).ownBlock) rfl rfl ?aO ?aR (fun _ hk => hk) ?aF ?aB ?aS ?aL ?_; (case aR => exact (by skip; exact Kd.V_F (Kd.V_mono (ok' := (fun k_ => ((fun k_ => (P0_ k_ ∨ w.heap.size ≤ k_))) k_ ∧ some k_ ≠ (.slice none 0 0 : Value).ownBlock)) (HO0.out) (fun k_ hk => ⟨hk, (by simp [Value.ownBlock])⟩)))); (case aB => exact (by repeat (first | (with_reducible first | exact HB.out | apply below_alloc | apply pw_below_drewN | apply below_drew1) | exact HB.out))); (case aF => exact (fun k_ hk => (.inr (Nat.le_trans (below_size (by repeat (first | (with_reducible first | exact HB.out | apply below_alloc | apply pw_below_drewN | apply below_drew1) | exact HB.out))) hk)))); (case aO => exact ((Kd.N_nil _ _ _ _ (fun k_ => (P0_ k_ ∨ w.heap.size ≤ k_))))); (case aS => exact (below_size (by repeat (first | (with_reducible first | exact HB.out | apply below_alloc | apply pw_below_drewN | apply below_drew1) | exact HB.out)))); (case aL => have := LMc5.out; omega); intro v119 w41 ho hb hg hat; rw [← Ny118.out] at ho; have n0_ := Aside0.mk (Kd.V_afterv (Kd.V_apart_nil (by (with_reducible repeat (first | apply Kd.V_alloc | apply Kd.V_drewN | apply Kd.V_drew)); exact HO0.out)) hg hat); have n1_ := Aside0.mk (hb); have n2_ := Aside0.mk (ho); clear HO0; clear HB; have HO0 := n0_; have HB := n1_; have HO120 := n2_; clear n0_ n1_ n2_; clear ho hb hg hat; obtain ⟨Ao42, co42, eo42⟩ := Kd.N_slice HO120.out; subst eo42) | ((with_reducible refine gate_callee (f := 20) rfl ?_); refine goesL_ (some 22) rfl rfl Try.func20 (by kernel_rfl) rfl #[.int .i64 a1, .int .i64 (y118.length : Int)] rfl (by (try simp only [List.map_toArray, List.map_cons, List.map_nil]); first | done | rfl | (simp only [List.length_drop, List.length_take]; rfl)) ?_; (with_reducible refine (worldmintref01_Around.calls a1 (y118.length : Int) t121 _ A9.out).mono ?_); rintro e w' ⟨rfl, ⟨nd, rfl⟩⟩; refine ⟨_, rfl, ?_⟩; (try (rw [drewN_self w41]; generalize hq_ : World.drewN w41 _ = w41; have n0_ : Aside0 (Kd.V k63 63 w41 w.heap.size (fun k_ => (P0_ k_ ∨ w.heap.size ≤ k_) ∧ some k_ ≠ (.slice Ao42 y118.length co42 : Value).ownBlock) (.slice A0 l0.length c0) l0) := ⟨by rw [← hq_]; exact (by (with_reducible repeat (first | apply Kd.V_alloc | apply Kd.V_drewN | apply Kd.V_drew)); exact HO0.out)⟩; have n1_ : Aside0 (Kd.N k63 63 w41 w.heap.size (fun k_ => (P0_ k_ ∨ w.heap.size ≤ k_)) (.slice Ao42 y118.length co42) y118) := ⟨by rw [← hq_]; exact (by (with_reducible repeat (first | apply Kd.N_alloc | apply Kd.N_drewN | apply Kd.N_drew)); exact HO120.out)⟩; have n2_ : Aside0 (Below w.heap.size w w41) := ⟨by rw [← hq_]; exact (by repeat (first | (with_reducible first | exact HB.out | apply below_alloc | apply pw_below_drewN | apply below_drew1) | exact HB.out))⟩; clear HO0 HO120 HB hq_; have HO0 := n0_; have HO120 := n1_; have HB := n2_; clear n0_ n1_ n2_)); have p122 : 0 ≤ (t121 : Int) := of_decide_eq_true (by first | (with_reducible assumption) | assumption); have q122 : t121 < (y118.length : Int) := of_decide_eq_true (by first | (with_reducible assumption) | assumption); obtain ⟨ad122, A122_2, c122_2, e122, hx122_0, hx122_1, hx122_2, hl122_2, hi122_2⟩ := at_T63 (Kd.N_reads' HO120.out).2.2 t121 p122 q122; cases e122; obtain ⟨ce122, hce122, hMe122, hcc122⟩ := Kd.N_get HO120.out z63 t121 p122 (by first | exact q122 | exact of_decide_eq_true (by first | (with_reducible assumption) | assumption) | (have e_ := (Kd.N_reads' HO120.out).1; omega)); obtain ⟨ua122_2, uc122_2, rfl, ul122_2, ge122_2⟩ := k63_openF hMe122; have hv122_2 := hcc122 2 _ rfl; rw [add_field _ _ 2 (by omega)] at hv122_2; replace hv122_2 := Option.some.inj (hv122_2.symm.trans hx122_2); injection hv122_2 with hva_ hvn_ hvc_; rw [hva_] at ge122_2; rw [hvc_] at ul122_2; have HL122_2 := Aside0.mk (show Kd.V (Kd.int .i64) 3 _ w.heap.size _ _ ((rd_T63 y118 t121).f2) from Kd.V_mk ul122_2 ge122_2); clear hva_ hvn_ hvc_ ge122_2 ul122_2; clear hcc122 hce122; have HR122_2 := Aside0.mk hi122_2; have HC122_2 := Aside0.mk hl122_2; clear hi122_2 hl122_2; replace p122 := eq_true p122; replace q122 := eq_true q122) | ((with_reducible refine gate_dst (N := 11) rfl ?_); refine box_event ?hg (N := 11) ?hd (cs := #[.int .i64 0, .int .i64 0, .slice none 0 0]) (t := 63) ?hr ?_; (case hd => rfl); (case hg => rfl); (case hr => first | (go_simp; done) | (go_simp; rfl)); intro gb123 hg w43 hbox hb; have n0_ := Aside0.mk (Kd.V_below (Kd.V_elderB (by (with_reducible repeat (first | apply Kd.V_alloc | apply Kd.V_drewN | apply Kd.V_drew)); exact HO0.out) gb123 (Nat.le_of_eq hg.symm)) hb); have n1_ := Aside0.mk (Kd.N_below (Kd.N_elderB (by (with_reducible repeat (first | apply Kd.N_alloc | apply Kd.N_drewN | apply Kd.N_drew)); exact HO120.out) gb123 (Nat.le_of_eq hg.symm)) hb); have n2_ := Aside0.mk (Kd.V_below (Kd.V_elderB (by (with_reducible repeat (first | apply Kd.V_alloc | apply Kd.V_drewN | apply Kd.V_drew)); exact HL122_2.out) gb123 (Nat.le_of_eq hg.symm)) hb); have n3_ := Aside0.mk (Kd.C_below (by repeat (first | (with_reducible exact HR122_2.out) | (with_reducible refine Kd.C_alloc ?_ _) | (with_reducible refine Kd.C_drewN ?_ _) | (with_reducible refine Kd.C_drew ?_) | exact HR122_2.out)) hb); have n4_ := Aside0.mk (below_step (by repeat (first | (with_reducible first | exact HB.out | apply below_alloc | apply pw_below_drewN | apply below_drew1) | exact HB.out)) hb); have n5_ := Aside0.mk (hbox); have n6_ := Aside0.mk ((by rw [hg]; exact (below_size (by repeat (first | (with_reducible first | exact HB.out | apply below_alloc | apply pw_below_drewN | apply below_drew1) | exact HB.out))) : w.heap.size ≤ gb123)); have n7_ := Aside0.mk ((by rw [hg]; exact (below_size (by repeat (first | (with_reducible first | exact HB.out | apply below_alloc | apply pw_below_drewN | apply below_drew1) | exact HB.out))) : w.heap.size ≤ gb123)); clear HO0; clear HO120; clear HL122_2; clear HR122_2; clear HB; have HO0 := n0_; have HO120 := n1_; have HL122_2 := n2_; have HR122_2 := n3_; have HB := n4_; have BK123 := n5_; have GW123 := n6_; have GE123 := n7_; clear n0_ n1_ n2_ n3_ n4_ n5_ n6_ n7_; clear hb hbox hg; have hcz44_0 : w43.cell? ⟨gb123, 0, none⟩ = some (.int .i64 0) := (blk_cell BK123.out 0).trans rfl; have hcz44_1 : w43.cell? ⟨gb123, 1, none⟩ = some (.int .i64 0) := (blk_cell BK123.out 1).trans rfl; have hcz44_2 : w43.cell? ⟨gb123, 2, none⟩ = some (.slice none 0 0) := (blk_cell BK123.out 2).trans rfl; have hfz44_0 := blk_frozen BK123.out 0; have hfz44_1 := blk_frozen BK123.out 1; have hfz44_2 := blk_frozen BK123.out 2) | ((with_reducible refine gate_callee (f := 20) rfl ?_); refine goesL_ (some 28) rfl rfl Try.func20 (by kernel_rfl) rfl #[.int .i64 a2, .int .i64 5] rfl (by (try simp only [List.map_toArray, List.map_cons, List.map_nil]); first | done | rfl | (simp only [List.length_drop, List.length_take]; rfl)) ?_; (with_reducible refine (worldmintref01_Around.calls a2 5 t124 _ A12.out).mono ?_); rintro e w' ⟨rfl, ⟨nd, rfl⟩⟩; refine ⟨_, rfl, ?_⟩) | ((with_reducible refine gate_dst (N := 45) rfl ?_); refine Kd.R_lit (Kd.int .i64) _ 3 ?hg (N := 45) ?hd (xs := ([] : List Int)) (inner := []) (ok := fun _ => True) (okp := fun _ => True) ?hr ?hp (fun _ hk => hk) trivial (Below.refl _ _) (Nat.le_refl _) (by simp) ?_; (case hd => rfl); (case hg => rfl); (case hr => first | (go_simp; done) | (go_simp; rfl)); (case hp => exact (Reps.none _ _)); intro v128 w45 ho46 hb hg_ hnew_; clear hg_ hnew_; (first | rw [← Ny127.out] at ho46 | (simp only [Int.reduceToNat] at ho46; rw [← Ny127.out] at ho46)); have n0_ := Aside0.mk (Kd.V_elder' (by (with_reducible repeat (first | apply Kd.V_alloc | apply Kd.V_drewN | apply Kd.V_drew)); exact (Kd.V_mono (Kd.V_far (p := ⟨gb123, 2, none⟩) (Kd.V_far (p := ⟨gb123, 1, none⟩) (Kd.V_far (p := ⟨gb123, 0, none⟩) (Kd.V_mono HO0.out (fun k_ hk => (⟨hk, hk.2⟩ : _ ∧ k_ ≠ gb123))) (fun _ hk => hk.2) (.int .i64 ((rd_T63 y118 t121).f0))) (fun _ hk => hk.2) (.int .i64 ((rd_T63 y118 t121).f1))) (fun _ hk => hk.2) (.slice A122_2 ((rd_T63 y118 t121).f2).length c122_2)) (fun _ h_ => h_.1))) (Kd.R_base ho46) hb); have n1_ := Aside0.mk (Kd.N_elder' (by (with_reducible repeat (first | apply Kd.N_alloc | apply Kd.N_drewN | apply Kd.N_drew)); exact (Kd.N_mono (Kd.N_far (p := ⟨gb123, 2, none⟩) (Kd.N_far (p := ⟨gb123, 1, none⟩) (Kd.N_far (p := ⟨gb123, 0, none⟩) (Kd.N_mono HO120.out (fun k_ hk => (⟨hk, hk.2⟩ : _ ∧ k_ ≠ gb123))) (fun _ hk => hk.2) (.int .i64 ((rd_T63 y118 t121).f0))) (fun _ hk => hk.2) (.int .i64 ((rd_T63 y118 t121).f1))) (fun _ hk => hk.2) (.slice A122_2 ((rd_T63 y118 t121).f2).length c122_2)) (fun _ h_ => h_.1))) (Kd.R_base ho46) hb); have n2_ := Aside0.mk (Kd.V_elder' (by (with_reducible repeat (first | apply Kd.V_alloc | apply Kd.V_drewN | apply Kd.V_drew)); exact (Kd.V_mono (Kd.V_far (p := ⟨gb123, 2, none⟩) (Kd.V_far (p := ⟨gb123, 1, none⟩) (Kd.V_far (p := ⟨gb123, 0, none⟩) (Kd.V_mono HL122_2.out (fun k_ hk => (⟨hk, hk.2⟩ : _ ∧ k_ ≠ gb123))) (fun _ hk => hk.2) (.int .i64 ((rd_T63 y118 t121).f0))) (fun _ hk => hk.2) (.int .i64 ((rd_T63 y118 t121).f1))) (fun _ hk => hk.2) (.slice A122_2 ((rd_T63 y118 t121).f2).length c122_2)) (fun _ h_ => h_.1))) (Kd.R_base ho46) hb); have n3_ := Aside0.mk (Kd.R_lower (Kd.R_newM (M := fun k_ => (w.heap.size ≤ k_)) ho46 (below_size (by repeat (first | (with_reducible first | exact HB.out | apply below_alloc | apply pw_below_drewN | apply below_drew1 | refine below_set ?_ GE123.out) | exact HB.out))) (fun k_ h_ => h_)) (below_size (by repeat (first | (with_reducible first | exact HB.out | apply below_alloc | apply pw_below_drewN | apply below_drew1 | refine below_set ?_ GE123.out) | exact HB.out)))); have n4_ := Aside0.mk (Kd.C_below ((Kd.V_reads' (by (with_reducible repeat (first | apply Kd.V_alloc | apply Kd.V_drewN | apply Kd.V_drew)); exact (Kd.V_mono (Kd.V_far (p := ⟨gb123, 2, none⟩) (Kd.V_far (p := ⟨gb123, 1, none⟩) (Kd.V_far (p := ⟨gb123, 0, none⟩) (Kd.V_mono HL122_2.out (fun k_ hk => (⟨hk, hk.2⟩ : _ ∧ k_ ≠ gb123))) (fun _ hk => hk.2) (.int .i64 ((rd_T63 y118 t121).f0))) (fun _ hk => hk.2) (.int .i64 ((rd_T63 y118 t121).f1))) (fun _ hk => hk.2) (.slice A122_2 ((rd_T63 y118 t121).f2).length c122_2)) (fun _ h_ => h_.1)))).2.2) hb); have n5_ := Aside0.mk (blk_below (g := gb123) (o := .cells #[.int .i64 ((rd_T63 y118 t121).f0), .int .i64 ((rd_T63 y118 t121).f1), .slice A122_2 ((rd_T63 y118 t121).f2).length c122_2] 63 (0, 0)) (by (with_reducible repeat (first | refine blk_drewN ?_ _ | refine blk_drew ?_ | refine blk_alloc ?_ _)); refine blk_put (cs := #[.int .i64 ((rd_T63 y118 t121).f0), .int .i64 ((rd_T63 y118 t121).f1), .slice none 0 0]) ?_ 2 _ rfl; (with_reducible repeat (first | refine blk_drewN ?_ _ | refine blk_drew ?_ | refine blk_alloc ?_ _)); refine blk_put (cs := #[.int .i64 ((rd_T63 y118 t121).f0), .int .i64 0, .slice none 0 0]) ?_ 1 _ rfl; (with_reducible repeat (first | refine blk_drewN ?_ _ | refine blk_drew ?_ | refine blk_alloc ?_ _)); refine blk_put (cs := #[.int .i64 0, .int .i64 0, .slice none 0 0]) ?_ 0 _ rfl; (with_reducible repeat (first | refine blk_drewN ?_ _ | refine blk_drew ?_ | refine blk_alloc ?_ _)); exact BK123.out) hb); have n6_ := Aside0.mk (below_step (by repeat (first | (with_reducible first | exact HB.out | apply below_alloc | apply pw_below_drewN | apply below_drew1 | refine below_set ?_ GE123.out) | exact HB.out)) hb); clear HO0; clear HO120; clear HL122_2; clear HR122_2; clear BK123; clear HB; have HO0 := n0_; have HO120 := n1_; have HL122_2 := n2_; have HO129 := n3_; have HR122_2 := n4_; have BK123 := n5_; have HB := n6_; clear n0_ n1_ n2_ n3_ n4_ n5_ n6_; clear hb ho46; have hcz47_0 : w45.cell? ⟨gb123, 0, none⟩ = some (.int .i64 ((rd_T63 y118 t121).f0)) := (blk_cell BK123.out 0).trans rfl; have hcz47_1 : w45.cell? ⟨gb123, 1, none⟩ = some (.int .i64 ((rd_T63 y118 t121).f1)) := (blk_cell BK123.out 1).trans rfl; have hcz47_2 : w45.cell? ⟨gb123, 2, none⟩ = some (.slice A122_2 ((rd_T63 y118 t121).f2).length c122_2) := (blk_cell BK123.out 2).trans rfl; have hfz47_0 := blk_frozen BK123.out 0; have hfz47_1 := blk_frozen BK123.out 1; have hfz47_2 := blk_frozen BK123.out 2) | ((with_reducible refine gate_builtin (b := .append) (xs := #[.tmp 45, .tmp 47]) rfl ?_); at_builtin; refine Kd.R_append_rows (Kd.int .i64) (w0 := w) w.heap.size rfl (.tmp 45) (.tmp 47) 22 3 (.int .i64 0) 8 rfl Try.underlying22 info3 rfl (by decide) (by omega) v128 y127 ((rd_T63 y118 t121).f2) _ _ _ (fun k_ => (w.heap.size ≤ k_)) (fun _ => False) rfl rfl ?aO ?aR (fun _ _ h => h) (fun _ h => h.elim) ?aF ?aB ?aS ?aL ?_; (case aR => repeat (first | exact (by repeat (first | (with_reducible exact HR122_2.out) | (with_reducible refine Kd.C_alloc ?_ _) | (with_reducible refine Kd.C_drewN ?_ _) | (with_reducible refine Kd.C_drew ?_) | exact HR122_2.out)) | (with_reducible refine Kd.C_alloc ?_ _) | (with_reducible refine Kd.C_drewN ?_ _) | (with_reducible refine Kd.C_drew ?_))); (case aB => exact (by repeat (first | (with_reducible first | exact HB.out | apply below_alloc | apply pw_below_drewN | apply below_drew1 | refine below_set ?_ GE123.out) | exact HB.out))); (case aF => exact (fun k_ hk => (Nat.le_trans (below_size (by repeat (first | (with_reducible first | exact HB.out | apply below_alloc | apply pw_below_drewN | apply below_drew1 | refine below_set ?_ GE123.out) | exact HB.out))) hk))); (case aO => exact (by (with_reducible repeat (first | apply Kd.R_alloc | apply Kd.R_drewN | apply Kd.R_drew)); exact Kd.R_mono HO129.out (fun _ hk => hk.1))); (case aS => exact (below_size (by repeat (first | (with_reducible first | exact HB.out | apply below_alloc | apply pw_below_drewN | apply below_drew1 | refine below_set ?_ GE123.out) | exact HB.out)))); (case aL => have := LMc38.out; omega); intro v131 w48 ho hb hg hat; rw [← Ny130.out] at ho; have n0_ := Aside0.mk (Kd.V_afterv (ok := (fun k_ => (P0_ k_ ∨ w.heap.size ≤ k_) ∧ some k_ ≠ (.slice (some ad122) y118.length co42 : Value).ownBlock ∧ k_ ≠ gb123)) (by (with_reducible repeat (first | apply Kd.V_alloc | apply Kd.V_drewN | apply Kd.V_drew)); exact Kd.V_mono HO0.out (fun _ hk => ⟨⟨hk.1.1.1, ⟨hk.1.1.2, hk.1.2⟩⟩, hk.2⟩)) hg hat); have n1_ := Aside0.mk (Kd.N_afterv (ok := (fun k_ => (P0_ k_ ∨ w.heap.size ≤ k_) ∧ k_ ≠ gb123)) (by (with_reducible repeat (first | apply Kd.N_alloc | apply Kd.N_drewN | apply Kd.N_drew)); exact HO120.out) hg hat); have n2_ := Aside0.mk (Kd.V_afterv (ok := (fun k_ => (P0_ k_ ∨ w.heap.size ≤ k_) ∧ some k_ ≠ (.slice (some ad122) y118.length co42 : Value).ownBlock ∧ k_ ≠ gb123)) (by (with_reducible repeat (first | apply Kd.V_alloc | apply Kd.V_drewN | apply Kd.V_drew)); exact Kd.V_mono HL122_2.out (fun _ hk => ⟨⟨hk.1.1.1, ⟨hk.1.1.2, hk.1.2⟩⟩, hk.2⟩)) hg hat); have n3_ := Aside0.mk (blk_grown (g := gb123) (o := .cells #[.int .i64 ((rd_T63 y118 t121).f0), .int .i64 ((rd_T63 y118 t121).f1), .slice A122_2 ((rd_T63 y118 t121).f2).length c122_2] 63 (0, 0)) (by (with_reducible repeat (first | refine blk_drewN ?_ _ | refine blk_drew ?_ | refine blk_alloc ?_ _)); exact BK123.out) hg (Kd.R_ne HO129.out BK123.out (by decide))); have n4_ := Aside0.mk (hb); have n5_ := Aside0.mk (ho); clear HO0; clear HO120; clear HL122_2; clear BK123; clear HB; clear HO129; have HO0 := n0_; have HO120 := n1_; have HL122_2 := n2_; have BK123 := n3_; have HB := n4_; have HO132 := n5_; clear n0_ n1_ n2_ n3_ n4_ n5_; clear ho hb hg hat) | ((with_reducible refine gate_builtin (b := .append) (xs := #[.tmp 48, .tmp 50]) rfl ?_); at_builtin; refine Kd.R_append (Kd.int .i64) (w0 := w) w.heap.size rfl (.tmp 48) (.tmp 50) 22 3 (.int .i64 0) 8 rfl Try.underlying22 info3 rfl (by decide) (by omega) v131 y130 a3 [.int .i64 a3] (fun k_ => (w.heap.size ≤ k_)) (fun _ => False) rfl rfl ?aP (fun _ hk => hk.elim) ?aF ?aO ?aB ?aS ?aL ?_; (case aP => exact rfl); (case aB => exact (by repeat (first | (with_reducible first | exact HB.out | apply below_alloc | apply pw_below_drewN | apply below_drew1 | refine below_set ?_ GE123.out) | exact HB.out))); (case aF => exact (fun k_ hk => (Nat.le_trans (below_size (by repeat (first | (with_reducible first | exact HB.out | apply below_alloc | apply pw_below_drewN | apply below_drew1 | refine below_set ?_ GE123.out) | exact HB.out))) hk))); (case aO => exact (by (with_reducible repeat (first | apply Kd.R_alloc | apply Kd.R_drewN | apply Kd.R_drew)); exact HO132.out)); (case aS => exact (below_size (by repeat (first | (with_reducible first | exact HB.out | apply below_alloc | apply pw_below_drewN | apply below_drew1 | refine below_set ?_ GE123.out) | exact HB.out)))); (case aL => have := LMc39.out; omega); intro v134 w49 ho hb hg hat; rw [← Ny133.out] at ho; have n0_ := Aside0.mk (Kd.V_afterv (ok := (fun k_ => (P0_ k_ ∨ w.heap.size ≤ k_) ∧ some k_ ≠ (.slice (some ad122) y118.length co42 : Value).ownBlock ∧ k_ ≠ gb123)) (by (with_reducible repeat (first | apply Kd.V_alloc | apply Kd.V_drewN | apply Kd.V_drew)); exact HO0.out) hg hat); have n1_ := Aside0.mk (Kd.N_afterv (ok := (fun k_ => (P0_ k_ ∨ w.heap.size ≤ k_) ∧ k_ ≠ gb123)) (by (with_reducible repeat (first | apply Kd.N_alloc | apply Kd.N_drewN | apply Kd.N_drew)); exact HO120.out) hg hat); have n2_ := Aside0.mk (Kd.V_afterv (ok := (fun k_ => (P0_ k_ ∨ w.heap.size ≤ k_) ∧ some k_ ≠ (.slice (some ad122) y118.length co42 : Value).ownBlock ∧ k_ ≠ gb123)) (by (with_reducible repeat (first | apply Kd.V_alloc | apply Kd.V_drewN | apply Kd.V_drew)); exact HL122_2.out) hg hat); have n3_ := Aside0.mk (blk_grown (g := gb123) (o := .cells #[.int .i64 ((rd_T63 y118 t121).f0), .int .i64 ((rd_T63 y118 t121).f1), .slice A122_2 ((rd_T63 y118 t121).f2).length c122_2] 63 (0, 0)) (by (with_reducible repeat (first | refine blk_drewN ?_ _ | refine blk_drew ?_ | refine blk_alloc ?_ _)); exact BK123.out) hg (Kd.R_ne HO132.out BK123.out (by decide))); have n4_ := Aside0.mk (hb); have n5_ := Aside0.mk (ho); clear HO0; clear HO120; clear HL122_2; clear BK123; clear HB; clear HO132; have HO0 := n0_; have HO120 := n1_; have HL122_2 := n2_; have BK123 := n3_; have HB := n4_; have HO135 := n5_; clear n0_ n1_ n2_ n3_ n4_ n5_; clear ho hb hg hat; obtain ⟨Ao50, co50, eo50⟩ := Kd.R_slice HO135.out; subst eo50; have hcz51_0 : w49.cell? ⟨gb123, 0, none⟩ = some (.int .i64 ((rd_T63 y118 t121).f0)) := (blk_cell BK123.out 0).trans rfl; have hcz51_1 : w49.cell? ⟨gb123, 1, none⟩ = some (.int .i64 ((rd_T63 y118 t121).f1)) := (blk_cell BK123.out 1).trans rfl; have hcz51_2 : w49.cell? ⟨gb123, 2, none⟩ = some (.slice A122_2 ((rd_T63 y118 t121).f2).length c122_2) := (blk_cell BK123.out 2).trans rfl; have hfz51_0 := blk_frozen BK123.out 0; have hfz51_1 := blk_frozen BK123.out 1; have hfz51_2 := blk_frozen BK123.out 2) | ((with_reducible refine gate_store (t := 22) (p := 52) rfl ?_); refine store_event (t := 22) (p := 52) (v := ?vo_w52) (w1 := (w49.setCell ⟨gb123, 2, none⟩ (.slice Ao50 y133.length co50))) ?hg ?ho ?hn ?hr ?_; (case ho => rfl); (case hg => rfl); (case hn => rfl); (case hr => first | (go_simp; done) | (go_simp; rfl)); intro w52 hw; have n0_ : Aside0 (Kd.V k63 63 w52 w.heap.size (fun k_ => (P0_ k_ ∨ w.heap.size ≤ k_) ∧ some k_ ≠ (.slice (some ad122) y118.length co42 : Value).ownBlock ∧ some k_ ≠ (.slice Ao50 y133.length co50 : Value).ownBlock ∧ k_ ≠ gb123) (.slice A0 l0.length c0) l0) := ⟨(by rw [hw]; exact (by (with_reducible repeat (first | apply Kd.V_alloc | apply Kd.V_drewN | apply Kd.V_drew)); exact Kd.V_mono (Kd.V_far (p := ⟨gb123, 2, none⟩) (Kd.V_mono HO0.out (fun k_ hk => (⟨hk, hk.1.2.2⟩ : _ ∧ k_ ≠ gb123))) (fun _ hk => hk.2) (.slice Ao50 y133.length co50)) (fun _ hk => ⟨hk.1.1.1, ⟨hk.1.1.2.1, ⟨hk.1.2, hk.1.1.2.2⟩⟩⟩)))⟩; have n1_ : Aside0 (Kd.N k63 63 w52 w.heap.size (fun k_ => (P0_ k_ ∨ w.heap.size ≤ k_) ∧ some k_ ≠ (.slice Ao50 y133.length co50 : Value).ownBlock ∧ k_ ≠ gb123) (.slice (some ad122) y118.length co42) y118) := ⟨(by rw [hw]; exact (by (with_reducible repeat (first | apply Kd.N_alloc | apply Kd.N_drewN | apply Kd.N_drew)); exact Kd.N_mono (Kd.N_far (p := ⟨gb123, 2, none⟩) (Kd.N_mono HO120.out (fun k_ hk => (⟨hk, hk.1.2⟩ : _ ∧ k_ ≠ gb123))) (fun _ hk => hk.2) (.slice Ao50 y133.length co50)) (fun _ hk => ⟨hk.1.1.1, ⟨hk.1.2, hk.1.1.2⟩⟩)))⟩; have n2_ : Aside0 (Kd.V (Kd.int .i64) 3 w52 w.heap.size (fun k_ => (P0_ k_ ∨ w.heap.size ≤ k_) ∧ some k_ ≠ (.slice (some ad122) y118.length co42 : Value).ownBlock ∧ some k_ ≠ (.slice Ao50 y133.length co50 : Value).ownBlock ∧ k_ ≠ gb123) (.slice A122_2 ((rd_T63 y118 t121).f2).length c122_2) ((rd_T63 y118 t121).f2)) := ⟨(by rw [hw]; exact (by (with_reducible repeat (first | apply Kd.V_alloc | apply Kd.V_drewN | apply Kd.V_drew)); exact Kd.V_mono (Kd.V_far (p := ⟨gb123, 2, none⟩) (Kd.V_mono HL122_2.out (fun k_ hk => (⟨hk, hk.1.2.2⟩ : _ ∧ k_ ≠ gb123))) (fun _ hk => hk.2) (.slice Ao50 y133.length co50)) (fun _ hk => ⟨hk.1.1.1, ⟨hk.1.1.2.1, ⟨hk.1.2, hk.1.1.2.2⟩⟩⟩)))⟩; have n3_ : Aside0 (Kd.R (Kd.int .i64) 3 w52 w.heap.size (fun k_ => (w.heap.size ≤ k_)) (.slice Ao50 y133.length co50) y133) := ⟨(by rw [hw]; exact (by (with_reducible repeat (first | apply Kd.R_alloc | apply Kd.R_drewN | apply Kd.R_drew)); exact Kd.R_mono (Kd.R_far (p := ⟨gb123, 2, none⟩) (Kd.R_types HO135.out BK123.out (by decide)) (fun _ hk => hk.2) (.slice Ao50 y133.length co50)) (fun _ hk => hk.1)))⟩; have n4_ : Aside0 (w52.heap[gb123]? = some (.cells #[.int .i64 ((rd_T63 y118 t121).f0), .int .i64 ((rd_T63 y118 t121).f1), .slice Ao50 y133.length co50] 63 (0, 0))) := ⟨(by rw [hw]; exact (by (with_reducible repeat (first | refine blk_drewN ?_ _ | refine blk_drew ?_ | refine blk_alloc ?_ _)); refine blk_put (cs := #[.int .i64 ((rd_T63 y118 t121).f0), .int .i64 ((rd_T63 y118 t121).f1), .slice A122_2 ((rd_T63 y118 t121).f2).length c122_2]) ?_ 2 _ rfl; (with_reducible repeat (first | refine blk_drewN ?_ _ | refine blk_drew ?_ | refine blk_alloc ?_ _)); exact BK123.out))⟩; have n5_ : Aside0 (Below w.heap.size w w52) := ⟨(by rw [hw]; exact (by repeat (first | (with_reducible first | exact HB.out | apply below_alloc | apply pw_below_drewN | apply below_drew1 | refine below_set ?_ GE123.out) | exact HB.out)))⟩; clear hw; clear HO0; clear HO120; clear HL122_2; clear HO135; clear BK123; clear HB; have HO0 := n0_; have HO120 := n1_; have HL122_2 := n2_; have HO135 := n3_; have BK123 := n4_; have HB := n5_; clear n0_ n1_ n2_ n3_ n4_ n5_; have hcz53_0 : w52.cell? ⟨gb123, 0, none⟩ = some (.int .i64 ((rd_T63 y118 t121).f0)) := (blk_cell BK123.out 0).trans rfl; have hcz53_1 : w52.cell? ⟨gb123, 1, none⟩ = some (.int .i64 ((rd_T63 y118 t121).f1)) := (blk_cell BK123.out 1).trans rfl; have hcz53_2 : w52.cell? ⟨gb123, 2, none⟩ = some (.slice Ao50 y133.length co50) := (blk_cell BK123.out 2).trans rfl; have hfz53_0 := blk_frozen BK123.out 0; have hfz53_1 := blk_frozen BK123.out 1; have hfz53_2 := blk_frozen BK123.out 2; have p40 : 0 ≤ (t121 : Int) := of_decide_eq_true (by first | (with_reducible assumption) | assumption); have q40 : (t121 : Int) < ((y118.length : Int) : Int) := of_decide_eq_true (by first | (with_reducible assumption) | assumption); obtain ⟨go40, co40, eo40, gb40, gl40, cl40, HG40⟩ := Kd.N_form HO120.out (by omega); (first | cases eo40 | (injection eo40 with ea_ en_ ec_; (first | subst ea_ | (injection ea_ with ea_; subst ea_)); subst ec_; clear en_)); have GB40 := Aside0.mk gb40; have GG40 := Aside0.mk HG40; clear gb40 gl40 HG40; (first | simp only [add_plain] at hx122_0 | skip); (first | simp only [add_plain] at hx122_1 | skip); (first | simp only [add_plain] at hx122_2 | skip); obtain ⟨ce40, hcl40, hM40, hcc40, hfr40⟩ := Kd.N_elem HO120.out z63 (t121 : Int) p40 q40; obtain ⟨ua40_2, uc40_2, rfl, ul40_2, ge40_2⟩ := k63_openF hM40; have hx40_0 : w52.cell? ⟨go40, (t121 : Int).toNat * 3, none⟩ = some (.int .i64 ((rd_T63 y118 t121).f0)) := hcc40 0 _ rfl; have hx40_1 : w52.cell? ⟨go40, (t121 : Int).toNat * 3 + 1, none⟩ = some (.int .i64 ((rd_T63 y118 t121).f1)) := hcc40 1 _ rfl; have hx40_2 : w52.cell? ⟨go40, (t121 : Int).toNat * 3 + 2, none⟩ = some (.slice ua40_2 ((rd_T63 y118 t121).f2).length uc40_2) := hcc40 2 _ rfl; have hf40_0 : w52.frozen? ⟨go40, (t121 : Int).toNat * 3, none⟩ = false := hfr40 0; have hf40_1 : w52.frozen? ⟨go40, (t121 : Int).toNat * 3 + 1, none⟩ = false := hfr40 1; have hf40_2 : w52.frozen? ⟨go40, (t121 : Int).toNat * 3 + 2, none⟩ = false := hfr40 2; clear hcl40 hcc40 hfr40 hM40; replace p40 := eq_true p40; replace q40 := eq_true q40; have HX54 := Aside0.mk (show Kd.N k63 63 w52 w.heap.size (fun k_ => (P0_ k_ ∨ w.heap.size ≤ k_) ∧ k_ ≠ gb123) (.slice (some ⟨go40, 0, none⟩) y118.length co42) y118 from (by (with_reducible repeat (first | apply Kd.N_alloc | apply Kd.N_drewN | apply Kd.N_drew)); exact Kd.N_mono HO120.out (fun _ hk => ⟨hk.1, hk.2.2⟩))); obtain ⟨ce54, hcl54, hM54, hcc54, hfr54⟩ := Kd.N_elem HX54.out z63 (t121 : Int) (of_decide_eq_true (by first | (with_reducible assumption) | assumption)) (by have h_ : (t121 : Int) < ((y118.length : Int) : Int) := of_decide_eq_true (by first | (with_reducible assumption) | assumption); first | exact h_ | (have e_ := (Kd.N_reads' HO120.out).1; omega) | simpa using h_); obtain ⟨ua54_2, uc54_2, rfl, ul54_2, ge54_2⟩ := k63_openF hM54; have HP54 := Kd.N_seg HX54.out (t121 : Int) (of_decide_eq_true (by first | (with_reducible assumption) | assumption)) (by have h_ : (t121 : Int) < ((y118.length : Int) : Int) := of_decide_eq_true (by first | (with_reducible assumption) | assumption); first | exact h_ | (have e_ := (Kd.N_reads' HO120.out).1; omega) | simpa using h_) (seg := [.int .i64 ((rd_T63 y118 t121).f0), .int .i64 ((rd_T63 y118 t121).f1), .slice Ao50 y133.length co50]) (j := 0) hcl54 hcc54 (show 3 ≤ 3 from by decide) (x' := (⟨(rd_T63 y118 t121).f0, (rd_T63 y118 t121).f1, y133⟩ : S63)) (k63_mkF _ _ (⟨(rd_T63 y118 t121).f0, (rd_T63 y118 t121).f1, y133⟩ : S63) (Kd.R_reads' (Kd.R_mono (ok' := (fun k_ => ((fun k_ => (P0_ k_ ∨ w.heap.size ≤ k_) ∧ k_ ≠ gb123)) k_ ∧ k_ ≠ go40)) (Kd.R_types (Kd.R_apart' (HO135.out) (Kd.N_typed HO120.out) (by decide)) BK123.out (by decide)) (fun k_ hk => ⟨⟨(.inr (hk.1.1)), hk.2⟩, fun e_ => (hk.1.2) (by rw [e_]; rfl)⟩))).2.1 (Kd.R_F (Kd.R_mono (ok' := (fun k_ => ((fun k_ => (P0_ k_ ∨ w.heap.size ≤ k_) ∧ k_ ≠ gb123)) k_ ∧ k_ ≠ go40)) (Kd.R_types (Kd.R_apart' (HO135.out) (Kd.N_typed HO120.out) (by decide)) BK123.out (by decide)) (fun k_ hk => ⟨⟨(.inr (hk.1.1)), hk.2⟩, fun e_ => (hk.1.2) (by rw [e_]; rfl)⟩)))) (fun _ hk => hk); have hx54_0 := hcc54 0 _ rfl; (try simp only [show (k63).sz = 3 from rfl, Nat.mul_one, Nat.add_zero] at hx54_0); have hf54_0 := hfr54 0; (try simp only [show (k63).sz = 3 from rfl, Nat.mul_one, Nat.add_zero] at hf54_0); have hx54_1 := hcc54 1 _ rfl; (try simp only [show (k63).sz = 3 from rfl, Nat.mul_one, Nat.add_zero] at hx54_1); have hf54_1 := hfr54 1; (try simp only [show (k63).sz = 3 from rfl, Nat.mul_one, Nat.add_zero] at hf54_1); have hx54_2 := hcc54 2 _ rfl; (try simp only [show (k63).sz = 3 from rfl, Nat.mul_one, Nat.add_zero] at hx54_2); have hf54_2 := hfr54 2; (try simp only [show (k63).sz = 3 from rfl, Nat.mul_one, Nat.add_zero] at hf54_2); clear hcl54 hcc54 hfr54 hM54) | ((with_reducible refine gate_store (t := 63) (p := 59) rfl ?_); refine store_event (t := 63) (p := 59) (v := ?vo_w55) (w1 := (((w52.setCell ⟨go40, (t121 : Int).toNat * 3, none⟩ (.int .i64 ((rd_T63 y118 t121).f0))).setCell ⟨go40, (t121 : Int).toNat * 3 + 1, none⟩ (.int .i64 ((rd_T63 y118 t121).f1))).setCell ⟨go40, (t121 : Int).toNat * 3 + 2, none⟩ (.slice Ao50 y133.length co50))) ?hg ?ho ?hn ?hr ?_; (case ho => rfl); (case hg => rfl); (case hn => rfl); (case hr => first | (go_simp; done) | (go_simp; rfl)); intro w55 hw; have hg : w52.grownBy w55 (some go40) := (by rw [hw]; exact HP54.2); have hp_ : Kd.N k63 63 w55 w.heap.size (fun k_ => (P0_ k_ ∨ w.heap.size ≤ k_) ∧ k_ ≠ gb123) (.slice (some ⟨go40, 0, none⟩) y118.length co42) y136 := (by rw [hw, Ny136.out]; exact HP54.1); clear HP54; have n0_ := Aside0.mk (Kd.V_afterv (v := (.slice (some ⟨go40, 0, none⟩) y118.length co42)) (v1 := (.slice (some ⟨go40, 0, none⟩) y118.length co42)) (ok := (fun k_ => (P0_ k_ ∨ w.heap.size ≤ k_) ∧ some k_ ≠ (.slice Ao50 y133.length co50 : Value).ownBlock ∧ k_ ≠ gb123)) (by (with_reducible repeat (first | apply Kd.V_alloc | apply Kd.V_drewN | apply Kd.V_drew)); exact Kd.V_mono HO0.out (fun _ hk => ⟨⟨hk.1, ⟨hk.2.2.1, hk.2.2.2⟩⟩, hk.2.1⟩)) hg (.inl rfl)); have n1_ := Aside0.mk (hp_); have n2_ := Aside0.mk (Kd.V_afterv (v := (.slice (some ⟨go40, 0, none⟩) y118.length co42)) (v1 := (.slice (some ⟨go40, 0, none⟩) y118.length co42)) (ok := (fun k_ => (P0_ k_ ∨ w.heap.size ≤ k_) ∧ some k_ ≠ (.slice Ao50 y133.length co50 : Value).ownBlock ∧ k_ ≠ gb123)) (by (with_reducible repeat (first | apply Kd.V_alloc | apply Kd.V_drewN | apply Kd.V_drew)); exact Kd.V_mono HL122_2.out (fun _ hk => ⟨⟨hk.1, ⟨hk.2.2.1, hk.2.2.2⟩⟩, hk.2.1⟩)) hg (.inl rfl)); have n3_ := Aside0.mk (blk_grown (g := gb123) (o := .cells #[.int .i64 ((rd_T63 y118 t121).f0), .int .i64 ((rd_T63 y118 t121).f1), .slice Ao50 y133.length co50] 63 (0, 0)) (by (with_reducible repeat (first | refine blk_drewN ?_ _ | refine blk_drew ?_ | refine blk_alloc ?_ _)); exact BK123.out) hg (Kd.N_away HO120.out (fun _ hk => hk.2.2))); have n4_ := Aside0.mk ((by rw [hw]; exact below_set (below_set (below_set (HB.out) GB40.out) GB40.out) GB40.out : Below w.heap.size w w55)); clear HO0; clear HO120; clear HL122_2; clear BK123; clear HB; clear HO135; have HO0 := n0_; have HO120 := n1_; have HL122_2 := n2_; have BK123 := n3_; have HB := n4_; clear n0_ n1_ n2_ n3_ n4_; clear hg hw hp_))
          go_ret
          exact ⟨_, by first | rfl | (simp [errW_none, errW_some] <;> rfl) | (simp [*, errW_none, errW_some] <;> rfl), by (with_reducible repeat (first | apply Kd.N_alloc | apply Kd.N_drewN | apply Kd.N_drew)); exact Kd.N_mono HO120.out (fun _ hk => hk.1), by repeat (first | (with_reducible first | exact HB.out | apply below_alloc | apply pw_below_drewN | apply below_drew1 | refine below_set ?_ GE123.out) | exact HB.out)⟩
         ·rw [if_neg c39] at H
          exact absurd H (by simp)
        ·rw [if_neg c38] at H
         exact absurd H (by simp)
       ·rw [if_neg c37] at H
        have c37b0 : (t124 == 2) = false := beq_eq_false_iff_ne.mpr c37
        have c37b1 : (t124 != 2) = true := bne_iff_ne.mpr c37
        by_cases c56 : t124 = 3
        ·rw [if_pos c56] at H
         have c56b0 : (t124 == 3) = true := beq_iff_eq.mpr c56
         have c56b1 : (t124 != 3) = false := bne_eq_false_iff_eq.mpr c56
         clear c56
         obtain ⟨y137, hy137⟩ : ∃ y_ : List (S63), y_ = (y118.set (t121 : Int).toNat (⟨(rd_T63 y118 t121).f0, (rd_T63 y118 t121).f1, ([] : List Int)⟩ : S63)) := ⟨_, rfl⟩
         replace H : (some y137) = some r := by first | (rw [hy137]; with_reducible exact H) | (have H2_ := (Option.bind_some _ _).symm.trans H; rw [hy137]; with_reducible exact H2_) | (have H2_ := (Option.bind_some _ _).symm.trans H; with_reducible exact H2_) | with_reducible exact H | (rw [hy137]; exact H) | exact H
         have Ny137 := Aside0.mk hy137
         clear hy137
         obtain rfl := Option.some.inj H
         go_enter Try.func13, Try.ntmps13
         go_wp2_with (first | ((with_reducible refine gate_builtin (b := .append) (xs := #[.tmp 12, .tmp 13]) rfl ?_); at_builtin; refine Kd.N_append_rows k63 (w0 := w) w.heap.size rfl (.tmp 12) (.tmp 13) 24 63 (.agg #[(.int .i64 0), (.int .i64 0), (.slice none 0 0)]) 40 rfl Try.underlying24 info63 rfl (by decide) (by omega) (.slice none 0 0) ([] : List (S63)) l0 _ _ _ (fun k_ => (P0_ k_ ∨ w.heap.size ≤ k_)) (fun k_ => ((fun k_ => (P0_ k_ ∨ w.heap.size ≤ k_))) k_ ∧ some k_ ≠ (.slice none 0 0 : Value).ownBlock) rfl rfl ?aO ?aR (fun _ hk => hk) ?aF ?aB ?aS ?aL ?_; (case aR => exact (by skip; exact Kd.V_F (Kd.V_mono (ok' := (fun k_ => ((fun k_ => (P0_ k_ ∨ w.heap.size ≤ k_))) k_ ∧ some k_ ≠ (.slice none 0 0 : Value).ownBlock)) (HO0.out) (fun k_ hk => ⟨hk, (by simp [Value.ownBlock])⟩)))); (case aB => exact (by repeat (first | (with_reducible first | exact HB.out | apply below_alloc | apply pw_below_drewN | apply below_drew1) | exact HB.out))); (case aF => exact (fun k_ hk => (.inr (Nat.le_trans (below_size (by repeat (first | (with_reducible first | exact HB.out | apply below_alloc | apply pw_below_drewN | apply below_drew1) | exact HB.out))) hk)))); (case aO => exact ((Kd.N_nil _ _ _ _ (fun k_ => (P0_ k_ ∨ w.heap.size ≤ k_))))); (case aS => exact (below_size (by repeat (first | (with_reducible first | exact HB.out | apply below_alloc | apply pw_below_drewN | apply below_drew1) | exact HB.out)))); (case aL => have := LMc5.out; omega); intro v119 w58 ho hb hg hat; rw [← Ny118.out] at ho; have n0_ := Aside0.mk (Kd.V_afterv (Kd.V_apart_nil (by (with_reducible repeat (first | apply Kd.V_alloc | apply Kd.V_drewN | apply Kd.V_drew)); exact HO0.out)) hg hat); have n1_ := Aside0.mk (hb); have n2_ := Aside0.mk (ho); clear HO0; clear HB; have HO0 := n0_; have HB := n1_; have HO120 := n2_; clear n0_ n1_ n2_; clear ho hb hg hat; obtain ⟨Ao59, co59, eo59⟩ := Kd.N_slice HO120.out; subst eo59) | ((with_reducible refine gate_callee (f := 20) rfl ?_); refine goesL_ (some 22) rfl rfl Try.func20 (by kernel_rfl) rfl #[.int .i64 a1, .int .i64 (y118.length : Int)] rfl (by (try simp only [List.map_toArray, List.map_cons, List.map_nil]); first | done | rfl | (simp only [List.length_drop, List.length_take]; rfl)) ?_; (with_reducible refine (worldmintref01_Around.calls a1 (y118.length : Int) t121 _ A9.out).mono ?_); rintro e w' ⟨rfl, ⟨nd, rfl⟩⟩; refine ⟨_, rfl, ?_⟩; (try (rw [drewN_self w58]; generalize hq_ : World.drewN w58 _ = w58; have n0_ : Aside0 (Kd.V k63 63 w58 w.heap.size (fun k_ => (P0_ k_ ∨ w.heap.size ≤ k_) ∧ some k_ ≠ (.slice Ao59 y118.length co59 : Value).ownBlock) (.slice A0 l0.length c0) l0) := ⟨by rw [← hq_]; exact (by (with_reducible repeat (first | apply Kd.V_alloc | apply Kd.V_drewN | apply Kd.V_drew)); exact HO0.out)⟩; have n1_ : Aside0 (Kd.N k63 63 w58 w.heap.size (fun k_ => (P0_ k_ ∨ w.heap.size ≤ k_)) (.slice Ao59 y118.length co59) y118) := ⟨by rw [← hq_]; exact (by (with_reducible repeat (first | apply Kd.N_alloc | apply Kd.N_drewN | apply Kd.N_drew)); exact HO120.out)⟩; have n2_ : Aside0 (Below w.heap.size w w58) := ⟨by rw [← hq_]; exact (by repeat (first | (with_reducible first | exact HB.out | apply below_alloc | apply pw_below_drewN | apply below_drew1) | exact HB.out))⟩; clear HO0 HO120 HB hq_; have HO0 := n0_; have HO120 := n1_; have HB := n2_; clear n0_ n1_ n2_)); have p122 : 0 ≤ (t121 : Int) := of_decide_eq_true (by first | (with_reducible assumption) | assumption); have q122 : t121 < (y118.length : Int) := of_decide_eq_true (by first | (with_reducible assumption) | assumption); obtain ⟨ad122, A122_2, c122_2, e122, hx122_0, hx122_1, hx122_2, hl122_2, hi122_2⟩ := at_T63 (Kd.N_reads' HO120.out).2.2 t121 p122 q122; cases e122; obtain ⟨ce122, hce122, hMe122, hcc122⟩ := Kd.N_get HO120.out z63 t121 p122 (by first | exact q122 | exact of_decide_eq_true (by first | (with_reducible assumption) | assumption) | (have e_ := (Kd.N_reads' HO120.out).1; omega)); obtain ⟨ua122_2, uc122_2, rfl, ul122_2, ge122_2⟩ := k63_openF hMe122; have hv122_2 := hcc122 2 _ rfl; rw [add_field _ _ 2 (by omega)] at hv122_2; replace hv122_2 := Option.some.inj (hv122_2.symm.trans hx122_2); injection hv122_2 with hva_ hvn_ hvc_; rw [hva_] at ge122_2; rw [hvc_] at ul122_2; have HL122_2 := Aside0.mk (show Kd.V (Kd.int .i64) 3 _ w.heap.size _ _ ((rd_T63 y118 t121).f2) from Kd.V_mk ul122_2 ge122_2); clear hva_ hvn_ hvc_ ge122_2 ul122_2; clear hcc122 hce122; have HR122_2 := Aside0.mk hi122_2; have HC122_2 := Aside0.mk hl122_2; clear hi122_2 hl122_2; replace p122 := eq_true p122; replace q122 := eq_true q122) | ((with_reducible refine gate_dst (N := 11) rfl ?_); refine box_event ?hg (N := 11) ?hd (cs := #[.int .i64 0, .int .i64 0, .slice none 0 0]) (t := 63) ?hr ?_; (case hd => rfl); (case hg => rfl); (case hr => first | (go_simp; done) | (go_simp; rfl)); intro gb123 hg w60 hbox hb; have n0_ := Aside0.mk (Kd.V_below (Kd.V_elderB (by (with_reducible repeat (first | apply Kd.V_alloc | apply Kd.V_drewN | apply Kd.V_drew)); exact HO0.out) gb123 (Nat.le_of_eq hg.symm)) hb); have n1_ := Aside0.mk (Kd.N_below (Kd.N_elderB (by (with_reducible repeat (first | apply Kd.N_alloc | apply Kd.N_drewN | apply Kd.N_drew)); exact HO120.out) gb123 (Nat.le_of_eq hg.symm)) hb); have n2_ := Aside0.mk (Kd.V_below (Kd.V_elderB (by (with_reducible repeat (first | apply Kd.V_alloc | apply Kd.V_drewN | apply Kd.V_drew)); exact HL122_2.out) gb123 (Nat.le_of_eq hg.symm)) hb); have n3_ := Aside0.mk (Kd.C_below (by repeat (first | (with_reducible exact HR122_2.out) | (with_reducible refine Kd.C_alloc ?_ _) | (with_reducible refine Kd.C_drewN ?_ _) | (with_reducible refine Kd.C_drew ?_) | exact HR122_2.out)) hb); have n4_ := Aside0.mk (below_step (by repeat (first | (with_reducible first | exact HB.out | apply below_alloc | apply pw_below_drewN | apply below_drew1) | exact HB.out)) hb); have n5_ := Aside0.mk (hbox); have n6_ := Aside0.mk ((by rw [hg]; exact (below_size (by repeat (first | (with_reducible first | exact HB.out | apply below_alloc | apply pw_below_drewN | apply below_drew1) | exact HB.out))) : w.heap.size ≤ gb123)); have n7_ := Aside0.mk ((by rw [hg]; exact (below_size (by repeat (first | (with_reducible first | exact HB.out | apply below_alloc | apply pw_below_drewN | apply below_drew1) | exact HB.out))) : w.heap.size ≤ gb123)); clear HO0; clear HO120; clear HL122_2; clear HR122_2; clear HB; have HO0 := n0_; have HO120 := n1_; have HL122_2 := n2_; have HR122_2 := n3_; have HB := n4_; have BK123 := n5_; have GW123 := n6_; have GE123 := n7_; clear n0_ n1_ n2_ n3_ n4_ n5_ n6_ n7_; clear hb hbox hg; have hcz61_0 : w60.cell? ⟨gb123, 0, none⟩ = some (.int .i64 0) := (blk_cell BK123.out 0).trans rfl; have hcz61_1 : w60.cell? ⟨gb123, 1, none⟩ = some (.int .i64 0) := (blk_cell BK123.out 1).trans rfl; have hcz61_2 : w60.cell? ⟨gb123, 2, none⟩ = some (.slice none 0 0) := (blk_cell BK123.out 2).trans rfl; have hfz61_0 := blk_frozen BK123.out 0; have hfz61_1 := blk_frozen BK123.out 1; have hfz61_2 := blk_frozen BK123.out 2) | ((with_reducible refine gate_store (t := 63) (p := 11) rfl ?_); refine store_event (t := 63) (p := 11) (v := ?vo_w62) (w1 := (((w60.setCell ⟨gb123, 0, none⟩ (.int .i64 ((rd_T63 y118 t121).f0))).setCell ⟨gb123, 1, none⟩ (.int .i64 ((rd_T63 y118 t121).f1))).setCell ⟨gb123, 2, none⟩ (.slice A122_2 ((rd_T63 y118 t121).f2).length c122_2))) ?hg ?ho ?hn ?hr ?_; (case ho => rfl); (case hg => rfl); (case hn => rfl); (case hr => first | (go_simp; done) | (go_simp; rfl)); intro w62 hw; have n0_ : Aside0 (Kd.V k63 63 w62 w.heap.size (fun k_ => (P0_ k_ ∨ w.heap.size ≤ k_) ∧ some k_ ≠ (.slice (some ad122) y118.length co59 : Value).ownBlock ∧ k_ ≠ gb123) (.slice A0 l0.length c0) l0) := ⟨(by rw [hw]; exact (by (with_reducible repeat (first | apply Kd.V_alloc | apply Kd.V_drewN | apply Kd.V_drew)); exact Kd.V_mono (Kd.V_far (p := ⟨gb123, 2, none⟩) (Kd.V_far (p := ⟨gb123, 1, none⟩) (Kd.V_far (p := ⟨gb123, 0, none⟩) (Kd.V_mono HO0.out (fun k_ hk => (⟨hk, hk.2⟩ : _ ∧ k_ ≠ gb123))) (fun _ hk => hk.2) (.int .i64 ((rd_T63 y118 t121).f0))) (fun _ hk => hk.2) (.int .i64 ((rd_T63 y118 t121).f1))) (fun _ hk => hk.2) (.slice A122_2 ((rd_T63 y118 t121).f2).length c122_2)) (fun _ hk => ⟨hk.1.1.1, ⟨hk.1.1.2, hk.1.2⟩⟩)))⟩; have n1_ : Aside0 (Kd.N k63 63 w62 w.heap.size (fun k_ => (P0_ k_ ∨ w.heap.size ≤ k_) ∧ k_ ≠ gb123) (.slice (some ad122) y118.length co59) y118) := ⟨(by rw [hw]; exact (by (with_reducible repeat (first | apply Kd.N_alloc | apply Kd.N_drewN | apply Kd.N_drew)); exact Kd.N_mono (Kd.N_far (p := ⟨gb123, 2, none⟩) (Kd.N_far (p := ⟨gb123, 1, none⟩) (Kd.N_far (p := ⟨gb123, 0, none⟩) (Kd.N_mono HO120.out (fun k_ hk => (⟨hk, hk.2⟩ : _ ∧ k_ ≠ gb123))) (fun _ hk => hk.2) (.int .i64 ((rd_T63 y118 t121).f0))) (fun _ hk => hk.2) (.int .i64 ((rd_T63 y118 t121).f1))) (fun _ hk => hk.2) (.slice A122_2 ((rd_T63 y118 t121).f2).length c122_2)) (fun _ hk => ⟨hk.1.1, hk.1.2⟩)))⟩; have n2_ : Aside0 (Kd.V (Kd.int .i64) 3 w62 w.heap.size (fun k_ => (P0_ k_ ∨ w.heap.size ≤ k_) ∧ some k_ ≠ (.slice (some ad122) y118.length co59 : Value).ownBlock ∧ k_ ≠ gb123) (.slice A122_2 ((rd_T63 y118 t121).f2).length c122_2) ((rd_T63 y118 t121).f2)) := ⟨(by rw [hw]; exact (by (with_reducible repeat (first | apply Kd.V_alloc | apply Kd.V_drewN | apply Kd.V_drew)); exact Kd.V_mono (Kd.V_far (p := ⟨gb123, 2, none⟩) (Kd.V_far (p := ⟨gb123, 1, none⟩) (Kd.V_far (p := ⟨gb123, 0, none⟩) (Kd.V_mono HL122_2.out (fun k_ hk => (⟨hk, hk.2⟩ : _ ∧ k_ ≠ gb123))) (fun _ hk => hk.2) (.int .i64 ((rd_T63 y118 t121).f0))) (fun _ hk => hk.2) (.int .i64 ((rd_T63 y118 t121).f1))) (fun _ hk => hk.2) (.slice A122_2 ((rd_T63 y118 t121).f2).length c122_2)) (fun _ hk => ⟨hk.1.1.1, ⟨hk.1.1.2, hk.1.2⟩⟩)))⟩; have n3_ : Aside0 (w62.heap[gb123]? = some (.cells #[.int .i64 ((rd_T63 y118 t121).f0), .int .i64 ((rd_T63 y118 t121).f1), .slice A122_2 ((rd_T63 y118 t121).f2).length c122_2] 63 (0, 0))) := ⟨(by rw [hw]; exact (by (with_reducible repeat (first | refine blk_drewN ?_ _ | refine blk_drew ?_ | refine blk_alloc ?_ _)); refine blk_put (cs := #[.int .i64 ((rd_T63 y118 t121).f0), .int .i64 ((rd_T63 y118 t121).f1), .slice none 0 0]) ?_ 2 _ rfl; (with_reducible repeat (first | refine blk_drewN ?_ _ | refine blk_drew ?_ | refine blk_alloc ?_ _)); refine blk_put (cs := #[.int .i64 ((rd_T63 y118 t121).f0), .int .i64 0, .slice none 0 0]) ?_ 1 _ rfl; (with_reducible repeat (first | refine blk_drewN ?_ _ | refine blk_drew ?_ | refine blk_alloc ?_ _)); refine blk_put (cs := #[.int .i64 0, .int .i64 0, .slice none 0 0]) ?_ 0 _ rfl; (with_reducible repeat (first | refine blk_drewN ?_ _ | refine blk_drew ?_ | refine blk_alloc ?_ _)); exact BK123.out))⟩; have n4_ : Aside0 (Below w.heap.size w w62) := ⟨(by rw [hw]; exact (by repeat (first | (with_reducible first | exact HB.out | apply below_alloc | apply pw_below_drewN | apply below_drew1 | refine below_set ?_ GE123.out) | exact HB.out)))⟩; clear hw; clear HO0; clear HO120; clear HL122_2; clear BK123; clear HB; have HO0 := n0_; have HO120 := n1_; have HL122_2 := n2_; have BK123 := n3_; have HB := n4_; clear n0_ n1_ n2_ n3_ n4_) | ((with_reducible refine gate_callee (f := 20) rfl ?_); refine goesL_ (some 28) rfl rfl Try.func20 (by kernel_rfl) rfl #[.int .i64 a2, .int .i64 5] rfl (by (try simp only [List.map_toArray, List.map_cons, List.map_nil]); first | done | rfl | (simp only [List.length_drop, List.length_take]; rfl)) ?_; (with_reducible refine (worldmintref01_Around.calls a2 5 t124 _ A12.out).mono ?_); rintro e w' ⟨rfl, ⟨nd, rfl⟩⟩; refine ⟨_, rfl, ?_⟩; (try (rw [drewN_self w62]; generalize hq_ : World.drewN w62 _ = w62; have n0_ : Aside0 (Kd.V (Kd.int .i64) 3 w62 w.heap.size (fun k_ => (P0_ k_ ∨ w.heap.size ≤ k_) ∧ some k_ ≠ (.slice (some ad122) y118.length co59 : Value).ownBlock ∧ k_ ≠ gb123) (.slice A122_2 ((rd_T63 y118 t121).f2).length c122_2) ((rd_T63 y118 t121).f2)) := ⟨by rw [← hq_]; exact (by (with_reducible repeat (first | apply Kd.V_alloc | apply Kd.V_drewN | apply Kd.V_drew)); exact HL122_2.out)⟩; have n1_ : Aside0 (Kd.V k63 63 w62 w.heap.size (fun k_ => (P0_ k_ ∨ w.heap.size ≤ k_) ∧ some k_ ≠ (.slice (some ad122) y118.length co59 : Value).ownBlock ∧ k_ ≠ gb123) (.slice A0 l0.length c0) l0) := ⟨by rw [← hq_]; exact (by (with_reducible repeat (first | apply Kd.V_alloc | apply Kd.V_drewN | apply Kd.V_drew)); exact HO0.out)⟩; have n2_ : Aside0 (Kd.N k63 63 w62 w.heap.size (fun k_ => (P0_ k_ ∨ w.heap.size ≤ k_) ∧ k_ ≠ gb123) (.slice (some ad122) y118.length co59) y118) := ⟨by rw [← hq_]; exact (by (with_reducible repeat (first | apply Kd.N_alloc | apply Kd.N_drewN | apply Kd.N_drew)); exact HO120.out)⟩; have n3_ : Aside0 (w62.heap[gb123]? = some (.cells #[.int .i64 ((rd_T63 y118 t121).f0), .int .i64 ((rd_T63 y118 t121).f1), .slice A122_2 ((rd_T63 y118 t121).f2).length c122_2] 63 (0, 0))) := ⟨by rw [← hq_]; exact (by (with_reducible repeat (first | refine blk_drewN ?_ _ | refine blk_drew ?_ | refine blk_alloc ?_ _)); exact BK123.out)⟩; have n4_ : Aside0 (Below w.heap.size w w62) := ⟨by rw [← hq_]; exact (by repeat (first | (with_reducible first | exact HB.out | apply below_alloc | apply pw_below_drewN | apply below_drew1 | refine below_set ?_ GE123.out) | exact HB.out))⟩; have n5_ : Aside0 (Kd.C (Kd.int .i64) w62 A122_2 ((rd_T63 y118 t121).f2).length ((rd_T63 y118 t121).f2)) := ⟨by first | exact (Kd.V_reads' n0_.out).2.2 | exact (Kd.V_reads' n1_.out).2.2 | (rw [← hq_]; exact (by repeat (first | (with_reducible exact HR122_2.out) | (with_reducible refine Kd.C_alloc ?_ _) | (with_reducible refine Kd.C_drewN ?_ _) | (with_reducible refine Kd.C_drew ?_) | exact HR122_2.out)))⟩; clear HL122_2 HO0 HO120 BK123 HB HR122_2 hq_; have HL122_2 := n0_; have HO0 := n1_; have HO120 := n2_; have BK123 := n3_; have HB := n4_; have HR122_2 := n5_; clear n0_ n1_ n2_ n3_ n4_ n5_)); have hcz63_0 : w62.cell? ⟨gb123, 0, none⟩ = some (.int .i64 ((rd_T63 y118 t121).f0)) := (blk_cell BK123.out 0).trans rfl; have hcz63_1 : w62.cell? ⟨gb123, 1, none⟩ = some (.int .i64 ((rd_T63 y118 t121).f1)) := (blk_cell BK123.out 1).trans rfl; have hcz63_2 : w62.cell? ⟨gb123, 2, none⟩ = some (.slice A122_2 ((rd_T63 y118 t121).f2).length c122_2) := (blk_cell BK123.out 2).trans rfl; have hfz63_0 := blk_frozen BK123.out 0; have hfz63_1 := blk_frozen BK123.out 1; have hfz63_2 := blk_frozen BK123.out 2) | ((with_reducible refine gate_store (t := 22) (p := 55) rfl ?_); refine store_event (t := 22) (p := 55) (v := ?vo_w64) (w1 := (w62.setCell ⟨gb123, 2, none⟩ (.slice none 0 0))) ?hg ?ho ?hn ?hr ?_; (case ho => rfl); (case hg => rfl); (case hn => rfl); (case hr => first | (go_simp; done) | (go_simp; rfl)); intro w64 hw; have n0_ : Aside0 (Kd.V k63 63 w64 w.heap.size (fun k_ => (P0_ k_ ∨ w.heap.size ≤ k_) ∧ some k_ ≠ (.slice (some ad122) y118.length co59 : Value).ownBlock ∧ k_ ≠ gb123) (.slice A0 l0.length c0) l0) := ⟨(by rw [hw]; exact (by (with_reducible repeat (first | apply Kd.V_alloc | apply Kd.V_drewN | apply Kd.V_drew)); exact Kd.V_mono (Kd.V_far (p := ⟨gb123, 2, none⟩) (Kd.V_mono HO0.out (fun k_ hk => (⟨hk, hk.2.2⟩ : _ ∧ k_ ≠ gb123))) (fun _ hk => hk.2) (.slice none 0 0)) (fun _ hk => ⟨hk.1.1, ⟨hk.1.2.1, hk.1.2.2⟩⟩)))⟩; have n1_ : Aside0 (Kd.N k63 63 w64 w.heap.size (fun k_ => (P0_ k_ ∨ w.heap.size ≤ k_) ∧ k_ ≠ gb123) (.slice (some ad122) y118.length co59) y118) := ⟨(by rw [hw]; exact (by (with_reducible repeat (first | apply Kd.N_alloc | apply Kd.N_drewN | apply Kd.N_drew)); exact Kd.N_mono (Kd.N_far (p := ⟨gb123, 2, none⟩) (Kd.N_mono HO120.out (fun k_ hk => (⟨hk, hk.2⟩ : _ ∧ k_ ≠ gb123))) (fun _ hk => hk.2) (.slice none 0 0)) (fun _ hk => ⟨hk.1.1, hk.1.2⟩)))⟩; have n2_ : Aside0 (Kd.V (Kd.int .i64) 3 w64 w.heap.size (fun k_ => (P0_ k_ ∨ w.heap.size ≤ k_) ∧ some k_ ≠ (.slice (some ad122) y118.length co59 : Value).ownBlock ∧ k_ ≠ gb123) (.slice A122_2 ((rd_T63 y118 t121).f2).length c122_2) ((rd_T63 y118 t121).f2)) := ⟨(by rw [hw]; exact (by (with_reducible repeat (first | apply Kd.V_alloc | apply Kd.V_drewN | apply Kd.V_drew)); exact Kd.V_mono (Kd.V_far (p := ⟨gb123, 2, none⟩) (Kd.V_mono HL122_2.out (fun k_ hk => (⟨hk, hk.2.2⟩ : _ ∧ k_ ≠ gb123))) (fun _ hk => hk.2) (.slice none 0 0)) (fun _ hk => ⟨hk.1.1, ⟨hk.1.2.1, hk.1.2.2⟩⟩)))⟩; have n3_ : Aside0 (w64.heap[gb123]? = some (.cells #[.int .i64 ((rd_T63 y118 t121).f0), .int .i64 ((rd_T63 y118 t121).f1), .slice none 0 0] 63 (0, 0))) := ⟨(by rw [hw]; exact (by (with_reducible repeat (first | refine blk_drewN ?_ _ | refine blk_drew ?_ | refine blk_alloc ?_ _)); refine blk_put (cs := #[.int .i64 ((rd_T63 y118 t121).f0), .int .i64 ((rd_T63 y118 t121).f1), .slice A122_2 ((rd_T63 y118 t121).f2).length c122_2]) ?_ 2 _ rfl; (with_reducible repeat (first | refine blk_drewN ?_ _ | refine blk_drew ?_ | refine blk_alloc ?_ _)); exact BK123.out))⟩; have n4_ : Aside0 (Below w.heap.size w w64) := ⟨(by rw [hw]; exact (by repeat (first | (with_reducible first | exact HB.out | apply below_alloc | apply pw_below_drewN | apply below_drew1 | refine below_set ?_ GE123.out) | exact HB.out)))⟩; clear hw; clear HO0; clear HO120; clear HL122_2; clear BK123; clear HB; have HO0 := n0_; have HO120 := n1_; have HL122_2 := n2_; have BK123 := n3_; have HB := n4_; clear n0_ n1_ n2_ n3_ n4_; have hcz65_0 : w64.cell? ⟨gb123, 0, none⟩ = some (.int .i64 ((rd_T63 y118 t121).f0)) := (blk_cell BK123.out 0).trans rfl; have hcz65_1 : w64.cell? ⟨gb123, 1, none⟩ = some (.int .i64 ((rd_T63 y118 t121).f1)) := (blk_cell BK123.out 1).trans rfl; have hcz65_2 : w64.cell? ⟨gb123, 2, none⟩ = some (.slice none 0 0) := (blk_cell BK123.out 2).trans rfl; have hfz65_0 := blk_frozen BK123.out 0; have hfz65_1 := blk_frozen BK123.out 1; have hfz65_2 := blk_frozen BK123.out 2; have p57 : 0 ≤ (t121 : Int) := of_decide_eq_true (by first | (with_reducible assumption) | assumption); have q57 : (t121 : Int) < ((y118.length : Int) : Int) := of_decide_eq_true (by first | (with_reducible assumption) | assumption); obtain ⟨go57, co57, eo57, gb57, gl57, cl57, HG57⟩ := Kd.N_form HO120.out (by omega); (first | cases eo57 | (injection eo57 with ea_ en_ ec_; (first | subst ea_ | (injection ea_ with ea_; subst ea_)); subst ec_; clear en_)); have GB57 := Aside0.mk gb57; have GG57 := Aside0.mk HG57; clear gb57 gl57 HG57; (first | simp only [add_plain] at hx122_0 | skip); (first | simp only [add_plain] at hx122_1 | skip); (first | simp only [add_plain] at hx122_2 | skip); obtain ⟨ce57, hcl57, hM57, hcc57, hfr57⟩ := Kd.N_elem HO120.out z63 (t121 : Int) p57 q57; obtain ⟨ua57_2, uc57_2, rfl, ul57_2, ge57_2⟩ := k63_openF hM57; have hx57_0 : w64.cell? ⟨go57, (t121 : Int).toNat * 3, none⟩ = some (.int .i64 ((rd_T63 y118 t121).f0)) := hcc57 0 _ rfl; have hx57_1 : w64.cell? ⟨go57, (t121 : Int).toNat * 3 + 1, none⟩ = some (.int .i64 ((rd_T63 y118 t121).f1)) := hcc57 1 _ rfl; have hx57_2 : w64.cell? ⟨go57, (t121 : Int).toNat * 3 + 2, none⟩ = some (.slice ua57_2 ((rd_T63 y118 t121).f2).length uc57_2) := hcc57 2 _ rfl; have hf57_0 : w64.frozen? ⟨go57, (t121 : Int).toNat * 3, none⟩ = false := hfr57 0; have hf57_1 : w64.frozen? ⟨go57, (t121 : Int).toNat * 3 + 1, none⟩ = false := hfr57 1; have hf57_2 : w64.frozen? ⟨go57, (t121 : Int).toNat * 3 + 2, none⟩ = false := hfr57 2; clear hcl57 hcc57 hfr57 hM57; replace p57 := eq_true p57; replace q57 := eq_true q57; have HX66 := Aside0.mk (show Kd.N k63 63 w64 w.heap.size (fun k_ => (P0_ k_ ∨ w.heap.size ≤ k_) ∧ k_ ≠ gb123) (.slice (some ⟨go57, 0, none⟩) y118.length co59) y118 from (by (with_reducible repeat (first | apply Kd.N_alloc | apply Kd.N_drewN | apply Kd.N_drew)); exact HO120.out)); obtain ⟨ce66, hcl66, hM66, hcc66, hfr66⟩ := Kd.N_elem HX66.out z63 (t121 : Int) (of_decide_eq_true (by first | (with_reducible assumption) | assumption)) (by have h_ : (t121 : Int) < ((y118.length : Int) : Int) := of_decide_eq_true (by first | (with_reducible assumption) | assumption); first | exact h_ | (have e_ := (Kd.N_reads' HO120.out).1; omega) | simpa using h_); obtain ⟨ua66_2, uc66_2, rfl, ul66_2, ge66_2⟩ := k63_openF hM66; have HP66 := Kd.N_seg HX66.out (t121 : Int) (of_decide_eq_true (by first | (with_reducible assumption) | assumption)) (by have h_ : (t121 : Int) < ((y118.length : Int) : Int) := of_decide_eq_true (by first | (with_reducible assumption) | assumption); first | exact h_ | (have e_ := (Kd.N_reads' HO120.out).1; omega) | simpa using h_) (seg := [.int .i64 ((rd_T63 y118 t121).f0), .int .i64 ((rd_T63 y118 t121).f1), .slice none 0 0]) (j := 0) hcl66 hcc66 (show 3 ≤ 3 from by decide) (x' := (⟨(rd_T63 y118 t121).f0, (rd_T63 y118 t121).f1, ([] : List Int)⟩ : S63)) (k63_mkF _ _ (⟨(rd_T63 y118 t121).f0, (rd_T63 y118 t121).f1, ([] : List Int)⟩ : S63) (Nat.le_refl _) (Kd.F_nil _ _ _)) (fun _ hk => hk); have hx66_0 := hcc66 0 _ rfl; (try simp only [show (k63).sz = 3 from rfl, Nat.mul_one, Nat.add_zero] at hx66_0); have hf66_0 := hfr66 0; (try simp only [show (k63).sz = 3 from rfl, Nat.mul_one, Nat.add_zero] at hf66_0); have hx66_1 := hcc66 1 _ rfl; (try simp only [show (k63).sz = 3 from rfl, Nat.mul_one, Nat.add_zero] at hx66_1); have hf66_1 := hfr66 1; (try simp only [show (k63).sz = 3 from rfl, Nat.mul_one, Nat.add_zero] at hf66_1); have hx66_2 := hcc66 2 _ rfl; (try simp only [show (k63).sz = 3 from rfl, Nat.mul_one, Nat.add_zero] at hx66_2); have hf66_2 := hfr66 2; (try simp only [show (k63).sz = 3 from rfl, Nat.mul_one, Nat.add_zero] at hf66_2); clear hcl66 hcc66 hfr66 hM66) | ((with_reducible refine gate_store (t := 63) (p := 59) rfl ?_); refine store_event (t := 63) (p := 59) (v := ?vo_w67) (w1 := (((w64.setCell ⟨go57, (t121 : Int).toNat * 3, none⟩ (.int .i64 ((rd_T63 y118 t121).f0))).setCell ⟨go57, (t121 : Int).toNat * 3 + 1, none⟩ (.int .i64 ((rd_T63 y118 t121).f1))).setCell ⟨go57, (t121 : Int).toNat * 3 + 2, none⟩ (.slice none 0 0))) ?hg ?ho ?hn ?hr ?_; (case ho => rfl); (case hg => rfl); (case hn => rfl); (case hr => first | (go_simp; done) | (go_simp; rfl)); intro w67 hw; have hg : w64.grownBy w67 (some go57) := (by rw [hw]; exact HP66.2); have hp_ : Kd.N k63 63 w67 w.heap.size (fun k_ => (P0_ k_ ∨ w.heap.size ≤ k_) ∧ k_ ≠ gb123) (.slice (some ⟨go57, 0, none⟩) y118.length co59) y137 := (by rw [hw, Ny137.out]; exact HP66.1); clear HP66; have n0_ := Aside0.mk (Kd.V_afterv (v := (.slice (some ⟨go57, 0, none⟩) y118.length co59)) (v1 := (.slice (some ⟨go57, 0, none⟩) y118.length co59)) (ok := (fun k_ => (P0_ k_ ∨ w.heap.size ≤ k_) ∧ k_ ≠ gb123)) (by (with_reducible repeat (first | apply Kd.V_alloc | apply Kd.V_drewN | apply Kd.V_drew)); exact Kd.V_mono HO0.out (fun _ hk => ⟨⟨hk.1, hk.2.2⟩, hk.2.1⟩)) hg (.inl rfl)); have n1_ := Aside0.mk (hp_); have n2_ := Aside0.mk (Kd.V_afterv (v := (.slice (some ⟨go57, 0, none⟩) y118.length co59)) (v1 := (.slice (some ⟨go57, 0, none⟩) y118.length co59)) (ok := (fun k_ => (P0_ k_ ∨ w.heap.size ≤ k_) ∧ k_ ≠ gb123)) (by (with_reducible repeat (first | apply Kd.V_alloc | apply Kd.V_drewN | apply Kd.V_drew)); exact Kd.V_mono HL122_2.out (fun _ hk => ⟨⟨hk.1, hk.2.2⟩, hk.2.1⟩)) hg (.inl rfl)); have n3_ := Aside0.mk (blk_grown (g := gb123) (o := .cells #[.int .i64 ((rd_T63 y118 t121).f0), .int .i64 ((rd_T63 y118 t121).f1), .slice none 0 0] 63 (0, 0)) (by (with_reducible repeat (first | refine blk_drewN ?_ _ | refine blk_drew ?_ | refine blk_alloc ?_ _)); exact BK123.out) hg (Kd.N_away HO120.out (fun _ hk => hk.2))); have n4_ := Aside0.mk ((by rw [hw]; exact below_set (below_set (below_set (HB.out) GB57.out) GB57.out) GB57.out : Below w.heap.size w w67)); clear HO0; clear HO120; clear HL122_2; clear BK123; clear HB; have HO0 := n0_; have HO120 := n1_; have HL122_2 := n2_; have BK123 := n3_; have HB := n4_; clear n0_ n1_ n2_ n3_ n4_; clear hg hw hp_))
         go_ret
         exact ⟨_, by first | rfl | (simp [errW_none, errW_some] <;> rfl) | (simp [*, errW_none, errW_some] <;> rfl), by (with_reducible repeat (first | apply Kd.N_alloc | apply Kd.N_drewN | apply Kd.N_drew)); exact Kd.N_mono HO120.out (fun _ hk => hk.1), by repeat (first | (with_reducible first | exact HB.out | apply below_alloc | apply pw_below_drewN | apply below_drew1 | refine below_set ?_ GE123.out) | exact HB.out)⟩
        ·rw [if_neg c56] at H
         have c56b0 : (t124 == 3) = false := beq_eq_false_iff_ne.mpr c56
         have c56b1 : (t124 != 3) = true := bne_iff_ne.mpr c56
         obtain ⟨y138, hy138⟩ : ∃ y_ : List Int, y_ = (([a3] : List Int)) := ⟨_, rfl⟩
         replace H : (if y138.length + ((rd_T63 y118 t121).f2).length < 17592186044416 then (some (y118.set (t121 : Int).toNat (⟨(rd_T63 y118 t121).f0, (rd_T63 y118 t121).f1, (y138 ++ ((rd_T63 y118 t121).f2))⟩ : S63))) else (none)) = some r := by first | (rw [hy138]; with_reducible exact H) | (have H2_ := (Option.bind_some _ _).symm.trans H; rw [hy138]; with_reducible exact H2_) | (have H2_ := (Option.bind_some _ _).symm.trans H; with_reducible exact H2_) | with_reducible exact H | (rw [hy138]; exact H) | exact H
         have Ny138 := Aside0.mk hy138
         clear hy138
         by_cases c68 : y138.length + ((rd_T63 y118 t121).f2).length < 17592186044416
         ·rw [if_pos c68] at H
          have LMc68 := Aside0.mk c68
          clear c68
          obtain ⟨y141, hy141⟩ : ∃ y_ : List Int, y_ = (y138 ++ ((rd_T63 y118 t121).f2)) := ⟨_, rfl⟩
          replace H : (some (y118.set (t121 : Int).toNat (⟨(rd_T63 y118 t121).f0, (rd_T63 y118 t121).f1, y141⟩ : S63))) = some r := by first | (rw [hy141]; with_reducible exact H) | (have H2_ := (Option.bind_some _ _).symm.trans H; rw [hy141]; with_reducible exact H2_) | (have H2_ := (Option.bind_some _ _).symm.trans H; with_reducible exact H2_) | with_reducible exact H | (rw [hy141]; exact H) | exact H
          have Ny141 := Aside0.mk hy141
          clear hy141
          obtain ⟨y144, hy144⟩ : ∃ y_ : List (S63), y_ = (y118.set (t121 : Int).toNat (⟨(rd_T63 y118 t121).f0, (rd_T63 y118 t121).f1, y141⟩ : S63)) := ⟨_, rfl⟩
          replace H : (some y144) = some r := by first | (rw [hy144]; with_reducible exact H) | (have H2_ := (Option.bind_some _ _).symm.trans H; rw [hy144]; with_reducible exact H2_) | (have H2_ := (Option.bind_some _ _).symm.trans H; with_reducible exact H2_) | with_reducible exact H | (rw [hy144]; exact H) | exact H
          have Ny144 := Aside0.mk hy144
          clear hy144
          obtain rfl := Option.some.inj H
          go_enter Try.func13, Try.ntmps13
          go_wp2_with (first | ((with_reducible refine gate_builtin (b := .append) (xs := #[.tmp 12, .tmp 13]) rfl ?_); at_builtin; refine Kd.N_append_rows k63 (w0 := w) w.heap.size rfl (.tmp 12) (.tmp 13) 24 63 (.agg #[(.int .i64 0), (.int .i64 0), (.slice none 0 0)]) 40 rfl Try.underlying24 info63 rfl (by decide) (by omega) (.slice none 0 0) ([] : List (S63)) l0 _ _ _ (fun k_ => (P0_ k_ ∨ w.heap.size ≤ k_)) (fun k_ => ((fun k_ => (P0_ k_ ∨ w.heap.size ≤ k_))) k_ ∧ some k_ ≠ (.slice none 0 0 : Value).ownBlock) rfl rfl ?aO ?aR (fun _ hk => hk) ?aF ?aB ?aS ?aL ?_; (case aR => exact (by skip; exact Kd.V_F (Kd.V_mono (ok' := (fun k_ => ((fun k_ => (P0_ k_ ∨ w.heap.size ≤ k_))) k_ ∧ some k_ ≠ (.slice none 0 0 : Value).ownBlock)) (HO0.out) (fun k_ hk => ⟨hk, (by simp [Value.ownBlock])⟩)))); (case aB => exact (by repeat (first | (with_reducible first | exact HB.out | apply below_alloc | apply pw_below_drewN | apply below_drew1) | exact HB.out))); (case aF => exact (fun k_ hk => (.inr (Nat.le_trans (below_size (by repeat (first | (with_reducible first | exact HB.out | apply below_alloc | apply pw_below_drewN | apply below_drew1) | exact HB.out))) hk)))); (case aO => exact ((Kd.N_nil _ _ _ _ (fun k_ => (P0_ k_ ∨ w.heap.size ≤ k_))))); (case aS => exact (below_size (by repeat (first | (with_reducible first | exact HB.out | apply below_alloc | apply pw_below_drewN | apply below_drew1) | exact HB.out)))); (case aL => have := LMc5.out; omega); intro v119 w70 ho hb hg hat; rw [← Ny118.out] at ho; have n0_ := Aside0.mk (Kd.V_afterv (Kd.V_apart_nil (by (with_reducible repeat (first | apply Kd.V_alloc | apply Kd.V_drewN | apply Kd.V_drew)); exact HO0.out)) hg hat); have n1_ := Aside0.mk (hb); have n2_ := Aside0.mk (ho); clear HO0; clear HB; have HO0 := n0_; have HB := n1_; have HO120 := n2_; clear n0_ n1_ n2_; clear ho hb hg hat; obtain ⟨Ao71, co71, eo71⟩ := Kd.N_slice HO120.out; subst eo71) | ((with_reducible refine gate_callee (f := 20) rfl ?_); refine goesL_ (some 22) rfl rfl Try.func20 (by kernel_rfl) rfl #[.int .i64 a1, .int .i64 (y118.length : Int)] rfl (by (try simp only [List.map_toArray, List.map_cons, List.map_nil]); first | done | rfl | (simp only [List.length_drop, List.length_take]; rfl)) ?_; (with_reducible refine (worldmintref01_Around.calls a1 (y118.length : Int) t121 _ A9.out).mono ?_); rintro e w' ⟨rfl, ⟨nd, rfl⟩⟩; refine ⟨_, rfl, ?_⟩; (try (rw [drewN_self w70]; generalize hq_ : World.drewN w70 _ = w70; have n0_ : Aside0 (Kd.V k63 63 w70 w.heap.size (fun k_ => (P0_ k_ ∨ w.heap.size ≤ k_) ∧ some k_ ≠ (.slice Ao71 y118.length co71 : Value).ownBlock) (.slice A0 l0.length c0) l0) := ⟨by rw [← hq_]; exact (by (with_reducible repeat (first | apply Kd.V_alloc | apply Kd.V_drewN | apply Kd.V_drew)); exact HO0.out)⟩; have n1_ : Aside0 (Kd.N k63 63 w70 w.heap.size (fun k_ => (P0_ k_ ∨ w.heap.size ≤ k_)) (.slice Ao71 y118.length co71) y118) := ⟨by rw [← hq_]; exact (by (with_reducible repeat (first | apply Kd.N_alloc | apply Kd.N_drewN | apply Kd.N_drew)); exact HO120.out)⟩; have n2_ : Aside0 (Below w.heap.size w w70) := ⟨by rw [← hq_]; exact (by repeat (first | (with_reducible first | exact HB.out | apply below_alloc | apply pw_below_drewN | apply below_drew1) | exact HB.out))⟩; clear HO0 HO120 HB hq_; have HO0 := n0_; have HO120 := n1_; have HB := n2_; clear n0_ n1_ n2_)); have p122 : 0 ≤ (t121 : Int) := of_decide_eq_true (by first | (with_reducible assumption) | assumption); have q122 : t121 < (y118.length : Int) := of_decide_eq_true (by first | (with_reducible assumption) | assumption); obtain ⟨ad122, A122_2, c122_2, e122, hx122_0, hx122_1, hx122_2, hl122_2, hi122_2⟩ := at_T63 (Kd.N_reads' HO120.out).2.2 t121 p122 q122; cases e122; obtain ⟨ce122, hce122, hMe122, hcc122⟩ := Kd.N_get HO120.out z63 t121 p122 (by first | exact q122 | exact of_decide_eq_true (by first | (with_reducible assumption) | assumption) | (have e_ := (Kd.N_reads' HO120.out).1; omega)); obtain ⟨ua122_2, uc122_2, rfl, ul122_2, ge122_2⟩ := k63_openF hMe122; have hv122_2 := hcc122 2 _ rfl; rw [add_field _ _ 2 (by omega)] at hv122_2; replace hv122_2 := Option.some.inj (hv122_2.symm.trans hx122_2); injection hv122_2 with hva_ hvn_ hvc_; rw [hva_] at ge122_2; rw [hvc_] at ul122_2; have HL122_2 := Aside0.mk (show Kd.V (Kd.int .i64) 3 _ w.heap.size _ _ ((rd_T63 y118 t121).f2) from Kd.V_mk ul122_2 ge122_2); clear hva_ hvn_ hvc_ ge122_2 ul122_2; clear hcc122 hce122; have HR122_2 := Aside0.mk hi122_2; have HC122_2 := Aside0.mk hl122_2; clear hi122_2 hl122_2; replace p122 := eq_true p122; replace q122 := eq_true q122) | ((with_reducible refine gate_dst (N := 11) rfl ?_); refine box_event ?hg (N := 11) ?hd (cs := #[.int .i64 0, .int .i64 0, .slice none 0 0]) (t := 63) ?hr ?_; (case hd => rfl); (case hg => rfl); (case hr => first | (go_simp; done) | (go_simp; rfl)); intro gb123 hg w72 hbox hb; have n0_ := Aside0.mk (Kd.V_below (Kd.V_elderB (by (with_reducible repeat (first | apply Kd.V_alloc | apply Kd.V_drewN | apply Kd.V_drew)); exact HO0.out) gb123 (Nat.le_of_eq hg.symm)) hb); have n1_ := Aside0.mk (Kd.N_below (Kd.N_elderB (by (with_reducible repeat (first | apply Kd.N_alloc | apply Kd.N_drewN | apply Kd.N_drew)); exact HO120.out) gb123 (Nat.le_of_eq hg.symm)) hb); have n2_ := Aside0.mk (Kd.V_below (Kd.V_elderB (by (with_reducible repeat (first | apply Kd.V_alloc | apply Kd.V_drewN | apply Kd.V_drew)); exact HL122_2.out) gb123 (Nat.le_of_eq hg.symm)) hb); have n3_ := Aside0.mk (Kd.C_below (by repeat (first | (with_reducible exact HR122_2.out) | (with_reducible refine Kd.C_alloc ?_ _) | (with_reducible refine Kd.C_drewN ?_ _) | (with_reducible refine Kd.C_drew ?_) | exact HR122_2.out)) hb); have n4_ := Aside0.mk (below_step (by repeat (first | (with_reducible first | exact HB.out | apply below_alloc | apply pw_below_drewN | apply below_drew1) | exact HB.out)) hb); have n5_ := Aside0.mk (hbox); have n6_ := Aside0.mk ((by rw [hg]; exact (below_size (by repeat (first | (with_reducible first | exact HB.out | apply below_alloc | apply pw_below_drewN | apply below_drew1) | exact HB.out))) : w.heap.size ≤ gb123)); have n7_ := Aside0.mk ((by rw [hg]; exact (below_size (by repeat (first | (with_reducible first | exact HB.out | apply below_alloc | apply pw_below_drewN | apply below_drew1) | exact HB.out))) : w.heap.size ≤ gb123)); clear HO0; clear HO120; clear HL122_2; clear HR122_2; clear HB; have HO0 := n0_; have HO120 := n1_; have HL122_2 := n2_; have HR122_2 := n3_; have HB := n4_; have BK123 := n5_; have GW123 := n6_; have GE123 := n7_; clear n0_ n1_ n2_ n3_ n4_ n5_ n6_ n7_; clear hb hbox hg; have hcz73_0 : w72.cell? ⟨gb123, 0, none⟩ = some (.int .i64 0) := (blk_cell BK123.out 0).trans rfl; have hcz73_1 : w72.cell? ⟨gb123, 1, none⟩ = some (.int .i64 0) := (blk_cell BK123.out 1).trans rfl; have hcz73_2 : w72.cell? ⟨gb123, 2, none⟩ = some (.slice none 0 0) := (blk_cell BK123.out 2).trans rfl; have hfz73_0 := blk_frozen BK123.out 0; have hfz73_1 := blk_frozen BK123.out 1; have hfz73_2 := blk_frozen BK123.out 2) | ((with_reducible refine gate_callee (f := 20) rfl ?_); refine goesL_ (some 28) rfl rfl Try.func20 (by kernel_rfl) rfl #[.int .i64 a2, .int .i64 5] rfl (by (try simp only [List.map_toArray, List.map_cons, List.map_nil]); first | done | rfl | (simp only [List.length_drop, List.length_take]; rfl)) ?_; (with_reducible refine (worldmintref01_Around.calls a2 5 t124 _ A12.out).mono ?_); rintro e w' ⟨rfl, ⟨nd, rfl⟩⟩; refine ⟨_, rfl, ?_⟩) | ((with_reducible refine gate_dst (N := 30) rfl ?_); refine Kd.R_lit (Kd.int .i64) _ 3 ?hg (N := 30) ?hd (xs := ([a3] : List Int)) (inner := [.int .i64 a3]) (ok := fun _ => True) (okp := fun _ => True) ?hr ?hp (fun _ hk => hk) trivial (Below.refl _ _) (Nat.le_refl _) (by simp) ?_; (case hd => rfl); (case hg => rfl); (case hr => first | (go_simp; done) | (go_simp; rfl)); (case hp => exact (Reps.one (show Kd.M (Kd.int .i64) _ _ _ a3 [.int .i64 a3] from rfl) (Reps.none _ _))); intro v139 w74 ho75 hb hg_ hnew_; clear hg_ hnew_; (first | rw [← Ny138.out] at ho75 | (simp only [Int.reduceToNat] at ho75; rw [← Ny138.out] at ho75)); have n0_ := Aside0.mk (Kd.V_elder' (by (with_reducible repeat (first | apply Kd.V_alloc | apply Kd.V_drewN | apply Kd.V_drew)); exact (Kd.V_mono (Kd.V_far (p := ⟨gb123, 2, none⟩) (Kd.V_far (p := ⟨gb123, 1, none⟩) (Kd.V_far (p := ⟨gb123, 0, none⟩) (Kd.V_mono HO0.out (fun k_ hk => (⟨hk, hk.2⟩ : _ ∧ k_ ≠ gb123))) (fun _ hk => hk.2) (.int .i64 ((rd_T63 y118 t121).f0))) (fun _ hk => hk.2) (.int .i64 ((rd_T63 y118 t121).f1))) (fun _ hk => hk.2) (.slice A122_2 ((rd_T63 y118 t121).f2).length c122_2)) (fun _ h_ => h_.1))) (Kd.R_base ho75) hb); have n1_ := Aside0.mk (Kd.N_elder' (by (with_reducible repeat (first | apply Kd.N_alloc | apply Kd.N_drewN | apply Kd.N_drew)); exact (Kd.N_mono (Kd.N_far (p := ⟨gb123, 2, none⟩) (Kd.N_far (p := ⟨gb123, 1, none⟩) (Kd.N_far (p := ⟨gb123, 0, none⟩) (Kd.N_mono HO120.out (fun k_ hk => (⟨hk, hk.2⟩ : _ ∧ k_ ≠ gb123))) (fun _ hk => hk.2) (.int .i64 ((rd_T63 y118 t121).f0))) (fun _ hk => hk.2) (.int .i64 ((rd_T63 y118 t121).f1))) (fun _ hk => hk.2) (.slice A122_2 ((rd_T63 y118 t121).f2).length c122_2)) (fun _ h_ => h_.1))) (Kd.R_base ho75) hb); have n2_ := Aside0.mk (Kd.V_elder' (by (with_reducible repeat (first | apply Kd.V_alloc | apply Kd.V_drewN | apply Kd.V_drew)); exact (Kd.V_mono (Kd.V_far (p := ⟨gb123, 2, none⟩) (Kd.V_far (p := ⟨gb123, 1, none⟩) (Kd.V_far (p := ⟨gb123, 0, none⟩) (Kd.V_mono HL122_2.out (fun k_ hk => (⟨hk, hk.2⟩ : _ ∧ k_ ≠ gb123))) (fun _ hk => hk.2) (.int .i64 ((rd_T63 y118 t121).f0))) (fun _ hk => hk.2) (.int .i64 ((rd_T63 y118 t121).f1))) (fun _ hk => hk.2) (.slice A122_2 ((rd_T63 y118 t121).f2).length c122_2)) (fun _ h_ => h_.1))) (Kd.R_base ho75) hb); have n3_ := Aside0.mk (Kd.R_lower (Kd.R_newM (M := fun k_ => (w.heap.size ≤ k_)) ho75 (below_size (by repeat (first | (with_reducible first | exact HB.out | apply below_alloc | apply pw_below_drewN | apply below_drew1 | refine below_set ?_ GE123.out) | exact HB.out))) (fun k_ h_ => h_)) (below_size (by repeat (first | (with_reducible first | exact HB.out | apply below_alloc | apply pw_below_drewN | apply below_drew1 | refine below_set ?_ GE123.out) | exact HB.out)))); have n4_ := Aside0.mk (Kd.C_below ((Kd.V_reads' (by (with_reducible repeat (first | apply Kd.V_alloc | apply Kd.V_drewN | apply Kd.V_drew)); exact (Kd.V_mono (Kd.V_far (p := ⟨gb123, 2, none⟩) (Kd.V_far (p := ⟨gb123, 1, none⟩) (Kd.V_far (p := ⟨gb123, 0, none⟩) (Kd.V_mono HL122_2.out (fun k_ hk => (⟨hk, hk.2⟩ : _ ∧ k_ ≠ gb123))) (fun _ hk => hk.2) (.int .i64 ((rd_T63 y118 t121).f0))) (fun _ hk => hk.2) (.int .i64 ((rd_T63 y118 t121).f1))) (fun _ hk => hk.2) (.slice A122_2 ((rd_T63 y118 t121).f2).length c122_2)) (fun _ h_ => h_.1)))).2.2) hb); have n5_ := Aside0.mk (blk_below (g := gb123) (o := .cells #[.int .i64 ((rd_T63 y118 t121).f0), .int .i64 ((rd_T63 y118 t121).f1), .slice A122_2 ((rd_T63 y118 t121).f2).length c122_2] 63 (0, 0)) (by (with_reducible repeat (first | refine blk_drewN ?_ _ | refine blk_drew ?_ | refine blk_alloc ?_ _)); refine blk_put (cs := #[.int .i64 ((rd_T63 y118 t121).f0), .int .i64 ((rd_T63 y118 t121).f1), .slice none 0 0]) ?_ 2 _ rfl; (with_reducible repeat (first | refine blk_drewN ?_ _ | refine blk_drew ?_ | refine blk_alloc ?_ _)); refine blk_put (cs := #[.int .i64 ((rd_T63 y118 t121).f0), .int .i64 0, .slice none 0 0]) ?_ 1 _ rfl; (with_reducible repeat (first | refine blk_drewN ?_ _ | refine blk_drew ?_ | refine blk_alloc ?_ _)); refine blk_put (cs := #[.int .i64 0, .int .i64 0, .slice none 0 0]) ?_ 0 _ rfl; (with_reducible repeat (first | refine blk_drewN ?_ _ | refine blk_drew ?_ | refine blk_alloc ?_ _)); exact BK123.out) hb); have n6_ := Aside0.mk (below_step (by repeat (first | (with_reducible first | exact HB.out | apply below_alloc | apply pw_below_drewN | apply below_drew1 | refine below_set ?_ GE123.out) | exact HB.out)) hb); clear HO0; clear HO120; clear HL122_2; clear HR122_2; clear BK123; clear HB; have HO0 := n0_; have HO120 := n1_; have HL122_2 := n2_; have HO140 := n3_; have HR122_2 := n4_; have BK123 := n5_; have HB := n6_; clear n0_ n1_ n2_ n3_ n4_ n5_ n6_; clear hb ho75; have hcz76_0 : w74.cell? ⟨gb123, 0, none⟩ = some (.int .i64 ((rd_T63 y118 t121).f0)) := (blk_cell BK123.out 0).trans rfl; have hcz76_1 : w74.cell? ⟨gb123, 1, none⟩ = some (.int .i64 ((rd_T63 y118 t121).f1)) := (blk_cell BK123.out 1).trans rfl; have hcz76_2 : w74.cell? ⟨gb123, 2, none⟩ = some (.slice A122_2 ((rd_T63 y118 t121).f2).length c122_2) := (blk_cell BK123.out 2).trans rfl; have hfz76_0 := blk_frozen BK123.out 0; have hfz76_1 := blk_frozen BK123.out 1; have hfz76_2 := blk_frozen BK123.out 2) | ((with_reducible refine gate_builtin (b := .append) (xs := #[.tmp 30, .tmp 32]) rfl ?_); at_builtin; refine Kd.R_append_rows (Kd.int .i64) (w0 := w) w.heap.size rfl (.tmp 30) (.tmp 32) 22 3 (.int .i64 0) 8 rfl Try.underlying22 info3 rfl (by decide) (by omega) v139 y138 ((rd_T63 y118 t121).f2) _ _ _ (fun k_ => (w.heap.size ≤ k_)) (fun _ => False) rfl rfl ?aO ?aR (fun _ _ h => h) (fun _ h => h.elim) ?aF ?aB ?aS ?aL ?_; (case aR => repeat (first | exact (by repeat (first | (with_reducible exact HR122_2.out) | (with_reducible refine Kd.C_alloc ?_ _) | (with_reducible refine Kd.C_drewN ?_ _) | (with_reducible refine Kd.C_drew ?_) | exact HR122_2.out)) | (with_reducible refine Kd.C_alloc ?_ _) | (with_reducible refine Kd.C_drewN ?_ _) | (with_reducible refine Kd.C_drew ?_))); (case aB => exact (by repeat (first | (with_reducible first | exact HB.out | apply below_alloc | apply pw_below_drewN | apply below_drew1 | refine below_set ?_ GE123.out) | exact HB.out))); (case aF => exact (fun k_ hk => (Nat.le_trans (below_size (by repeat (first | (with_reducible first | exact HB.out | apply below_alloc | apply pw_below_drewN | apply below_drew1 | refine below_set ?_ GE123.out) | exact HB.out))) hk))); (case aO => exact (by (with_reducible repeat (first | apply Kd.R_alloc | apply Kd.R_drewN | apply Kd.R_drew)); exact Kd.R_mono HO140.out (fun _ hk => hk.1))); (case aS => exact (below_size (by repeat (first | (with_reducible first | exact HB.out | apply below_alloc | apply pw_below_drewN | apply below_drew1 | refine below_set ?_ GE123.out) | exact HB.out)))); (case aL => have := LMc68.out; omega); intro v142 w77 ho hb hg hat; rw [← Ny141.out] at ho; have n0_ := Aside0.mk (Kd.V_afterv (ok := (fun k_ => (P0_ k_ ∨ w.heap.size ≤ k_) ∧ some k_ ≠ (.slice (some ad122) y118.length co71 : Value).ownBlock ∧ k_ ≠ gb123)) (by (with_reducible repeat (first | apply Kd.V_alloc | apply Kd.V_drewN | apply Kd.V_drew)); exact Kd.V_mono HO0.out (fun _ hk => ⟨⟨hk.1.1.1, ⟨hk.1.1.2, hk.1.2⟩⟩, hk.2⟩)) hg hat); have n1_ := Aside0.mk (Kd.N_afterv (ok := (fun k_ => (P0_ k_ ∨ w.heap.size ≤ k_) ∧ k_ ≠ gb123)) (by (with_reducible repeat (first | apply Kd.N_alloc | apply Kd.N_drewN | apply Kd.N_drew)); exact HO120.out) hg hat); have n2_ := Aside0.mk (Kd.V_afterv (ok := (fun k_ => (P0_ k_ ∨ w.heap.size ≤ k_) ∧ some k_ ≠ (.slice (some ad122) y118.length co71 : Value).ownBlock ∧ k_ ≠ gb123)) (by (with_reducible repeat (first | apply Kd.V_alloc | apply Kd.V_drewN | apply Kd.V_drew)); exact Kd.V_mono HL122_2.out (fun _ hk => ⟨⟨hk.1.1.1, ⟨hk.1.1.2, hk.1.2⟩⟩, hk.2⟩)) hg hat); have n3_ := Aside0.mk (blk_grown (g := gb123) (o := .cells #[.int .i64 ((rd_T63 y118 t121).f0), .int .i64 ((rd_T63 y118 t121).f1), .slice A122_2 ((rd_T63 y118 t121).f2).length c122_2] 63 (0, 0)) (by (with_reducible repeat (first | refine blk_drewN ?_ _ | refine blk_drew ?_ | refine blk_alloc ?_ _)); exact BK123.out) hg (Kd.R_ne HO140.out BK123.out (by decide))); have n4_ := Aside0.mk (hb); have n5_ := Aside0.mk (ho); clear HO0; clear HO120; clear HL122_2; clear BK123; clear HB; clear HO140; have HO0 := n0_; have HO120 := n1_; have HL122_2 := n2_; have BK123 := n3_; have HB := n4_; have HO143 := n5_; clear n0_ n1_ n2_ n3_ n4_ n5_; clear ho hb hg hat; obtain ⟨Ao78, co78, eo78⟩ := Kd.R_slice HO143.out; subst eo78; have hcz79_0 : w77.cell? ⟨gb123, 0, none⟩ = some (.int .i64 ((rd_T63 y118 t121).f0)) := (blk_cell BK123.out 0).trans rfl; have hcz79_1 : w77.cell? ⟨gb123, 1, none⟩ = some (.int .i64 ((rd_T63 y118 t121).f1)) := (blk_cell BK123.out 1).trans rfl; have hcz79_2 : w77.cell? ⟨gb123, 2, none⟩ = some (.slice A122_2 ((rd_T63 y118 t121).f2).length c122_2) := (blk_cell BK123.out 2).trans rfl; have hfz79_0 := blk_frozen BK123.out 0; have hfz79_1 := blk_frozen BK123.out 1; have hfz79_2 := blk_frozen BK123.out 2) | ((with_reducible refine gate_store (t := 22) (p := 34) rfl ?_); refine store_event (t := 22) (p := 34) (v := ?vo_w80) (w1 := (w77.setCell ⟨gb123, 2, none⟩ (.slice Ao78 y141.length co78))) ?hg ?ho ?hn ?hr ?_; (case ho => rfl); (case hg => rfl); (case hn => rfl); (case hr => first | (go_simp; done) | (go_simp; rfl)); intro w80 hw; have n0_ : Aside0 (Kd.V k63 63 w80 w.heap.size (fun k_ => (P0_ k_ ∨ w.heap.size ≤ k_) ∧ some k_ ≠ (.slice (some ad122) y118.length co71 : Value).ownBlock ∧ some k_ ≠ (.slice Ao78 y141.length co78 : Value).ownBlock ∧ k_ ≠ gb123) (.slice A0 l0.length c0) l0) := ⟨(by rw [hw]; exact (by (with_reducible repeat (first | apply Kd.V_alloc | apply Kd.V_drewN | apply Kd.V_drew)); exact Kd.V_mono (Kd.V_far (p := ⟨gb123, 2, none⟩) (Kd.V_mono HO0.out (fun k_ hk => (⟨hk, hk.1.2.2⟩ : _ ∧ k_ ≠ gb123))) (fun _ hk => hk.2) (.slice Ao78 y141.length co78)) (fun _ hk => ⟨hk.1.1.1, ⟨hk.1.1.2.1, ⟨hk.1.2, hk.1.1.2.2⟩⟩⟩)))⟩; have n1_ : Aside0 (Kd.N k63 63 w80 w.heap.size (fun k_ => (P0_ k_ ∨ w.heap.size ≤ k_) ∧ some k_ ≠ (.slice Ao78 y141.length co78 : Value).ownBlock ∧ k_ ≠ gb123) (.slice (some ad122) y118.length co71) y118) := ⟨(by rw [hw]; exact (by (with_reducible repeat (first | apply Kd.N_alloc | apply Kd.N_drewN | apply Kd.N_drew)); exact Kd.N_mono (Kd.N_far (p := ⟨gb123, 2, none⟩) (Kd.N_mono HO120.out (fun k_ hk => (⟨hk, hk.1.2⟩ : _ ∧ k_ ≠ gb123))) (fun _ hk => hk.2) (.slice Ao78 y141.length co78)) (fun _ hk => ⟨hk.1.1.1, ⟨hk.1.2, hk.1.1.2⟩⟩)))⟩; have n2_ : Aside0 (Kd.V (Kd.int .i64) 3 w80 w.heap.size (fun k_ => (P0_ k_ ∨ w.heap.size ≤ k_) ∧ some k_ ≠ (.slice (some ad122) y118.length co71 : Value).ownBlock ∧ some k_ ≠ (.slice Ao78 y141.length co78 : Value).ownBlock ∧ k_ ≠ gb123) (.slice A122_2 ((rd_T63 y118 t121).f2).length c122_2) ((rd_T63 y118 t121).f2)) := ⟨(by rw [hw]; exact (by (with_reducible repeat (first | apply Kd.V_alloc | apply Kd.V_drewN | apply Kd.V_drew)); exact Kd.V_mono (Kd.V_far (p := ⟨gb123, 2, none⟩) (Kd.V_mono HL122_2.out (fun k_ hk => (⟨hk, hk.1.2.2⟩ : _ ∧ k_ ≠ gb123))) (fun _ hk => hk.2) (.slice Ao78 y141.length co78)) (fun _ hk => ⟨hk.1.1.1, ⟨hk.1.1.2.1, ⟨hk.1.2, hk.1.1.2.2⟩⟩⟩)))⟩; have n3_ : Aside0 (Kd.R (Kd.int .i64) 3 w80 w.heap.size (fun k_ => (w.heap.size ≤ k_)) (.slice Ao78 y141.length co78) y141) := ⟨(by rw [hw]; exact (by (with_reducible repeat (first | apply Kd.R_alloc | apply Kd.R_drewN | apply Kd.R_drew)); exact Kd.R_mono (Kd.R_far (p := ⟨gb123, 2, none⟩) (Kd.R_types HO143.out BK123.out (by decide)) (fun _ hk => hk.2) (.slice Ao78 y141.length co78)) (fun _ hk => hk.1)))⟩; have n4_ : Aside0 (w80.heap[gb123]? = some (.cells #[.int .i64 ((rd_T63 y118 t121).f0), .int .i64 ((rd_T63 y118 t121).f1), .slice Ao78 y141.length co78] 63 (0, 0))) := ⟨(by rw [hw]; exact (by (with_reducible repeat (first | refine blk_drewN ?_ _ | refine blk_drew ?_ | refine blk_alloc ?_ _)); refine blk_put (cs := #[.int .i64 ((rd_T63 y118 t121).f0), .int .i64 ((rd_T63 y118 t121).f1), .slice A122_2 ((rd_T63 y118 t121).f2).length c122_2]) ?_ 2 _ rfl; (with_reducible repeat (first | refine blk_drewN ?_ _ | refine blk_drew ?_ | refine blk_alloc ?_ _)); exact BK123.out))⟩; have n5_ : Aside0 (Below w.heap.size w w80) := ⟨(by rw [hw]; exact (by repeat (first | (with_reducible first | exact HB.out | apply below_alloc | apply pw_below_drewN | apply below_drew1 | refine below_set ?_ GE123.out) | exact HB.out)))⟩; clear hw; clear HO0; clear HO120; clear HL122_2; clear HO143; clear BK123; clear HB; have HO0 := n0_; have HO120 := n1_; have HL122_2 := n2_; have HO143 := n3_; have BK123 := n4_; have HB := n5_; clear n0_ n1_ n2_ n3_ n4_ n5_; have hcz81_0 : w80.cell? ⟨gb123, 0, none⟩ = some (.int .i64 ((rd_T63 y118 t121).f0)) := (blk_cell BK123.out 0).trans rfl; have hcz81_1 : w80.cell? ⟨gb123, 1, none⟩ = some (.int .i64 ((rd_T63 y118 t121).f1)) := (blk_cell BK123.out 1).trans rfl; have hcz81_2 : w80.cell? ⟨gb123, 2, none⟩ = some (.slice Ao78 y141.length co78) := (blk_cell BK123.out 2).trans rfl; have hfz81_0 := blk_frozen BK123.out 0; have hfz81_1 := blk_frozen BK123.out 1; have hfz81_2 := blk_frozen BK123.out 2; have p69 : 0 ≤ (t121 : Int) := of_decide_eq_true (by first | (with_reducible assumption) | assumption); have q69 : (t121 : Int) < ((y118.length : Int) : Int) := of_decide_eq_true (by first | (with_reducible assumption) | assumption); obtain ⟨go69, co69, eo69, gb69, gl69, cl69, HG69⟩ := Kd.N_form HO120.out (by omega); (first | cases eo69 | (injection eo69 with ea_ en_ ec_; (first | subst ea_ | (injection ea_ with ea_; subst ea_)); subst ec_; clear en_)); have GB69 := Aside0.mk gb69; have GG69 := Aside0.mk HG69; clear gb69 gl69 HG69; (first | simp only [add_plain] at hx122_0 | skip); (first | simp only [add_plain] at hx122_1 | skip); (first | simp only [add_plain] at hx122_2 | skip); obtain ⟨ce69, hcl69, hM69, hcc69, hfr69⟩ := Kd.N_elem HO120.out z63 (t121 : Int) p69 q69; obtain ⟨ua69_2, uc69_2, rfl, ul69_2, ge69_2⟩ := k63_openF hM69; have hx69_0 : w80.cell? ⟨go69, (t121 : Int).toNat * 3, none⟩ = some (.int .i64 ((rd_T63 y118 t121).f0)) := hcc69 0 _ rfl; have hx69_1 : w80.cell? ⟨go69, (t121 : Int).toNat * 3 + 1, none⟩ = some (.int .i64 ((rd_T63 y118 t121).f1)) := hcc69 1 _ rfl; have hx69_2 : w80.cell? ⟨go69, (t121 : Int).toNat * 3 + 2, none⟩ = some (.slice ua69_2 ((rd_T63 y118 t121).f2).length uc69_2) := hcc69 2 _ rfl; have hf69_0 : w80.frozen? ⟨go69, (t121 : Int).toNat * 3, none⟩ = false := hfr69 0; have hf69_1 : w80.frozen? ⟨go69, (t121 : Int).toNat * 3 + 1, none⟩ = false := hfr69 1; have hf69_2 : w80.frozen? ⟨go69, (t121 : Int).toNat * 3 + 2, none⟩ = false := hfr69 2; clear hcl69 hcc69 hfr69 hM69; replace p69 := eq_true p69; replace q69 := eq_true q69; have HX82 := Aside0.mk (show Kd.N k63 63 w80 w.heap.size (fun k_ => (P0_ k_ ∨ w.heap.size ≤ k_) ∧ k_ ≠ gb123) (.slice (some ⟨go69, 0, none⟩) y118.length co71) y118 from (by (with_reducible repeat (first | apply Kd.N_alloc | apply Kd.N_drewN | apply Kd.N_drew)); exact Kd.N_mono HO120.out (fun _ hk => ⟨hk.1, hk.2.2⟩))); obtain ⟨ce82, hcl82, hM82, hcc82, hfr82⟩ := Kd.N_elem HX82.out z63 (t121 : Int) (of_decide_eq_true (by first | (with_reducible assumption) | assumption)) (by have h_ : (t121 : Int) < ((y118.length : Int) : Int) := of_decide_eq_true (by first | (with_reducible assumption) | assumption); first | exact h_ | (have e_ := (Kd.N_reads' HO120.out).1; omega) | simpa using h_); obtain ⟨ua82_2, uc82_2, rfl, ul82_2, ge82_2⟩ := k63_openF hM82; have HP82 := Kd.N_seg HX82.out (t121 : Int) (of_decide_eq_true (by first | (with_reducible assumption) | assumption)) (by have h_ : (t121 : Int) < ((y118.length : Int) : Int) := of_decide_eq_true (by first | (with_reducible assumption) | assumption); first | exact h_ | (have e_ := (Kd.N_reads' HO120.out).1; omega) | simpa using h_) (seg := [.int .i64 ((rd_T63 y118 t121).f0), .int .i64 ((rd_T63 y118 t121).f1), .slice Ao78 y141.length co78]) (j := 0) hcl82 hcc82 (show 3 ≤ 3 from by decide) (x' := (⟨(rd_T63 y118 t121).f0, (rd_T63 y118 t121).f1, y141⟩ : S63)) (k63_mkF _ _ (⟨(rd_T63 y118 t121).f0, (rd_T63 y118 t121).f1, y141⟩ : S63) (Kd.R_reads' (Kd.R_mono (ok' := (fun k_ => ((fun k_ => (P0_ k_ ∨ w.heap.size ≤ k_) ∧ k_ ≠ gb123)) k_ ∧ k_ ≠ go69)) (Kd.R_types (Kd.R_apart' (HO143.out) (Kd.N_typed HO120.out) (by decide)) BK123.out (by decide)) (fun k_ hk => ⟨⟨(.inr (hk.1.1)), hk.2⟩, fun e_ => (hk.1.2) (by rw [e_]; rfl)⟩))).2.1 (Kd.R_F (Kd.R_mono (ok' := (fun k_ => ((fun k_ => (P0_ k_ ∨ w.heap.size ≤ k_) ∧ k_ ≠ gb123)) k_ ∧ k_ ≠ go69)) (Kd.R_types (Kd.R_apart' (HO143.out) (Kd.N_typed HO120.out) (by decide)) BK123.out (by decide)) (fun k_ hk => ⟨⟨(.inr (hk.1.1)), hk.2⟩, fun e_ => (hk.1.2) (by rw [e_]; rfl)⟩)))) (fun _ hk => hk); have hx82_0 := hcc82 0 _ rfl; (try simp only [show (k63).sz = 3 from rfl, Nat.mul_one, Nat.add_zero] at hx82_0); have hf82_0 := hfr82 0; (try simp only [show (k63).sz = 3 from rfl, Nat.mul_one, Nat.add_zero] at hf82_0); have hx82_1 := hcc82 1 _ rfl; (try simp only [show (k63).sz = 3 from rfl, Nat.mul_one, Nat.add_zero] at hx82_1); have hf82_1 := hfr82 1; (try simp only [show (k63).sz = 3 from rfl, Nat.mul_one, Nat.add_zero] at hf82_1); have hx82_2 := hcc82 2 _ rfl; (try simp only [show (k63).sz = 3 from rfl, Nat.mul_one, Nat.add_zero] at hx82_2); have hf82_2 := hfr82 2; (try simp only [show (k63).sz = 3 from rfl, Nat.mul_one, Nat.add_zero] at hf82_2); clear hcl82 hcc82 hfr82 hM82) | ((with_reducible refine gate_store (t := 63) (p := 59) rfl ?_); refine store_event (t := 63) (p := 59) (v := ?vo_w83) (w1 := (((w80.setCell ⟨go69, (t121 : Int).toNat * 3, none⟩ (.int .i64 ((rd_T63 y118 t121).f0))).setCell ⟨go69, (t121 : Int).toNat * 3 + 1, none⟩ (.int .i64 ((rd_T63 y118 t121).f1))).setCell ⟨go69, (t121 : Int).toNat * 3 + 2, none⟩ (.slice Ao78 y141.length co78))) ?hg ?ho ?hn ?hr ?_; (case ho => rfl); (case hg => rfl); (case hn => rfl); (case hr => first | (go_simp; done) | (go_simp; rfl)); intro w83 hw; have hg : w80.grownBy w83 (some go69) := (by rw [hw]; exact HP82.2); have hp_ : Kd.N k63 63 w83 w.heap.size (fun k_ => (P0_ k_ ∨ w.heap.size ≤ k_) ∧ k_ ≠ gb123) (.slice (some ⟨go69, 0, none⟩) y118.length co71) y144 := (by rw [hw, Ny144.out]; exact HP82.1); clear HP82; have n0_ := Aside0.mk (Kd.V_afterv (v := (.slice (some ⟨go69, 0, none⟩) y118.length co71)) (v1 := (.slice (some ⟨go69, 0, none⟩) y118.length co71)) (ok := (fun k_ => (P0_ k_ ∨ w.heap.size ≤ k_) ∧ some k_ ≠ (.slice Ao78 y141.length co78 : Value).ownBlock ∧ k_ ≠ gb123)) (by (with_reducible repeat (first | apply Kd.V_alloc | apply Kd.V_drewN | apply Kd.V_drew)); exact Kd.V_mono HO0.out (fun _ hk => ⟨⟨hk.1, ⟨hk.2.2.1, hk.2.2.2⟩⟩, hk.2.1⟩)) hg (.inl rfl)); have n1_ := Aside0.mk (hp_); have n2_ := Aside0.mk (Kd.V_afterv (v := (.slice (some ⟨go69, 0, none⟩) y118.length co71)) (v1 := (.slice (some ⟨go69, 0, none⟩) y118.length co71)) (ok := (fun k_ => (P0_ k_ ∨ w.heap.size ≤ k_) ∧ some k_ ≠ (.slice Ao78 y141.length co78 : Value).ownBlock ∧ k_ ≠ gb123)) (by (with_reducible repeat (first | apply Kd.V_alloc | apply Kd.V_drewN | apply Kd.V_drew)); exact Kd.V_mono HL122_2.out (fun _ hk => ⟨⟨hk.1, ⟨hk.2.2.1, hk.2.2.2⟩⟩, hk.2.1⟩)) hg (.inl rfl)); have n3_ := Aside0.mk (blk_grown (g := gb123) (o := .cells #[.int .i64 ((rd_T63 y118 t121).f0), .int .i64 ((rd_T63 y118 t121).f1), .slice Ao78 y141.length co78] 63 (0, 0)) (by (with_reducible repeat (first | refine blk_drewN ?_ _ | refine blk_drew ?_ | refine blk_alloc ?_ _)); exact BK123.out) hg (Kd.N_away HO120.out (fun _ hk => hk.2.2))); have n4_ := Aside0.mk ((by rw [hw]; exact below_set (below_set (below_set (HB.out) GB69.out) GB69.out) GB69.out : Below w.heap.size w w83)); clear HO0; clear HO120; clear HL122_2; clear BK123; clear HB; clear HO143; have HO0 := n0_; have HO120 := n1_; have HL122_2 := n2_; have BK123 := n3_; have HB := n4_; clear n0_ n1_ n2_ n3_ n4_; clear hg hw hp_))
          go_ret
          exact ⟨_, by first | rfl | (simp [errW_none, errW_some] <;> rfl) | (simp [*, errW_none, errW_some] <;> rfl), by (with_reducible repeat (first | apply Kd.N_alloc | apply Kd.N_drewN | apply Kd.N_drew)); exact Kd.N_mono HO120.out (fun _ hk => hk.1), by repeat (first | (with_reducible first | exact HB.out | apply below_alloc | apply pw_below_drewN | apply below_drew1 | refine below_set ?_ GE123.out) | exact HB.out)⟩
         ·rw [if_neg c68] at H
          exact absurd H (by simp)
    ·rw [if_neg c11] at H
     exact absurd H (by simp)
   ·rw [if_neg c10] at H
    exact absurd H (by simp)
 ·rw [if_neg c5] at H
  exact absurd H (by simp)

end Go.Proofs.Ytecbfpcidoilmaa.H

/- Written by a program of this session over the kit's printer: what the functions named below compute, and that the machine's calls compute it. Not trusted: Lean checks it. -/
namespace Go.Proofs.Ytecbfpcidoilmaa.H
open Go.RowKit Go.Proofs.YtecbfpcidoilmaaW.PrintWords Go.Proofs.YtecbfpcidoilmaaW.PrintLast Go.Proofs.YtecbfpcidoilmaaW.PrintMore
attribute [local go_sem] max2_int min2_int max_two min_two max_three min_three max_four min_four   -- for this text's walks alone
set_option linter.unusedVariables false
set_option linter.unusedSimpArgs false

/-! ### worldmintlaw28_given: function 15 -/
def worldmintlaw28_given.l0 : Nat → List (S63) → List (S45) → Int → Option ((List (S45)))
 | 0, _, _, _ => none
 | k + 1, x0, x3, x4 => if x4 < (x0.length : Int) then (if 0 ≤ x4 then (if x3.length < 3518437208883 then (worldmintlaw28_given.l0 k x0 (x3 ++ [(⟨(rd_T63 x0 x4).f0, (rd_T63 x0 x4).f1, (rd_T63 x0 x4).f2⟩ : S45)]) (wrap64 (x4 + 1))) else (none)) else (none)) else (some x3)
def worldmintlaw28_given.f (k : Nat) (l0 : List (S63)) : Option ((List (S45))) := worldmintlaw28_given.l0 k l0 ([] : List (S45)) 0
theorem worldmintlaw28_given.mono_l : ∀ k, (∀ y0 y1 y2, LeO (worldmintlaw28_given.l0 k y0 y1 y2) (worldmintlaw28_given.l0 (k + 1) y0 y1 y2))
 | 0 => fun _ _ _ r h => by simp [worldmintlaw28_given.l0] at h
 | k + 1 => by
  have ih0 := worldmintlaw28_given.mono_l k
  ·intro y0 y1 y2
   unfold worldmintlaw28_given.l0
   repeat' first
   | (with_reducible exact ih0 _ _ _)
   | (with_reducible exact LeO.refl _)
   | (with_reducible exact LeO.none _)
   | (with_reducible refine LeO.ite ?_ ?_)
   | (with_reducible refine LeO.bind ?_ (fun _ => ?_))
   | exact ih0 _ _ _
   | exact LeO.none _
   | refine LeO.ite ?_ ?_
   | refine LeO.bind ?_ (fun _ => ?_)
theorem worldmintlaw28_given.mono : ∀ a0 k, LeO (worldmintlaw28_given.f k a0) (worldmintlaw28_given.f (k + 1) a0) := by
 intro a0 k
 have ih0 := worldmintlaw28_given.mono_l k
 unfold worldmintlaw28_given.f
 repeat' first
   | (with_reducible exact ih0 _ _ _)
   | (with_reducible exact LeO.refl _)
   | (with_reducible exact LeO.none _)
   | (with_reducible refine LeO.ite ?_ ?_)
   | (with_reducible refine LeO.bind ?_ (fun _ => ?_))
   | exact ih0 _ _ _
   | exact LeO.none _
   | refine LeO.ite ?_ ?_
   | refine LeO.bind ?_ (fun _ => ?_)
def worldmintlaw28_given.T5 : Bool × List (List Nat × List Nat) := (true, [([], []), ([], []), ([], []), ([1, 2], [1, 2]), ([3], [3]), ([4], [4]), ([], []), ([], []), ([6, 7], [6, 7]), ([8], [8]), ([9], [9]), ([], []), ([], []), ([11, 12], [11, 12]), ([13], [13]), ([14], [14]), ([5, 10, 15], [5, 10, 15]), ([16], [16]), ([0, 17], [0, 17]), ([18, 18, 0, 1, 2, 3, 4, 5, 6, 7, 8, 9, 10, 11, 12, 13, 14, 15, 16, 17, 18], [0, 18])])
def worldmintlaw28_given.B5 : List Nat := [0, 0, 0, 6, 14, 30, 0, 0, 192, 448, 960, 0, 0, 6144, 14336, 30720, 65534, 131070, 262143, 524287]
theorem worldmintlaw28_given.tab5 : rtab .any (opsOf Try.f15 5) = worldmintlaw28_given.T5 := by kernel_rfl
theorem worldmintlaw28_given.bits5 : waitsOk worldmintlaw28_given.T5.2 worldmintlaw28_given.B5 = true := by kernel_rfl
set_option maxHeartbeats 8000000 in
set_option maxRecDepth 100000 in
theorem worldmintlaw28_given.calls (k : Nat) (P0_ : Nat → Prop) (A0 : Option Addr) (c0 : Nat) (l0 : List (S63)) (r : List (S45)) (w : World) (hs0 : Kd.V k63 63 w w.heap.size (fun k_ => P0_ k_) (.slice A0 l0.length c0) l0) (h : worldmintlaw28_given.f k l0 = some r) :
  Calls Try.prog 15 #[.slice A0 l0.length c0] w fun e w' => ∃ v0_ : Value, e = .returned (v0_) ∧ Kd.N k45 45 w' w.heap.size (fun k_ => (P0_ k_ ∨ w.heap.size ≤ k_)) v0_ r ∧ Below w.heap.size w w' := by
 have hu45 := Try.underlying45
 have HO0 := Aside0.mk (show Kd.V k63 63 w w.heap.size (fun k_ => (P0_ k_ ∨ w.heap.size ≤ k_)) (.slice A0 l0.length c0) l0 from Kd.V_mono hs0 (fun k_ hk => .inl hk))
 have HB := Aside0.mk (Below.refl w.heap.size w)
 have H : (worldmintlaw28_given.l0 k l0 ([] : List (S45)) 0) = some r := h
 clear h
 have H' := Aside0.mk H
 clear H
 go_enter Try.func15, Try.ntmps15
 go_wp2
 go_loopg [3, 4] k (fun kq v3 v4 w' => ∃ (x3_1 : List (S45)) (x4_1 : Int), v4 = .int .i64 x4_1 ∧ Aside0 (worldmintlaw28_given.l0 kq l0 x3_1 x4_1 = some r) ∧ Aside0 (kq ≤ k) ∧ Aside0 (Kd.V k63 63 w' w.heap.size (fun k_ => (P0_ k_ ∨ w.heap.size ≤ k_) ∧ some k_ ≠ (v3 : Value).ownBlock) (.slice A0 l0.length c0) l0) ∧ Aside0 (Kd.N k45 45 w' w.heap.size (fun k_ => (P0_ k_ ∨ w.heap.size ≤ k_)) v3 x3_1) ∧ Aside0 (Below w.heap.size w w'))
 case atStart => exact ⟨(([] : List (S45))), (0), (by first | rfl | (simp; done) | (simp [*]; done)), H', ⟨Nat.le_refl _⟩, ⟨by (with_reducible repeat (first | apply Kd.V_alloc | apply Kd.V_drewN | apply Kd.V_drew)); exact Kd.V_mono HO0.out (fun _ hk => ⟨hk, (by simp [Value.ownBlock])⟩)⟩, ⟨by first | exact Kd.S_nil _ _ _ _ _ | exact Kd.N_nil _ _ _ _ _ | exact Kd.V_nil _ _ _ _ _ | exact Kd.Q_nil _ _ _ _ _ | exact Kd.R_nil _ _ _ _ _⟩, ⟨by repeat (first | (with_reducible first | exact HB.out | apply below_alloc | apply pw_below_drewN | apply below_drew1) | exact HB.out)⟩⟩
 case round =>
  clear H'
  try clear c1
  obtain ⟨x3_1, x4_1, rfl, HA, HK1, HO_0, HO_3, HB⟩ := hrel
  cases gk with
  | zero => exact absurd HA.out (by simp [worldmintlaw28_given.l0])
  | succ k1 =>
   have H := HA.out
   clear HA
   simp only [worldmintlaw28_given.l0] at H
   by_cases c2 : x4_1 < (l0.length : Int)
   ·rw [if_pos c2] at H
    have c2b0 : decide (x4_1 < (l0.length : Int)) = true := decide_eq_true c2
    clear c2
    by_cases c3 : 0 ≤ x4_1
    ·rw [if_pos c3] at H
     have c3b0 : decide (0 ≤ x4_1) = true := decide_eq_true c3
     clear c3
     by_cases c4 : x3_1.length < 3518437208883
     ·rw [if_pos c4] at H
      have LMc4 := Aside0.mk c4
      clear c4
      obtain ⟨y164, hy164⟩ : ∃ y_ : List (S45), y_ = (x3_1 ++ [(⟨(rd_T63 l0 x4_1).f0, (rd_T63 l0 x4_1).f1, (rd_T63 l0 x4_1).f2⟩ : S45)]) := ⟨_, rfl⟩
      replace H : (worldmintlaw28_given.l0 k1 l0 y164 (wrap64 (x4_1 + 1))) = some r := by first | (rw [hy164]; with_reducible exact H) | (have H2_ := (Option.bind_some _ _).symm.trans H; rw [hy164]; with_reducible exact H2_) | (have H2_ := (Option.bind_some _ _).symm.trans H; with_reducible exact H2_) | with_reducible exact H | (rw [hy164]; exact H) | exact H
      have Ny164 := Aside0.mk hy164
      clear hy164
      have H' := Aside0.mk H
      clear H
      try go_wp2
      have n0_ := Aside0.mk (Kd.V_drew HO_0.out)
      have n1_ := Aside0.mk (Kd.N_drew HO_3.out)
      have n2_ := Aside0.mk (below_drew1 HB.out)
      clear HO_0
      clear HO_3
      clear HB
      have HO_0 := n0_
      have HO_3 := n1_
      have HB := n2_
      clear n0_ n1_ n2_
      have p161 : 0 ≤ (x4_1 : Int) := of_decide_eq_true (by first | (with_reducible assumption) | assumption)
      have q161 : x4_1 < (l0.length : Int) := of_decide_eq_true (by first | (with_reducible assumption) | assumption)
      obtain ⟨ad161, A161_2, c161_2, e161, hx161_0, hx161_1, hx161_2, hl161_2, hi161_2⟩ := at_T63 (Kd.V_reads' HO_0.out).2.2 x4_1 p161 q161
      cases e161
      obtain ⟨ce161, hce161, hMe161, hcc161⟩ := Kd.V_get HO_0.out z63 x4_1 p161 (by first | exact q161 | exact of_decide_eq_true (by first | (with_reducible assumption) | assumption) | (have e_ := (Kd.V_reads' HO_0.out).1; omega))
      obtain ⟨ua161_2, uc161_2, rfl, ul161_2, ge161_2⟩ := k63_openF hMe161
      have hv161_2 := hcc161 2 _ rfl
      rw [add_field _ _ 2 (by omega)] at hv161_2
      replace hv161_2 := Option.some.inj (hv161_2.symm.trans hx161_2)
      injection hv161_2 with hva_ hvn_ hvc_
      rw [hva_] at ge161_2
      rw [hvc_] at ul161_2
      have HL161_2 := Aside0.mk (show Kd.V (Kd.int .i64) 3 _ w.heap.size _ _ ((rd_T63 l0 x4_1).f2) from Kd.V_mk ul161_2 ge161_2)
      clear hva_ hvn_ hvc_ ge161_2 ul161_2
      clear hcc161 hce161
      have HR161_2 := Aside0.mk hi161_2
      have HC161_2 := Aside0.mk hl161_2
      clear hi161_2 hl161_2
      replace p161 := eq_true p161
      replace q161 := eq_true q161
      have p162 : 0 ≤ (x4_1 : Int) := of_decide_eq_true (by first | (with_reducible assumption) | assumption)
      have q162 : x4_1 < (l0.length : Int) := of_decide_eq_true (by first | (with_reducible assumption) | assumption)
      obtain ⟨ad162, A162_2, c162_2, e162, hx162_0, hx162_1, hx162_2, hl162_2, hi162_2⟩ := at_T63 (Kd.V_reads' HO_0.out).2.2 x4_1 p162 q162
      obtain rfl : ad161 = ad162 := (by injection e162)
      obtain ⟨ce162, hce162, hMe162, hcc162⟩ := Kd.V_get HO_0.out z63 x4_1 p162 (by first | exact q162 | exact of_decide_eq_true (by first | (with_reducible assumption) | assumption) | (have e_ := (Kd.V_reads' HO_0.out).1; omega))
      obtain ⟨ua162_2, uc162_2, rfl, ul162_2, ge162_2⟩ := k63_openF hMe162
      have hv162_2 := hcc162 2 _ rfl
      rw [add_field _ _ 2 (by omega)] at hv162_2
      replace hv162_2 := Option.some.inj (hv162_2.symm.trans hx162_2)
      injection hv162_2 with hva_ hvn_ hvc_
      rw [hva_] at ge162_2
      rw [hvc_] at ul162_2
      have HL162_2 := Aside0.mk (show Kd.V (Kd.int .i64) 3 _ w.heap.size _ _ ((rd_T63 l0 x4_1).f2) from Kd.V_mk ul162_2 ge162_2)
      clear hva_ hvn_ hvc_ ge162_2 ul162_2
      clear hcc162 hce162
      have HR162_2 := Aside0.mk hi162_2
      have HC162_2 := Aside0.mk hl162_2
      clear hi162_2 hl162_2
      replace p162 := eq_true p162
      replace q162 := eq_true q162
      have ea_ := Option.some.inj (hx161_2.symm.trans hx162_2)
      injection ea_ with ea_ en_ ec_
      subst ea_
      subst ec_
      clear en_
      have p163 : 0 ≤ (x4_1 : Int) := of_decide_eq_true (by first | (with_reducible assumption) | assumption)
      have q163 : x4_1 < (l0.length : Int) := of_decide_eq_true (by first | (with_reducible assumption) | assumption)
      obtain ⟨ad163, A163_2, c163_2, e163, hx163_0, hx163_1, hx163_2, hl163_2, hi163_2⟩ := at_T63 (Kd.V_reads' HO_0.out).2.2 x4_1 p163 q163
      obtain rfl : ad161 = ad163 := (by injection e163)
      obtain ⟨ce163, hce163, hMe163, hcc163⟩ := Kd.V_get HO_0.out z63 x4_1 p163 (by first | exact q163 | exact of_decide_eq_true (by first | (with_reducible assumption) | assumption) | (have e_ := (Kd.V_reads' HO_0.out).1; omega))
      obtain ⟨ua163_2, uc163_2, rfl, ul163_2, ge163_2⟩ := k63_openF hMe163
      have hv163_2 := hcc163 2 _ rfl
      rw [add_field _ _ 2 (by omega)] at hv163_2
      replace hv163_2 := Option.some.inj (hv163_2.symm.trans hx163_2)
      injection hv163_2 with hva_ hvn_ hvc_
      rw [hva_] at ge163_2
      rw [hvc_] at ul163_2
      have HL163_2 := Aside0.mk (show Kd.V (Kd.int .i64) 3 _ w.heap.size _ _ ((rd_T63 l0 x4_1).f2) from Kd.V_mk ul163_2 ge163_2)
      clear hva_ hvn_ hvc_ ge163_2 ul163_2
      clear hcc163 hce163
      have HR163_2 := Aside0.mk hi163_2
      have HC163_2 := Aside0.mk hl163_2
      clear hi163_2 hl163_2
      replace p163 := eq_true p163
      replace q163 := eq_true q163
      have ea_ := Option.some.inj (hx161_2.symm.trans hx163_2)
      injection ea_ with ea_ en_ ec_
      subst ea_
      subst ec_
      clear en_
      refine start_ (n := 20) (S := fun w' => w'.cell? (ad161.add ((x4_1).toNat * 3)) = some (.int .i64 ((rd_T63 l0 x4_1).f0)) ∧ w'.cell? ⟨(ad161.add ((x4_1).toNat * 3)).block, (ad161.add ((x4_1).toNat * 3)).off + 1, none⟩ = some (.int .i64 ((rd_T63 l0 x4_1).f1)) ∧ w'.cell? ⟨(ad161.add ((x4_1).toNat * 3)).block, (ad161.add ((x4_1).toNat * 3)).off + 2, none⟩ = some (.slice A161_2 ((rd_T63 l0 x4_1).f2).length c161_2) ∧ w'.cell? (ad161.add ((x4_1).toNat * 3)) = some (.int .i64 ((rd_T63 l0 x4_1).f0)) ∧ w'.cell? ⟨(ad161.add ((x4_1).toNat * 3)).block, (ad161.add ((x4_1).toNat * 3)).off + 1, none⟩ = some (.int .i64 ((rd_T63 l0 x4_1).f1)) ∧ w'.cell? ⟨(ad161.add ((x4_1).toNat * 3)).block, (ad161.add ((x4_1).toNat * 3)).off + 2, none⟩ = some (.slice A161_2 ((rd_T63 l0 x4_1).f2).length c161_2) ∧ w'.cell? (ad161.add ((x4_1).toNat * 3)) = some (.int .i64 ((rd_T63 l0 x4_1).f0)) ∧ w'.cell? ⟨(ad161.add ((x4_1).toNat * 3)).block, (ad161.add ((x4_1).toNat * 3)).off + 1, none⟩ = some (.int .i64 ((rd_T63 l0 x4_1).f1)) ∧ w'.cell? ⟨(ad161.add ((x4_1).toNat * 3)).block, (ad161.add ((x4_1).toNat * 3)).off + 2, none⟩ = some (.slice A161_2 ((rd_T63 l0 x4_1).f2).length c161_2)) (ds := [17, 18]) #[false, false, false, false, false, false, false, false, false, false, false, false, false, false, false, false, false, false, false, false] (by kernel_rfl) rfl rfl ⟨hx161_0, hx161_1, hx161_2, hx162_0, hx162_1, hx162_2, hx163_0, hx163_1, hx163_2⟩ (fun hHeld => ?_); refine with_tabW worldmintlaw28_given.tab5 worldmintlaw28_given.bits5 (fun HT_ HW_ => ?_)
      generalize wr.drew = w5 at HO_0 HO_3 HB HL161_2 HL162_2 HL163_2 HR161_2 HR162_2 HR163_2 hx161_0 hx161_1 hx161_2 hx162_0 hx162_1 hx162_2 hx163_0 hx163_1 hx163_2 hHeld ⊢
      refine pure_ (i := 0) (N := some 11) (v := ?_) (a' := ?_) #[true, false, false, false, false, false, false, false, false, false, false, false, false, false, false, false, false, false, false, false] rfl rfl (any_of HT_.out (by kernel_rfl)) (fun _ _ _ h => h) (Or.inl ⟨by rfl, ?_⟩) ?_ ?_
      rotate_left
      ·intro w'
       go_simp
       with_reducible rfl
      rotate_left
      ·simp only [Act.put, List.setIfInBounds_toArray, List.set_cons_zero, List.set_cons_succ, i64_w, i32_w]
       rfl
      refine pure_ (i := 1) (N := some 12) (v := ?_) (a' := ?_) #[true, true, false, false, false, false, false, false, false, false, false, false, false, false, false, false, false, false, false, false] rfl rfl (any_of HT_.out (by kernel_rfl)) (fun _ _ _ h => h) (Or.inl ⟨by rfl, ?_⟩) ?_ ?_
      rotate_left
      ·intro w'
       go_simp
       with_reducible rfl
      rotate_left
      ·simp only [Act.put, List.setIfInBounds_toArray, List.set_cons_zero, List.set_cons_succ, i64_w, i32_w]
       rfl
      refine pure_ (i := 2) (N := some 13) (v := ?_) (a' := ?_) #[true, true, true, false, false, false, false, false, false, false, false, false, false, false, false, false, false, false, false, false] rfl rfl (any_of HT_.out (by kernel_rfl)) (fun _ _ _ h => h) (Or.inl ⟨by rfl, ?_⟩) ?_ ?_
      rotate_left
      ·intro w'
       go_simp
       with_reducible rfl
      rotate_left
      ·simp only [Act.put, List.setIfInBounds_toArray, List.set_cons_zero, List.set_cons_succ, i64_w, i32_w]
       rfl
      refine pure_ (i := 3) (N := some 14) (v := ?_) (a' := ?_) #[true, true, true, true, false, false, false, false, false, false, false, false, false, false, false, false, false, false, false, false] rfl rfl (any_of HT_.out (by kernel_rfl)) (fun _ _ _ h => h) (Or.inl ⟨by rfl, ?_⟩) ?_ ?_
      rotate_left
      ·intro w'
       go_simp
       with_reducible rfl
      rotate_left
      ·simp only [Act.put, List.setIfInBounds_toArray, List.set_cons_zero, List.set_cons_succ, i64_w, i32_w]
       rfl
      refine pure_ (i := 4) (N := some 15) (v := ?_) (a' := ?_) #[true, true, true, true, true, false, false, false, false, false, false, false, false, false, false, false, false, false, false, false] rfl rfl (any_of HT_.out (by kernel_rfl)) (fun _ _ _ h => h) (Or.inl ⟨by rfl, ?_⟩) ?_ ?_
      rotate_left
      ·intro w'
       go_simp
       with_reducible rfl
      rotate_left
      ·simp only [Act.put, List.setIfInBounds_toArray, List.set_cons_zero, List.set_cons_succ, i64_w, i32_w]
       rfl
      refine pure_ (i := 6) (N := some 17) (v := ?_) (a' := ?_) #[true, true, true, true, true, false, true, false, false, false, false, false, false, false, false, false, false, false, false, false] rfl rfl (any_of HT_.out (by kernel_rfl)) (fun _ _ _ h => h) (Or.inl ⟨by rfl, ?_⟩) ?_ ?_
      rotate_left
      ·intro w'
       go_simp
       with_reducible rfl
      rotate_left
      ·simp only [Act.put, List.setIfInBounds_toArray, List.set_cons_zero, List.set_cons_succ, i64_w, i32_w]
       rfl
      refine pure_ (i := 7) (N := some 18) (v := ?_) (a' := ?_) #[true, true, true, true, true, false, true, true, false, false, false, false, false, false, false, false, false, false, false, false] rfl rfl (any_of HT_.out (by kernel_rfl)) (fun _ _ _ h => h) (Or.inl ⟨by rfl, ?_⟩) ?_ ?_
      rotate_left
      ·intro w'
       go_simp
       with_reducible rfl
      rotate_left
      ·simp only [Act.put, List.setIfInBounds_toArray, List.set_cons_zero, List.set_cons_succ, i64_w, i32_w]
       rfl
      refine pure_ (i := 8) (N := some 19) (v := ?_) (a' := ?_) #[true, true, true, true, true, false, true, true, true, false, false, false, false, false, false, false, false, false, false, false] rfl rfl (any_of HT_.out (by kernel_rfl)) (fun _ _ _ h => h) (Or.inl ⟨by rfl, ?_⟩) ?_ ?_
      rotate_left
      ·intro w'
       go_simp
       with_reducible rfl
      rotate_left
      ·simp only [Act.put, List.setIfInBounds_toArray, List.set_cons_zero, List.set_cons_succ, i64_w, i32_w]
       rfl
      refine pure_ (i := 9) (N := some 20) (v := ?_) (a' := ?_) #[true, true, true, true, true, false, true, true, true, true, false, false, false, false, false, false, false, false, false, false] rfl rfl (any_of HT_.out (by kernel_rfl)) (fun _ _ _ h => h) (Or.inl ⟨by rfl, ?_⟩) ?_ ?_
      rotate_left
      ·intro w'
       go_simp
       with_reducible rfl
      rotate_left
      ·simp only [Act.put, List.setIfInBounds_toArray, List.set_cons_zero, List.set_cons_succ, i64_w, i32_w]
       rfl
      refine pure_ (i := 11) (N := some 22) (v := ?_) (a' := ?_) #[true, true, true, true, true, false, true, true, true, true, false, true, false, false, false, false, false, false, false, false] rfl rfl (any_of HT_.out (by kernel_rfl)) (fun _ _ _ h => h) (Or.inl ⟨by rfl, ?_⟩) ?_ ?_
      rotate_left
      ·intro w'
       go_simp
       with_reducible rfl
      rotate_left
      ·simp only [Act.put, List.setIfInBounds_toArray, List.set_cons_zero, List.set_cons_succ, i64_w, i32_w]
       rfl
      refine pure_ (i := 12) (N := some 23) (v := ?_) (a' := ?_) #[true, true, true, true, true, false, true, true, true, true, false, true, true, false, false, false, false, false, false, false] rfl rfl (any_of HT_.out (by kernel_rfl)) (fun _ _ _ h => h) (Or.inl ⟨by rfl, ?_⟩) ?_ ?_
      rotate_left
      ·intro w'
       go_simp
       with_reducible rfl
      rotate_left
      ·simp only [Act.put, List.setIfInBounds_toArray, List.set_cons_zero, List.set_cons_succ, i64_w, i32_w]
       rfl
      refine pure_ (i := 13) (N := some 24) (v := ?_) (a' := ?_) #[true, true, true, true, true, false, true, true, true, true, false, true, true, true, false, false, false, false, false, false] rfl rfl (any_of HT_.out (by kernel_rfl)) (fun _ _ _ h => h) (Or.inl ⟨by rfl, ?_⟩) ?_ ?_
      rotate_left
      ·intro w'
       go_simp
       with_reducible rfl
      rotate_left
      ·simp only [Act.put, List.setIfInBounds_toArray, List.set_cons_zero, List.set_cons_succ, i64_w, i32_w]
       rfl
      refine pure_ (i := 14) (N := some 25) (v := ?_) (a' := ?_) #[true, true, true, true, true, false, true, true, true, true, false, true, true, true, true, false, false, false, false, false] rfl rfl (any_of HT_.out (by kernel_rfl)) (fun _ _ _ h => h) (Or.inl ⟨by rfl, ?_⟩) ?_ ?_
      rotate_left
      ·intro w'
       go_simp
       with_reducible rfl
      rotate_left
      ·simp only [Act.put, List.setIfInBounds_toArray, List.set_cons_zero, List.set_cons_succ, i64_w, i32_w]
       rfl
      refine take_ (i := 5) (N := some 16) (v := ?_) (a' := ?_) #[true, true, true, true, true, true, true, true, true, true, false, true, true, true, true, false, false, false, false, false] rfl rfl (take_ofW HT_.out HW_.out (by kernel_rfl)) (fun _ _ _ h => h) (Or.inl ⟨by rfl, ?_⟩) hHeld ?_ ?_
      rotate_left
      ·rintro w' ⟨s0, s1, s2, s3, s4, s5, s6, s7, s8⟩
       go_simp
       with_reducible rfl
      rotate_left
      ·simp only [Act.put, List.setIfInBounds_toArray, List.set_cons_zero, List.set_cons_succ, i64_w, i32_w]
       rfl
      refine take_ (i := 10) (N := some 21) (v := ?_) (a' := ?_) #[true, true, true, true, true, true, true, true, true, true, true, true, true, true, true, false, false, false, false, false] rfl rfl (take_ofW HT_.out HW_.out (by kernel_rfl)) (fun _ _ _ h => h) (Or.inl ⟨by rfl, ?_⟩) hHeld ?_ ?_
      rotate_left
      ·rintro w' ⟨s0, s1, s2, s3, s4, s5, s6, s7, s8⟩
       go_simp
       with_reducible rfl
      rotate_left
      ·simp only [Act.put, List.setIfInBounds_toArray, List.set_cons_zero, List.set_cons_succ, i64_w, i32_w]
       rfl
      refine take_ (i := 15) (N := some 26) (v := ?_) (a' := ?_) #[true, true, true, true, true, true, true, true, true, true, true, true, true, true, true, true, false, false, false, false] rfl rfl (take_ofW HT_.out HW_.out (by kernel_rfl)) (fun _ _ _ h => h) (Or.inl ⟨by rfl, ?_⟩) hHeld ?_ ?_
      rotate_left
      ·rintro w' ⟨s0, s1, s2, s3, s4, s5, s6, s7, s8⟩
       go_simp
       with_reducible rfl
      rotate_left
      ·simp only [Act.put, List.setIfInBounds_toArray, List.set_cons_zero, List.set_cons_succ, i64_w, i32_w]
       rfl
      refine pure_ (i := 16) (N := some 27) (v := ?_) (a' := ?_) #[true, true, true, true, true, true, true, true, true, true, true, true, true, true, true, true, true, false, false, false] rfl rfl (any_of HT_.out (by kernel_rfl)) (fun _ _ _ h => h) (Or.inl ⟨by rfl, ?_⟩) ?_ ?_
      rotate_left
      ·intro w'
       go_simp
       with_reducible rfl
      rotate_left
      ·simp only [Act.put, List.setIfInBounds_toArray, List.set_cons_zero, List.set_cons_succ, i64_w, i32_w]
       rfl
      refine last_ (i := 17) (N := some 28) #[true, true, true, true, true, true, true, true, true, true, true, true, true, true, true, true, true, true, false, false] rfl rfl (one_of HT_.out (by kernel_rfl)) (by decide) (fun K hK => ?_)
      refine value_ (w1 := ?_) (v := ?_) (by rfl) rfl ?_ ?_
      rotate_left 2
      ·go_simp
       constructor
       ·rfl
       ·rfl
      refine hK.out _ _ ?_
      clear hK K
      refine norm_ (a' := ?_) ?_ ?_
      rotate_left
      ·show Act.put _ (some 28) _ = _
       simp only [Act.put, List.setIfInBounds_toArray, List.set_cons_zero, List.set_cons_succ, i64_w, i32_w]
       rfl
      refine last_ (i := 18) (N := some 29) #[true, true, true, true, true, true, true, true, true, true, true, true, true, true, true, true, true, true, true, false] rfl rfl (one_of HT_.out (by kernel_rfl)) (by decide) (fun K hK => ?_)
      refine Kd.N_append_step k45 (w0 := w) w.heap.size (by rfl) (.tmp 11) (.tmp 28) 31 45 (.agg #[(.int .i64 0), (.int .i64 0), (.slice none 0 0)]) 40 rfl Try.underlying31 info45 rfl (by decide) (by omega) u3 x3_1 (⟨(rd_T63 l0 x4_1).f0, (rd_T63 l0 x4_1).f1, (rd_T63 l0 x4_1).f2⟩ : S45) [.int .i64 ((rd_T63 l0 x4_1).f0), .int .i64 ((rd_T63 l0 x4_1).f1), .slice A161_2 ((rd_T63 l0 x4_1).f2).length c161_2] (fun k_ => (P0_ k_ ∨ w.heap.size ≤ k_)) (fun k_ => ((fun k_ => (P0_ k_ ∨ w.heap.size ≤ k_))) k_ ∧ some k_ ≠ (u3 : Value).ownBlock) rfl rfl ?aP (fun _ hk => hk) ?aF ?aO ?aB ?aS ?aL ?_
      (case aP => exact (k45_mkF _ _ (⟨(rd_T63 l0 x4_1).f0, (rd_T63 l0 x4_1).f1, (rd_T63 l0 x4_1).f2⟩ : S45) (Kd.V_reads' (Kd.V_mono (ok' := (fun k_ => ((fun k_ => (P0_ k_ ∨ w.heap.size ≤ k_))) k_ ∧ some k_ ≠ (u3 : Value).ownBlock)) (HL163_2.out) (fun k_ hk => ⟨hk.1, hk.2⟩))).2.1 (Kd.V_F (Kd.V_mono (ok' := (fun k_ => ((fun k_ => (P0_ k_ ∨ w.heap.size ≤ k_))) k_ ∧ some k_ ≠ (u3 : Value).ownBlock)) (HL163_2.out) (fun k_ hk => ⟨hk.1, hk.2⟩)))))
      (case aB => exact (by repeat (first | (with_reducible first | exact HB.out | apply below_alloc | apply pw_below_drewN | apply below_drew1) | exact HB.out)))
      (case aF => exact (fun k_ hk => (.inr (Nat.le_trans (below_size (by repeat (first | (with_reducible first | exact HB.out | apply below_alloc | apply pw_below_drewN | apply below_drew1) | exact HB.out))) hk))))
      (case aO => exact (by (with_reducible repeat (first | apply Kd.N_alloc | apply Kd.N_drewN | apply Kd.N_drew)); exact HO_3.out))
      (case aS => exact (below_size (by repeat (first | (with_reducible first | exact HB.out | apply below_alloc | apply pw_below_drewN | apply below_drew1) | exact HB.out))))
      (case aL => have := LMc4.out; omega)
      intro v165 w6 ho hb hg hat
      rw [← Ny164.out] at ho
      have n0_ := Aside0.mk (Kd.V_afterv (ok := (fun k_ => (P0_ k_ ∨ w.heap.size ≤ k_))) (by (with_reducible repeat (first | apply Kd.V_alloc | apply Kd.V_drewN | apply Kd.V_drew)); exact HO_0.out) hg hat)
      have n1_ := Aside0.mk (Kd.V_afterv (ok := (fun k_ => (P0_ k_ ∨ w.heap.size ≤ k_))) (by (with_reducible repeat (first | apply Kd.V_alloc | apply Kd.V_drewN | apply Kd.V_drew)); exact HL161_2.out) hg hat)
      have n2_ := Aside0.mk (Kd.V_afterv (ok := (fun k_ => (P0_ k_ ∨ w.heap.size ≤ k_))) (by (with_reducible repeat (first | apply Kd.V_alloc | apply Kd.V_drewN | apply Kd.V_drew)); exact HL162_2.out) hg hat)
      have n3_ := Aside0.mk (Kd.V_afterv (ok := (fun k_ => (P0_ k_ ∨ w.heap.size ≤ k_))) (by (with_reducible repeat (first | apply Kd.V_alloc | apply Kd.V_drewN | apply Kd.V_drew)); exact HL163_2.out) hg hat)
      have n4_ := Aside0.mk (hb)
      have n5_ := Aside0.mk (ho)
      clear HO_0
      clear HL161_2
      clear HL162_2
      clear HL163_2
      clear HB
      clear HO_3
      have HO_0 := n0_
      have HL161_2 := n1_
      have HL162_2 := n2_
      have HL163_2 := n3_
      have HB := n4_
      have HO166 := n5_
      clear n0_ n1_ n2_ n3_ n4_ n5_
      clear ho hb hg hat
      refine hK.out _ _ ?_
      clear hK K
      refine norm_ (a' := ?_) ?_ ?_
      rotate_left
      ·show Act.put _ (some 29) _ = _
       simp only [Act.put, List.setIfInBounds_toArray, List.set_cons_zero, List.set_cons_succ, i64_w, i32_w]
       rfl
      refine pure_ (i := 19) (N := some 3) (v := ?_) (a' := ?_) #[true, true, true, true, true, true, true, true, true, true, true, true, true, true, true, true, true, true, true, true] rfl rfl (any_of HT_.out (by kernel_rfl)) (fun _ _ _ h => h) (Or.inl ⟨by rfl, ?_⟩) ?_ ?_
      rotate_left
      ·intro w'
       go_simp
       with_reducible rfl
      rotate_left
      ·simp only [Act.put, List.setIfInBounds_toArray, List.set_cons_zero, List.set_cons_succ, i64_w, i32_w]
       rfl
      refine done_ (done_of HT_.out (by kernel_rfl)) ?_
      try go_wp2
      go_roundg k1
      case measure => have := HK1.out; omega
      case rel => exact ⟨(y164), (wrap64 (x4_1 + 1)), (by first | rfl | (simp; done) | (simp [*]; done)), H', ⟨by have := HK1.out; omega⟩, ⟨by (with_reducible repeat (first | apply Kd.V_alloc | apply Kd.V_drewN | apply Kd.V_drew)); exact HO_0.out⟩, ⟨by (with_reducible repeat (first | apply Kd.N_alloc | apply Kd.N_drewN | apply Kd.N_drew)); exact HO166.out⟩, ⟨by repeat (first | (with_reducible first | exact HB.out | apply below_alloc | apply pw_below_drewN | apply below_drew1) | exact HB.out)⟩⟩
     ·rw [if_neg c4] at H
      exact absurd H (by simp)
    ·rw [if_neg c3] at H
     exact absurd H (by simp)
   ·rw [if_neg c2] at H
    have c2b0 : decide (x4_1 < (l0.length : Int)) = false := decide_eq_false c2
    clear c2
    obtain rfl := Option.some.inj H
    go_wp2
    go_ret
    exact ⟨_, by first | rfl | (simp [errW_none, errW_some] <;> rfl) | (simp [*, errW_none, errW_some] <;> rfl), by (with_reducible repeat (first | apply Kd.N_alloc | apply Kd.N_drewN | apply Kd.N_drew)); exact HO_3.out, by repeat (first | (with_reducible first | exact HB.out | apply below_alloc | apply pw_below_drewN | apply below_drew1) | exact HB.out)⟩

end Go.Proofs.Ytecbfpcidoilmaa.H

/- Written by a program of this session over the kit's printer: what the functions named below compute, and that the machine's calls compute it. Not trusted: Lean checks it. -/
namespace Go.Proofs.Ytecbfpcidoilmaa.H
open Go.RowKit Go.Proofs.YtecbfpcidoilmaaW.PrintWords Go.Proofs.YtecbfpcidoilmaaW.PrintLast Go.Proofs.YtecbfpcidoilmaaW.PrintMore
attribute [local go_sem] max2_int min2_int max_two min_two max_three min_three max_four min_four   -- for this text's walks alone
set_option linter.unusedVariables false
set_option linter.unusedSimpArgs false

/-! ### worldmintref01_SameInts: function 17 -/
def worldmintref01_SameInts.l0 : Nat → List Int → List Int → Int → Option (Bool)
 | 0, _, _, _ => none
 | k + 1, x0, x1, x5 => if x5 < (x0.length : Int) then (if 0 ≤ x5 then (if x5 < (x1.length : Int) then (if (rd x0 x5) = (rd x1 x5) then (worldmintref01_SameInts.l0 k x0 x1 (wrap64 (x5 + 1))) else (some false)) else (none)) else (none)) else (some true)
def worldmintref01_SameInts.f (k : Nat) (l0 : List Int) (l1 : List Int) : Option (Bool) := if (l0.length : Int) = (l1.length : Int) then (worldmintref01_SameInts.l0 k l0 l1 0) else (some false)
theorem worldmintref01_SameInts.mono_l : ∀ k, (∀ y0 y1 y2, LeO (worldmintref01_SameInts.l0 k y0 y1 y2) (worldmintref01_SameInts.l0 (k + 1) y0 y1 y2))
 | 0 => fun _ _ _ r h => by simp [worldmintref01_SameInts.l0] at h
 | k + 1 => by
  have ih0 := worldmintref01_SameInts.mono_l k
  ·intro y0 y1 y2
   unfold worldmintref01_SameInts.l0
   repeat' first
   | (with_reducible exact ih0 _ _ _)
   | (with_reducible exact LeO.refl _)
   | (with_reducible exact LeO.none _)
   | (with_reducible refine LeO.ite ?_ ?_)
   | (with_reducible refine LeO.bind ?_ (fun _ => ?_))
   | exact ih0 _ _ _
   | exact LeO.none _
   | refine LeO.ite ?_ ?_
   | refine LeO.bind ?_ (fun _ => ?_)
theorem worldmintref01_SameInts.mono : ∀ a0 a1 k, LeO (worldmintref01_SameInts.f k a0 a1) (worldmintref01_SameInts.f (k + 1) a0 a1) := by
 intro a0 a1 k
 have ih0 := worldmintref01_SameInts.mono_l k
 unfold worldmintref01_SameInts.f
 repeat' first
   | (with_reducible exact ih0 _ _ _)
   | (with_reducible exact LeO.refl _)
   | (with_reducible exact LeO.none _)
   | (with_reducible refine LeO.ite ?_ ?_)
   | (with_reducible refine LeO.bind ?_ (fun _ => ?_))
   | exact ih0 _ _ _
   | exact LeO.none _
   | refine LeO.ite ?_ ?_
   | refine LeO.bind ?_ (fun _ => ?_)
set_option maxHeartbeats 8000000 in
set_option maxRecDepth 100000 in
theorem worldmintref01_SameInts.calls (k : Nat) (A0 : Option Addr) (c0 : Nat) (l0 : List Int) (A1 : Option Addr) (c1 : Nat) (l1 : List Int) (r : Bool) (w : World) (hr0 : Kd.C (Kd.int .i64) w A0 l0.length l0) (hc0 : l0.length ≤ c0) (hr1 : Kd.C (Kd.int .i64) w A1 l1.length l1) (hc1 : l1.length ≤ c1) (h : worldmintref01_SameInts.f k l0 l1 = some r) :
  Calls Try.prog 17 #[.slice A0 l0.length c0, .slice A1 l1.length c1] w fun e w' => e = .returned (.bool r) ∧ Drawn0 w w' := by
 have HR0 := Aside0.mk hr0
 have HC0 := Aside0.mk hc0
 clear hr0 hc0
 have HR1 := Aside0.mk hr1
 have HC1 := Aside0.mk hc1
 clear hr1 hc1
 have H : (if (l0.length : Int) = (l1.length : Int) then (worldmintref01_SameInts.l0 k l0 l1 0) else (some false)) = some r := h
 clear h
 by_cases c3 : (l0.length : Int) = (l1.length : Int)
 ·rw [if_pos c3] at H
  have c3b0 : ((l0.length : Int) == (l1.length : Int)) = true := beq_iff_eq.mpr c3
  have c3b1 : ((l0.length : Int) != (l1.length : Int)) = false := bne_eq_false_iff_eq.mpr c3
  have c3b2 : (l0.length == l1.length) = true := by first | simpa using c3 | (simp at c3 ⊢; omega)
  clear c3
  have H' := Aside0.mk H
  clear H
  go_enter Try.func17, Try.ntmps17
  go_wp2
  repeat (go_quiet (fail); try go_wp2)
  go_loopg [5] k (fun kq v5 w' => ∃ (x5_1 : Int), v5 = .int .i64 x5_1 ∧ Aside0 (worldmintref01_SameInts.l0 kq l0 l1 x5_1 = some r) ∧ Aside0 (kq ≤ k) ∧ Drawn0 w w')
  case atStart => exact ⟨(0), (by first | rfl | (simp; done) | (simp [*]; done)), H', ⟨Nat.le_refl _⟩, by repeat (first | exact Drawn0.refl _ | apply Drawn0.step)⟩
  case round =>
   clear H'
   try clear c1
   try clear p2
   try clear c3
   try clear c3b0
   try clear c3b1
   try clear c3b2
   obtain ⟨x5_1, rfl, HA, HK1, ⟨m1, rfl⟩⟩ := hrel
   cases gk with
   | zero => exact absurd HA.out (by simp [worldmintref01_SameInts.l0])
   | succ k1 =>
    have H := HA.out
    clear HA
    simp only [worldmintref01_SameInts.l0] at H
    by_cases c4 : x5_1 < (l0.length : Int)
    ·rw [if_pos c4] at H
     have c4b0 : decide (x5_1 < (l0.length : Int)) = true := decide_eq_true c4
     clear c4
     by_cases c5 : 0 ≤ x5_1
     ·rw [if_pos c5] at H
      have c5b0 : decide (0 ≤ x5_1) = true := decide_eq_true c5
      clear c5
      by_cases c6 : x5_1 < (l1.length : Int)
      ·rw [if_pos c6] at H
       have c6b0 : decide (x5_1 < (l1.length : Int)) = true := decide_eq_true c6
       clear c6
       by_cases c7 : (rd l0 x5_1) = (rd l1 x5_1)
       ·rw [if_pos c7] at H
        have c7b0 : ((rd l0 x5_1) == (rd l1 x5_1)) = true := beq_iff_eq.mpr c7
        have c7b1 : ((rd l0 x5_1) != (rd l1 x5_1)) = false := bne_eq_false_iff_eq.mpr c7
        clear c7
        have H' := Aside0.mk H
        clear H
        have p224 : 0 ≤ (x5_1 : Int) := of_decide_eq_true (by first | (with_reducible assumption) | assumption)
        have q224 : x5_1 < (l0.length : Int) := of_decide_eq_true (by first | (with_reducible assumption) | assumption)
        obtain ⟨ad224, e224, hx224_0⟩ := Kd.at_int HR0.out x5_1 p224 q224
        cases e224
        replace p224 := eq_true p224
        replace q224 := eq_true q224
        have p225 : 0 ≤ (x5_1 : Int) := of_decide_eq_true (by first | (with_reducible assumption) | assumption)
        have q225 : x5_1 < (l1.length : Int) := of_decide_eq_true (by first | (with_reducible assumption) | assumption)
        obtain ⟨ad225, e225, hx225_0⟩ := Kd.at_int HR1.out x5_1 p225 q225
        cases e225
        replace p225 := eq_true p225
        replace q225 := eq_true q225
        go_wp2
        repeat (go_quiet (fail); try go_wp2)
        go_roundg k1
        case measure => have := HK1.out; omega
        case rel => exact ⟨(wrap64 (x5_1 + 1)), (by first | rfl | (simp; done) | (simp [*]; done)), H', ⟨by have := HK1.out; omega⟩, by repeat (first | exact Drawn0.refl _ | apply Drawn0.step)⟩
       ·rw [if_neg c7] at H
        have c7b0 : ((rd l0 x5_1) == (rd l1 x5_1)) = false := beq_eq_false_iff_ne.mpr c7
        have c7b1 : ((rd l0 x5_1) != (rd l1 x5_1)) = true := bne_iff_ne.mpr c7
        obtain rfl := Option.some.inj H
        have p224 : 0 ≤ (x5_1 : Int) := of_decide_eq_true (by first | (with_reducible assumption) | assumption)
        have q224 : x5_1 < (l0.length : Int) := of_decide_eq_true (by first | (with_reducible assumption) | assumption)
        obtain ⟨ad224, e224, hx224_0⟩ := Kd.at_int HR0.out x5_1 p224 q224
        cases e224
        replace p224 := eq_true p224
        replace q224 := eq_true q224
        have p225 : 0 ≤ (x5_1 : Int) := of_decide_eq_true (by first | (with_reducible assumption) | assumption)
        have q225 : x5_1 < (l1.length : Int) := of_decide_eq_true (by first | (with_reducible assumption) | assumption)
        obtain ⟨ad225, e225, hx225_0⟩ := Kd.at_int HR1.out x5_1 p225 q225
        cases e225
        replace p225 := eq_true p225
        replace q225 := eq_true q225
        go_wp2
        repeat (go_quiet (fail); try go_wp2)
        go_ret
        exact ⟨by first | rfl | (simp; done) | (simp [*]; done), by repeat (first | exact Drawn0.refl _ | apply Drawn0.step)⟩
      ·rw [if_neg c6] at H
       exact absurd H (by simp)
     ·rw [if_neg c5] at H
      exact absurd H (by simp)
    ·rw [if_neg c4] at H
     have c4b0 : decide (x5_1 < (l0.length : Int)) = false := decide_eq_false c4
     clear c4
     obtain rfl := Option.some.inj H
     go_wp2
     repeat (go_quiet (fail); try go_wp2)
     go_ret
     exact ⟨by first | rfl | (simp; done) | (simp [*]; done), by repeat (first | exact Drawn0.refl _ | apply Drawn0.step)⟩
 ·rw [if_neg c3] at H
  have c3b0 : ((l0.length : Int) == (l1.length : Int)) = false := beq_eq_false_iff_ne.mpr c3
  have c3b1 : ((l0.length : Int) != (l1.length : Int)) = true := bne_iff_ne.mpr c3
  have c3b2 : (l0.length == l1.length) = false := by first | simpa using c3 | (simp at c3 ⊢; omega)
  obtain rfl := Option.some.inj H
  go_enter Try.func17, Try.ntmps17
  go_wp2
  repeat (go_quiet (fail); try go_wp2)
  go_ret
  exact ⟨by first | rfl | (simp; done) | (simp [*]; done), by repeat (first | exact Drawn0.refl _ | apply Drawn0.step)⟩

end Go.Proofs.Ytecbfpcidoilmaa.H
