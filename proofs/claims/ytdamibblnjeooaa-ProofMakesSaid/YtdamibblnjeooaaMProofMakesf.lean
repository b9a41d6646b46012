/- Texts of this claim, one behind the other. -/
import Derived.Test.YtdamibblnjeooaaMProofMakese
import Derived.BigRegion
import Derived.StillTailTactics
import Derived.StillTactics
import Derived.BigQuiet
import Derived.Deep.QuietTactic
import Derived.IntWalk

/- proof's checker: the walk of 'node'. -/
namespace Go.Proofs.Ytdamibblnjeooaa.H
open Go.RowKit Go.Proofs.YtdamibblnjeooaaW.PrintWords Go.Proofs.YtdamibblnjeooaaW.PrintLast Go.Proofs.YtdamibblnjeooaaW.PrintMore
set_option linter.unusedVariables false
set_option linter.unusedSimpArgs false
set_option maxHeartbeats 1000000 in
theorem node1_calls (x : Int) (W : World) : Calls Try.prog 71 #[.int .i64 x] W (fun e W' => e = .returned (.bool (badPrice x)) ∧ Below W.heap.size W W') := by
 by_cases h : x < 0
 ·have hd : decide (x < 0) = true := decide_eq_true h
  have hr : badPrice x = true := by simp [badPrice, hd]
  rw [hr]
  clear h hr
  go_enter Try.func71, Try.ntmps71
  go_wp2
  go_ret
  exact ⟨rfl, Below.refl _ _⟩
 ·have hd : decide (x < 0) = false := decide_eq_false h
  have hr : badPrice x = decide (1099511627776 < x) := by simp [badPrice, hd]
  rw [hr]
  clear h hr
  go_enter Try.func71, Try.ntmps71
  go_wp2
  go_ret
  exact ⟨rfl, Below.refl _ _⟩
theorem enter_node1 : ∀ args w, (callFunc 71 args).run Try.prog w = .ok (.enter 71 args) w := fun args w => by kernel_rfl
theorem below_drew0 (W : World) : Below W.heap.size W W.drew := ⟨rfl, rfl, rfl, Nat.le_refl _, fun _ _ => rfl⟩
set_option maxHeartbeats 8000000 in
set_option maxRecDepth 100000 in
theorem node_calls (s : PCx) (ok : POk s) : ∀ f, NodeC s f := by
 intro f
 induction f with
 | zero => intro i dec db seen W hi hfu; omega
 | succ f ih =>
  intro i dec db seen W hi hfu hdl hsl hS hD hdb
  have Ih := Aside0.mk ih
  have Ok := Aside0.mk ok
  have Hdl := Aside0.mk hdl
  have Hsl := Aside0.mk hsl
  have hil : i < seen.length := by omega
  clear ih ok hdl hsl
  have hsbW := (Array.getElem?_eq_some_iff.1 hS.hS).1
  obtain ⟨W3, hW3⟩ : ∃ W3, W3 = ((W.alloc (.cells #[.pointer (some ⟨s.cb, 0, none⟩)] 90)).alloc (.cells #[.int .i64 (i : Int)] 3)).alloc (.cells #[.slice (some ⟨db, 0, none⟩) dec.length dec.length] 22) := ⟨_, rfl⟩
  have hst3 : Below W.heap.size W W3 := by
   rw [hW3]
   exact below_alloc (below_alloc (below_alloc (Below.refl _ W) _) _) _
  have hB3 : NBx s db dec i W.heap.size W3 := by
   have hat : ∀ (W : World) (o : Obj) (k : Nat), W.heap.size = k → (W.alloc o).heap[k]? = some o := fun W o k e => by rw [← e]; exact heap_alloc_new W o
   have hbe : ∀ (W : World) (o : Obj) (k : Nat) (x : Option Obj), k < W.heap.size → W.heap[k]? = x → (W.alloc o).heap[k]? = x := fun W o k x h e => (Below.heap_alloc W o k h).trans e
   refine ⟨(hst3.block db (Array.getElem?_eq_some_iff.1 hD).1).trans hD, hdb, ?_, ?_, ?_, hsbW⟩
   ·rw [hW3]
    exact hbe _ _ _ _ (by simp; omega) (hbe _ _ _ _ (by simp) (hat _ _ _ rfl))
   ·rw [hW3]
    exact hbe _ _ _ _ (by simp) (hat _ _ _ (by simp))
   ·rw [hW3]
    exact hat _ _ _ (by simp)
  have hS3 := hS.step hst3
  have hT3 := Stay.of_below (sb := s.sb) hst3
  go_enter Try.func48, Try.ntmps48
  go_upto_region 1 with (fail)
  simp only [Nat.add_assoc, Nat.reduceAdd]
  rw [← hW3]
  have hsz3 : W3.heap.size = W.heap.size + 3 := by rw [hW3]; simp
  clear hW3 hst3 hsbW hS hD
  generalize W.heap.size = b at *
  have hc0 : W3.cell? ⟨b, 0, none⟩ = some (.pointer (some ⟨s.cb, 0, none⟩)) := (blk_cell hB3.h0 0).trans rfl
  have hc1 : W3.cell? ⟨b + 1, 0, none⟩ = some (.int .i64 (i : Int)) := (blk_cell hB3.h1 0).trans rfl
  have hc2 : W3.cell? ⟨b + 2, 0, none⟩ = some (.slice (some ⟨db, 0, none⟩) dec.length dec.length) := (blk_cell hB3.h2 0).trans rfl
  have hcs : W3.cell? ⟨s.cb, 4, none⟩ = some (.slice (some ⟨s.sb, 0, none⟩) s.nodes.length s.nodes.length) := (blk_cell hS3.hC 4).trans rfl
  have hsi : W3.cell? ⟨s.sb, i, none⟩ = some (.bool (seen.getD i true)) := (blk_cell hS3.hS i).trans (by
   simp [bools, List.getElem?_eq_getElem hil])
  cases hsn : seen.getD i true
  ·rw [hsn] at hsi
   have Hsn := Aside0.mk hsn
   clear hsn
   go_quiet (fail)
   have hb7 := pw_below_drewN (Below.refl W3.heap.size W3) nq
   have hS4 := hS3.step hb7
   have hB4 := hB3.stay (Stay.of_below hb7)
   have hT4 := hT3.trans (Stay.of_below hb7)
   have hsz4 : (W3.drewN nq).heap.size = b + 3 := hsz3
   clear hb7 hS3 hB3 hT3 hsz3 hc0 hc1 hc2 hcs hsi
   generalize W3.drewN nq = W4 at *
   have hc0 : W4.cell? ⟨b, 0, none⟩ = some (.pointer (some ⟨s.cb, 0, none⟩)) := (blk_cell hB4.h0 0).trans rfl
   have hc1 : W4.cell? ⟨b + 1, 0, none⟩ = some (.int .i64 (i : Int)) := (blk_cell hB4.h1 0).trans rfl
   have hcs : W4.cell? ⟨s.cb, 4, none⟩ = some (.slice (some ⟨s.sb, 0, none⟩) s.nodes.length s.nodes.length) := (blk_cell hS4.hC 4).trans rfl
   have hsi : W4.cell? ⟨s.sb, i, none⟩ = some (.bool false) := (blk_cell hS4.hS i).trans (by
    have h := Hsn.out
    simp only [List.getD, List.getElem?_eq_getElem hil, Option.getD_some] at h
    simp [bools, List.getElem?_eq_getElem hil, h])
   have hfi : W4.frozen? ⟨s.sb, i, none⟩ = false := blk_frozen hS4.hS i
   obtain ⟨hS5, hT5⟩ := hS4.mark Ok.out i
   have hB5 := hB4.stay hT5
   have hT5 := hT4.trans hT5
   have hsz5 : (W4.setCell ⟨s.sb, i, none⟩ (.bool true)).heap.size = b + 3 := by simpa using hsz4
   have HS5 := Aside0.mk hS5
   have HB5 := Aside0.mk hB5
   have HT5 := Aside0.mk hT5
   have Hsz5 := Aside0.mk hsz5
   clear hS5 hB5 hT5 hsz5 hS4 hB4 hT4 hsz4
   go_upto_region 3 with (fail)
   go_still_tail 6, (by kernel_rfl)
   change wpList _ _ _ _ _ W4.drew
   go_upto_region 4 with (fail)
   have hd5 := below_drew0 (W4.setCell ⟨s.sb, i, none⟩ (.bool true))
   have hS5 := HS5.out.step hd5
   have hB5 := HB5.out.stay (Stay.of_below hd5)
   have hT5 := HT5.out.trans (Stay.of_below hd5)
   have hsz5 : (W4.setCell ⟨s.sb, i, none⟩ (.bool true)).drew.heap.size = b + 3 := Hsz5.out
   clear hd5 HS5 HB5 HT5 Hsz5 hc0 hc1 hcs hsi hfi
   generalize (W4.setCell ⟨s.sb, i, none⟩ (.bool true)).drew = W5 at *
   obtain ⟨ad, A, c, e, g0, g1, g2, g3, hl3, hk3⟩ := at_T55 (Kd.C_below Ok.out.rn hS5.below) (i : Int) (by omega) (by omega)
   have hgd : rd_T55 s.nodes (i : Int) = s.nodes.getD i z55 := by simp [rd_T55]
   rw [hgd] at g0 g1 g2 g3 hl3 hk3
   rw [Int.toNat_natCast] at g0 g1 g2 g3
   clear hgd
   have hc0 : W5.cell? ⟨b, 0, none⟩ = some (.pointer (some ⟨s.cb, 0, none⟩)) := (blk_cell hB5.h0 0).trans rfl
   have hc1 : W5.cell? ⟨b + 1, 0, none⟩ = some (.int .i64 (i : Int)) := (blk_cell hB5.h1 0).trans rfl
   have hcn : W5.cell? ⟨s.cb, 3, none⟩ = some (.slice (some ad) s.nodes.length s.c3) := by rw [← e]; exact (blk_cell hS5.hC 3).trans rfl
   obtain ⟨x, hx⟩ : ∃ x, x = s.nodes.getD i z55 := ⟨_, rfl⟩
   rw [← hx] at g0 g1 g2 g3 hl3 hk3
   have hal : ∀ (w : World) (o : Obj) (p : Addr) (v : Value), w.cell? p = some v → (w.alloc o).cell? p = some v := fun w o p v hp => (((Below.refl _ w).alloc (Nat.le_refl _) o).cell (p := p) (World.block_lt_of_cell? w _ hp)).trans hp
   have k0 := fun o => hal W5 o _ _ hc0
   have k1 := fun o => hal W5 o _ _ hc1
   have k2 := fun o => hal W5 o _ _ hcn
   have k3 := fun o => hal W5 o _ _ g0
   have k4 := fun o => hal W5 o _ _ g1
   have k5 := fun o => hal W5 o _ _ g2
   have k6 := fun o => hal W5 o _ _ g3
   have Hx := Aside0.mk hx
   have HS5 := Aside0.mk hS5
   have HB5 := Aside0.mk hB5
   have HT5 := Aside0.mk hT5
   have Hk3 := Aside0.mk hk3
   have Hl3 := Aside0.mk hl3
   clear hal hx hS5 hB5 hT5 hk3 hl3 e
   go_region
   generalize hz : World.drew _ = W6
   have hb6 : Below W5.heap.size W5 W6 := by
    rw [← hz]
    exact below_drew ((Below.refl _ W5).alloc (Nat.le_refl _) _)
   have hX6 : XBx x A c b W6 := by
    unfold XBx
    rw [← hz, ← hsz5]
    exact heap_alloc_new W5 _
   have hS6 := HS5.out.step hb6
   have hB6 := HB5.out.stay (Stay.of_below hb6)
   have hT6 := HT5.out.trans (Stay.of_below hb6)
   have hC6 : Kd.C (Kd.int .i64) W6 A x.f3.length x.f3 := Kd.C_below Hk3.out hb6
   clear hz hb6 k0 k1 k2 k3 k4 k5 k6 g0 g1 g2 g3 hc0 hc1 hcn hsz5 HS5 HB5 HT5 Hk3
   have hc0 : W6.cell? ⟨b, 0, none⟩ = some (.pointer (some ⟨s.cb, 0, none⟩)) := (blk_cell hB6.h0 0).trans rfl
   have hc2 : W6.cell? ⟨b + 2, 0, none⟩ = some (.slice (some ⟨db, 0, none⟩) dec.length dec.length) := (blk_cell hB6.h2 0).trans rfl
   have hx0 : W6.cell? ⟨b + 3, 0, none⟩ = some (.int .i64 x.f0) := (blk_cell hX6 0).trans rfl
   have hx1 : W6.cell? ⟨b + 3, 1, none⟩ = some (.int .i64 x.f1) := (blk_cell hX6 1).trans rfl
   have hx2 : W6.cell? ⟨b + 3, 2, none⟩ = some (.int .i64 x.f2) := (blk_cell hX6 2).trans rfl
   have hx3 : W6.cell? ⟨b + 3, 3, none⟩ = some (.slice A x.f3.length c) := (blk_cell hX6 3).trans rfl
   have hcn : W6.cell? ⟨s.cb, 0, none⟩ = some (.int .i64 s.n) := (blk_cell hS6.hC 0).trans rfl
   have hcl : W6.cell? ⟨s.cb, 1, none⟩ = some (.slice s.A0 s.l.length s.c0) := (blk_cell hS6.hC 1).trans rfl
   have hfin : ∀ nq, NSt s (W6.drewN nq) (seen.set i true) ∧ Stay s.sb W (W6.drewN nq) := fun nq => ⟨hS6.step (pw_below_drewN (Below.refl _ W6) nq), hT6.trans (Stay.of_below (pw_below_drewN (Below.refl _ W6) nq))⟩
   have Hfin := Aside0.mk hfin
   have HS6 := Aside0.mk hS6
   have HB6 := Aside0.mk hB6
   have HT6 := Aside0.mk hT6
   have HX6 := Aside0.mk hX6
   have HC6 := Aside0.mk hC6
   clear hfin hS6 hB6 hT6 hX6 hC6
   by_cases hlf : x.f0 = -1
   ·have hres : nodeP s.n s.l s.v s.nodes (f + 1) i dec seen = (leafP s.n s.l s.v dec x, seen.set i true) := by
     unfold nodeP
     rw [if_neg (by rw [Hsn.out]; decide), ← Hx.out, if_pos hlf]
    have Hres := Aside0.mk hres
    have hlb : (x.f0 == -1) = true := by simpa using hlf
    clear hres hlf
    by_cases h1 : x.f1 = 0
    ·have hd1 : (x.f1 != 0) = false := by simpa using h1
     by_cases h2 : x.f2 = 0
     ·have hd2 : (x.f2 != 0) = false := by simpa using h2
      by_cases h3 : (x.f3.length : Int) = s.n
      ·have hd3 : ((x.f3.length : Int) != s.n) = false := by simpa using h3
       have hcf := containsFunc_calls 71 #[] badPrice A c x.f3 W6.drew (Kd.C_below HC6.out (below_drew0 W6)) enter_node1 (fun y W' _ _ => node1_calls y W')
       have hlp : leafP s.n s.l s.v dec x = (!x.f3.any badPrice && decide (boundD s.l dec x.f3 ≤ s.v)) := by unfold leafP; rw [decide_eq_true h1, decide_eq_true h2, decide_eq_true h3]; rfl
       have Hlp := Aside0.mk hlp
       have Hcf := Aside0.mk hcf
       have Hk3 := Aside0.mk h3
       clear hcf hlp h1 h2 h3
       cases hany : x.f3.any badPrice
       ·rw [hany] at Hcf
        have Hany := Aside0.mk hany
        clear hany
        go_upto_region 6 with (fail)
        go_still_tail 21, (by kernel_rfl)
        change wpList _ _ _ _ _ W6.drew
        go_wp2_with fail
        refine Hcf.out.mono ?_
        rintro e w1 ⟨rfl, hb1⟩
        have hW1 : Below W6.heap.size W6 w1 := ⟨hb1.os, hb1.tape, hb1.output, hb1.size, hb1.block⟩
        have hS7 := HS6.out.step hW1
        have hB7 := HB6.out.stay (Stay.of_below hW1)
        have hT7 := HT6.out.trans (Stay.of_below hW1)
        have hX7 : XBx x A c b w1 := (hW1.block _ (Array.getElem?_eq_some_iff.1 HX6.out).1).trans HX6.out
        have hC7 : Kd.C (Kd.int .i64) w1 A x.f3.length x.f3 := Kd.C_below HC6.out hW1
        clear hW1 hb1 Hcf HS6 HB6 HT6 HX6 HC6 hx0 hx1 hx2 hx3 hc0 hc2 hcn hcl Hfin
        have hc0 : w1.cell? ⟨b, 0, none⟩ = some (.pointer (some ⟨s.cb, 0, none⟩)) := (blk_cell hB7.h0 0).trans rfl
        have hc2 : w1.cell? ⟨b + 2, 0, none⟩ = some (.slice (some ⟨db, 0, none⟩) dec.length dec.length) := (blk_cell hB7.h2 0).trans rfl
        have hx3 : w1.cell? ⟨b + 3, 3, none⟩ = some (.slice A x.f3.length c) := (blk_cell hX7 3).trans rfl
        have hcl : w1.cell? ⟨s.cb, 1, none⟩ = some (.slice s.A0 s.l.length s.c0) := (blk_cell hS7.hC 1).trans rfl
        have hcv : w1.cell? ⟨s.cb, 2, none⟩ = some (.int .i64 s.v) := (blk_cell hS7.hC 2).trans rfl
        have hdr := below_drew0 w1
        have hbd := bound9_calls s.A0 s.c0 s.l (some ⟨db, 0, none⟩) dec.length dec A c x.f3 w1.drew (Kd.C_below Ok.out.rl (hS7.below.trans (hdr.mono hS7.below.size))) (Kd.C_below (C_blk hB7.hD (by have := Ok.out.l10; have := Hdl.out; omega)) hdr) (Kd.C_below hC7 hdr) Ok.out.l10 Hdl.out (by have := Ok.out.n8; have := Hk3.out; omega)
         (fun y hy => by rw [Hk3.out]; exact Ok.out.bids y hy) (fun y hy => by
          have := List.any_eq_false.1 Hany.out y hy
          simp only [badPrice, Bool.or_eq_true, decide_eq_true_eq, not_or] at this
          omega)
        have hkeep : ∀ w', Below w1.heap.size w1 w' → w'.cell? ⟨b, 0, none⟩ = some (.pointer (some ⟨s.cb, 0, none⟩)) ∧ w'.cell? ⟨s.cb, 1, none⟩ = some (.slice s.A0 s.l.length s.c0) ∧ w'.cell? ⟨b + 2, 0, none⟩ = some (.slice (some ⟨db, 0, none⟩) dec.length dec.length) ∧ w'.cell? ⟨b + 3, 3, none⟩ = some (.slice A x.f3.length c) ∧ w'.cell? ⟨s.cb, 2, none⟩ = some (.int .i64 s.v) := fun w' hb =>
         ⟨(hb.cell (World.block_lt_of_cell? w1 _ hc0)).trans hc0, (hb.cell (World.block_lt_of_cell? w1 _ hcl)).trans hcl, (hb.cell (World.block_lt_of_cell? w1 _ hc2)).trans hc2, (hb.cell (World.block_lt_of_cell? w1 _ hx3)).trans hx3, (hb.cell (World.block_lt_of_cell? w1 _ hcv)).trans hcv⟩
        have Hkeep := Aside0.mk hkeep
        have Hbd := Aside0.mk hbd
        have HS7 := Aside0.mk hS7
        have HT7 := Aside0.mk hT7
        clear hkeep hbd hS7 hT7 hB7 hX7 hC7 hdr hd1 hd2 hd3 hlb
        go_upto_region 8 with (fail)
        refine wp_region_held_drew (S := fun w' => w'.cell? ⟨b, 0, none⟩ = some (.pointer (some ⟨s.cb, 0, none⟩)) ∧ w'.cell? ⟨s.cb, 1, none⟩ = some (.slice s.A0 s.l.length s.c0) ∧ w'.cell? ⟨b + 2, 0, none⟩ = some (.slice (some ⟨db, 0, none⟩) dec.length dec.length) ∧ w'.cell? ⟨b + 3, 3, none⟩ = some (.slice A x.f3.length c) ∧ w'.cell? ⟨s.cb, 2, none⟩ = some (.int .i64 s.v)) (by kernel_rfl) (Hkeep.out w1.drew (below_drew0 w1)) ?_
        intro hS0
        refine wpAnyH_take (i := 0) (v := ?_) rfl (by kernel_rfl) (by kernel_rfl) (by kernel_rfl) (fun _ _ _ h => h) (Or.inl ⟨by rfl, ?_⟩) (by assumption) ?_
        rotate_left
        ·(intro w_ hSw_; (try dsimp only at hSw_); go_simp; try with_reducible rfl)
        try simp only [Act.put, List.getElem_toArray, List.getElem_cons_zero, List.getElem_cons_succ, List.setIfInBounds_toArray, List.set_cons_zero, List.set_cons_succ]
        refine wpAnyH_take (i := 1) (v := ?_) rfl (by kernel_rfl) (by kernel_rfl) (by kernel_rfl) (fun _ _ _ h => h) (Or.inl ⟨by rfl, ?_⟩) (by assumption) ?_
        rotate_left
        ·(intro w_ hSw_; (try dsimp only at hSw_); go_simp; try with_reducible rfl)
        try simp only [Act.put, List.getElem_toArray, List.getElem_cons_zero, List.getElem_cons_succ, List.setIfInBounds_toArray, List.set_cons_zero, List.set_cons_succ]
        refine wpAnyH_take (i := 2) (v := ?_) rfl (by kernel_rfl) (by kernel_rfl) (by kernel_rfl) (fun _ _ _ h => h) (Or.inl ⟨by rfl, ?_⟩) (by assumption) ?_
        rotate_left
        ·(intro w_ hSw_; (try dsimp only at hSw_); go_simp; try with_reducible rfl)
        try simp only [Act.put, List.getElem_toArray, List.getElem_cons_zero, List.getElem_cons_succ, List.setIfInBounds_toArray, List.set_cons_zero, List.set_cons_succ]
        refine wpAnyH_take (i := 3) (v := ?_) rfl (by kernel_rfl) (by kernel_rfl) (by kernel_rfl) (fun _ _ _ h => h) (Or.inl ⟨by rfl, ?_⟩) (by assumption) ?_
        rotate_left
        ·(intro w_ hSw_; (try dsimp only at hSw_); go_simp; try with_reducible rfl)
        try simp only [Act.put, List.getElem_toArray, List.getElem_cons_zero, List.getElem_cons_succ, List.setIfInBounds_toArray, List.set_cons_zero, List.set_cons_succ]
        refine wpAnyH_take (i := 4) (v := ?_) rfl (by kernel_rfl) (by kernel_rfl) (by kernel_rfl) (fun _ _ _ h => h) (Or.inl ⟨by rfl, ?_⟩) (by assumption) ?_
        rotate_left
        ·(intro w_ hSw_; (try dsimp only at hSw_); go_simp; try with_reducible rfl)
        try simp only [Act.put, List.getElem_toArray, List.getElem_cons_zero, List.getElem_cons_succ, List.setIfInBounds_toArray, List.set_cons_zero, List.set_cons_succ]
        refine wpAnyH_take (i := 5) (v := ?_) rfl (by kernel_rfl) (by kernel_rfl) (by kernel_rfl) (fun _ _ _ h => h) (Or.inl ⟨by rfl, ?_⟩) (by assumption) ?_
        rotate_left
        ·(intro w_ hSw_; (try dsimp only at hSw_); go_simp; try with_reducible rfl)
        try simp only [Act.put, List.getElem_toArray, List.getElem_cons_zero, List.getElem_cons_succ, List.setIfInBounds_toArray, List.set_cons_zero, List.set_cons_succ]
        refine wpAnyH_take (i := 6) (v := ?_) rfl (by kernel_rfl) (by kernel_rfl) (by kernel_rfl) (fun _ _ _ h => h) (Or.inl ⟨by rfl, ?_⟩) (by assumption) ?_
        rotate_left
        ·(intro w_ hSw_; (try dsimp only at hSw_); go_simp; try with_reducible rfl)
        try simp only [Act.put, List.getElem_toArray, List.getElem_cons_zero, List.getElem_cons_succ, List.setIfInBounds_toArray, List.set_cons_zero, List.set_cons_succ]
        refine wpAnyH_take (i := 8) (v := ?_) rfl (by kernel_rfl) (by kernel_rfl) (by kernel_rfl) (fun _ _ _ h => h) (Or.inl ⟨by rfl, ?_⟩) (by assumption) ?_
        rotate_left
        ·(intro w_ hSw_; (try dsimp only at hSw_); go_simp; try with_reducible rfl)
        try simp only [Act.put, List.getElem_toArray, List.getElem_cons_zero, List.getElem_cons_succ, List.setIfInBounds_toArray, List.set_cons_zero, List.set_cons_succ]
        refine wpAnyH_take (i := 9) (v := ?_) rfl (by kernel_rfl) (by kernel_rfl) (by kernel_rfl) (fun _ _ _ h => h) (Or.inl ⟨by rfl, ?_⟩) (by assumption) ?_
        rotate_left
        ·(intro w_ hSw_; (try dsimp only at hSw_); go_simp; try with_reducible rfl)
        try simp only [Act.put, List.getElem_toArray, List.getElem_cons_zero, List.getElem_cons_succ, List.setIfInBounds_toArray, List.set_cons_zero, List.set_cons_succ]
        refine wpAnyH_take (i := 10) (v := ?_) rfl (by kernel_rfl) (by kernel_rfl) (by kernel_rfl) (fun _ _ _ h => h) (Or.inl ⟨by rfl, ?_⟩) (by assumption) ?_
        rotate_left
        ·(intro w_ hSw_; (try dsimp only at hSw_); go_simp; try with_reducible rfl)
        try simp only [Act.put, List.getElem_toArray, List.getElem_cons_zero, List.getElem_cons_succ, List.setIfInBounds_toArray, List.set_cons_zero, List.set_cons_succ]
        refine wpAnyH_take (i := 11) (v := ?_) rfl (by kernel_rfl) (by kernel_rfl) (by kernel_rfl) (fun _ _ _ h => h) (Or.inl ⟨by rfl, ?_⟩) (by assumption) ?_
        rotate_left
        ·(intro w_ hSw_; (try dsimp only at hSw_); go_simp; try with_reducible rfl)
        try simp only [Act.put, List.getElem_toArray, List.getElem_cons_zero, List.getElem_cons_succ, List.setIfInBounds_toArray, List.set_cons_zero, List.set_cons_succ]
        refine wpAnyH_take (i := 12) (v := ?_) rfl (by kernel_rfl) (by kernel_rfl) (by kernel_rfl) (fun _ _ _ h => h) (Or.inl ⟨by rfl, ?_⟩) (by assumption) ?_
        rotate_left
        ·(intro w_ hSw_; (try dsimp only at hSw_); go_simp; try with_reducible rfl)
        try simp only [Act.put, List.getElem_toArray, List.getElem_cons_zero, List.getElem_cons_succ, List.setIfInBounds_toArray, List.set_cons_zero, List.set_cons_succ]
        refine wpAnyH_ready (rs := [7]) (by kernel_rfl) (by simp) ?_
        refine AllReadyH.cons rfl (fun K hK => ?_) AllReadyH.nil
        go_simp
        refine Hbd.out.mono ?_
        rintro e w2 ⟨rfl, hb2⟩
        refine hK.out _ _ (Hkeep.out w2 ⟨hb2.os, hb2.tape, hb2.output, hb2.size, hb2.block⟩) (fun hSn_ => ?_)
        clear hK K
        try simp only [Act.put, List.getElem_toArray, List.getElem_cons_zero, List.getElem_cons_succ, List.setIfInBounds_toArray, List.set_cons_zero, List.set_cons_succ]
        refine wpAnyH_take (i := 13) (v := ?_) rfl (by kernel_rfl) (by kernel_rfl) (by kernel_rfl) (fun _ _ _ h => h) (Or.inl ⟨by rfl, ?_⟩) (by assumption) ?_
        rotate_left
        ·(intro w_ hSw_; (try dsimp only at hSw_); go_simp; try with_reducible rfl)
        try simp only [Act.put, List.getElem_toArray, List.getElem_cons_zero, List.getElem_cons_succ, List.setIfInBounds_toArray, List.set_cons_zero, List.set_cons_succ]
        refine wpAnyH_take (i := 14) (v := ?_) rfl (by kernel_rfl) (by kernel_rfl) (by kernel_rfl) (fun _ _ _ h => h) (Or.inl ⟨by rfl, ?_⟩) (by assumption) ?_
        rotate_left
        ·(intro w_ hSw_; (try dsimp only at hSw_); go_simp; try with_reducible rfl)
        try simp only [Act.put, List.getElem_toArray, List.getElem_cons_zero, List.getElem_cons_succ, List.setIfInBounds_toArray, List.set_cons_zero, List.set_cons_succ]
        refine wpAnyH_done (by kernel_rfl) ?_ _
        have hW2 : Below w1.heap.size w1 w2 := ⟨hb2.os, hb2.tape, hb2.output, hb2.size, hb2.block⟩
        go_wp2
        go_ret
        exact ⟨by rw [Hres.out, Hlp.out, Hany.out]; rfl, by rw [Hres.out]; exact ⟨HS7.out.step hW2, HT7.out.trans (Stay.of_below hW2)⟩⟩
       ·rw [hany] at Hcf
        have Hany := Aside0.mk hany
        clear hany
        go_upto_region 6 with (fail)
        go_still_tail 21, (by kernel_rfl)
        change wpList _ _ _ _ _ W6.drew
        go_wp2_with fail
        refine Hcf.out.mono ?_
        rintro e w1 ⟨rfl, hb1⟩
        have hW1 : Below W6.heap.size W6 w1 := ⟨hb1.os, hb1.tape, hb1.output, hb1.size, hb1.block⟩
        clear hb1 Hcf
        go_wp2
        go_ret
        exact ⟨by rw [Hres.out, Hlp.out, Hany.out]; rfl, by rw [Hres.out]; exact ⟨HS6.out.step hW1, HT6.out.trans (Stay.of_below hW1)⟩⟩
      ·have hd3 : ((x.f3.length : Int) != s.n) = true := by simpa using h3
       have hlp : leafP s.n s.l s.v dec x = false := by unfold leafP; rw [decide_eq_false h3]; simp
       have Hlp := Aside0.mk hlp
       clear hlp h1 h2 h3
       go_upto_region 6 with (fail)
       go_quiet (fail)
       go_wp2
       go_ret
       exact ⟨by rw [Hres.out, Hlp.out]; rfl, by rw [Hres.out]; exact Hfin.out _⟩
     ·have hd2 : (x.f2 != 0) = true := by simpa using h2
      have hlp : leafP s.n s.l s.v dec x = false := by unfold leafP; rw [decide_eq_false h2]; simp
      have Hlp := Aside0.mk hlp
      clear hlp h1 h2
      go_upto_region 6 with (fail)
      go_quiet (fail)
      go_wp2
      go_ret
      exact ⟨by rw [Hres.out, Hlp.out]; rfl, by rw [Hres.out]; exact Hfin.out _⟩
    ·have hd1 : (x.f1 != 0) = true := by simpa using h1
     have hlp : leafP s.n s.l s.v dec x = false := by unfold leafP; rw [decide_eq_false h1]; simp
     have Hlp := Aside0.mk hlp
     clear hlp h1
     go_upto_region 6 with (fail)
     go_quiet (fail)
     go_wp2
     go_ret
     exact ⟨by rw [Hres.out, Hlp.out]; rfl, by rw [Hres.out]; exact Hfin.out _⟩
   ·have hlb : (x.f0 == -1) = false := by simpa using hlf
    have hun : nodeP s.n s.l s.v s.nodes (f + 1) i dec seen = if x.f0 < 0 ∨ (s.l.length : Int) ≤ x.f0 ∨ possP s.l dec x.f0.toNat = false ∨ 0 < x.f3.length then (false, seen.set i true) else
      bothP (nextP s f i dec x.f0.toNat x.f1 1 (seen.set i true)) (nextP s f i dec x.f0.toNat x.f2 2) := by
     rw [nodeP, if_neg (by rw [Hsn.out]; decide), ← Hx.out, if_neg hlf]
     rfl
    clear hlf
    by_cases hneg : x.f0 < 0
    ·rw [if_pos (.inl hneg)] at hun
     have Hres := Aside0.mk hun
     have hd1 : decide (x.f0 < 0) = true := decide_eq_true hneg
     clear hun hneg
     go_upto_region 9 with (fail)
     go_quiet (fail)
     go_wp2
     go_ret
     exact ⟨by rw [Hres.out]; rfl, by rw [Hres.out]; exact Hfin.out _⟩
    ·have hd1 : decide (x.f0 < 0) = false := decide_eq_false hneg
     by_cases hge : (s.l.length : Int) ≤ x.f0
     ·rw [if_pos (.inr (.inl hge))] at hun
      have Hres := Aside0.mk hun
      have hd2 : decide ((s.l.length : Int) ≤ x.f0) = true := decide_eq_true hge
      clear hun hneg hge
      go_upto_region 9 with (fail)
      go_quiet (fail)
      go_wp2
      go_ret
      exact ⟨by rw [Hres.out]; rfl, by rw [Hres.out]; exact Hfin.out _⟩
     ·have hd2 : decide ((s.l.length : Int) ≤ x.f0) = false := decide_eq_false hge
      have hps := poss_calls s.A0 s.c0 s.l (some ⟨db, 0, none⟩) dec.length dec x.f0.toNat W6.drew (Kd.C_below Ok.out.rl (HS6.out.below.trans ((below_drew0 W6).mono HS6.out.below.size))) (Kd.C_below (C_blk HB6.out.hD (by have := Ok.out.l10; have := Hdl.out; omega)) (below_drew0 W6)) Hdl.out (by have := Ok.out.l10; omega) (by omega)
      rw [show ((x.f0.toNat : Nat) : Int) = x.f0 from by omega] at hps
      have hkeep : ∀ w', Below W6.heap.size W6 w' → w'.cell? ⟨b + 3, 0, none⟩ = some (.int .i64 x.f0) ∧ w'.cell? ⟨b + 3, 3, none⟩ = some (.slice A x.f3.length c) ∧ w'.cell? ⟨b, 0, none⟩ = some (.pointer (some ⟨s.cb, 0, none⟩)) ∧ w'.cell? ⟨s.cb, 1, none⟩ = some (.slice s.A0 s.l.length s.c0) ∧ w'.cell? ⟨b + 2, 0, none⟩ = some (.slice (some ⟨db, 0, none⟩) dec.length dec.length) := fun w' hb =>
       ⟨(hb.cell (World.block_lt_of_cell? W6 _ hx0)).trans hx0, (hb.cell (World.block_lt_of_cell? W6 _ hx3)).trans hx3, (hb.cell (World.block_lt_of_cell? W6 _ hc0)).trans hc0, (hb.cell (World.block_lt_of_cell? W6 _ hcl)).trans hcl, (hb.cell (World.block_lt_of_cell? W6 _ hc2)).trans hc2⟩
      have Hkeep := Aside0.mk hkeep
      have Hps := Aside0.mk hps
      have Hneg := Aside0.mk hneg
      have Hge := Aside0.mk hge
      clear hkeep hps hneg hge
      cases hpo : possP s.l dec x.f0.toNat
      ·rw [if_pos (.inr (.inr (.inl hpo)))] at hun
       rw [hpo] at Hps
       have Hres := Aside0.mk hun
       clear hun hpo
       go_upto_region 9 with (fail)
       go_still_tail 21, (by kernel_rfl)
       change wpList _ _ _ _ _ W6.drew
       go_wp2_with fail
       refine Hps.out.mono ?_
       rintro e w1 ⟨rfl, hb1⟩
       have hW1 : Below W6.heap.size W6 w1 := ⟨hb1.os, hb1.tape, hb1.output, hb1.size, hb1.block⟩
       clear Hkeep hb1
       go_wp2
       go_ret
       exact ⟨by rw [Hres.out]; rfl, by rw [Hres.out]; exact ⟨HS6.out.step hW1, HT6.out.trans (Stay.of_below hW1)⟩⟩
      ·rw [hpo] at Hps
       have Hpo := Aside0.mk hpo
       go_upto_region 9 with (fail)
       go_still_tail 21, (by kernel_rfl)
       change wpList _ _ _ _ _ W6.drew
       go_wp2_with fail
       refine Hps.out.mono ?_
       rintro e w1 ⟨rfl, hb1⟩
       have hW1 : Below W6.heap.size W6 w1 := ⟨hb1.os, hb1.tape, hb1.output, hb1.size, hb1.block⟩
       obtain ⟨h0', h3', _⟩ := Hkeep.out w1 hW1
       have hS7 := HS6.out.step hW1
       have hB7 := HB6.out.stay (Stay.of_below hW1)
       have hT7 := HT6.out.trans (Stay.of_below hW1)
       have hX7 : XBx x A c b w1 := (hW1.block _ (Array.getElem?_eq_some_iff.1 HX6.out).1).trans HX6.out
       have hx1' : w1.cell? ⟨b + 3, 1, none⟩ = some (.int .i64 x.f1) := (blk_cell hX7 1).trans rfl
       have HS7 := Aside0.mk hS7
       have HB7 := Aside0.mk hB7
       have HT7 := Aside0.mk hT7
       have HX7 := Aside0.mk hX7
       have hbl : s.sb < b := hB7.hb
       clear hS7 hB7 hT7 hX7 hW1 hb1 Hkeep Hps HS6 HB6 HT6 HX6 hx0 hx1 hx2 hx3 hc0 hc2 hcn hcl Hfin
       by_cases hlen : 0 < x.f3.length
       ·rw [if_pos (.inr (.inr (.inr hlen)))] at hun
        have Hres := Aside0.mk hun
        clear hun hpo
        go_wp2
        go_ret
        exact ⟨by rw [Hres.out]; rfl, by rw [Hres.out]; exact ⟨HS7.out, HT7.out⟩⟩
       ·have hno : ¬ (x.f0 < 0 ∨ (s.l.length : Int) ≤ x.f0 ∨ possP s.l dec x.f0.toNat = false ∨ 0 < x.f3.length) := by
         rintro (h | h | h | h)
         ·have := Hneg.out; omega
         ·have := Hge.out; omega
         ·rw [hpo] at h; cases h
         ·exact hlen h
        rw [if_neg hno] at hun
        have hln : x.f3.length = 0 := by omega
        rw [hln] at h3'
        have hnx := fun k d sn W' (hsn' : sn.length = s.nodes.length) hS hB hX => next_calls s Ok.out f Ih.out i dec db b x A c sn W' Hdl.out hsn' hS hB hX (by have := Hneg.out; omega) (by have := Hge.out; omega) (by omega) k d
        have hn1 := hnx x.f1 1 (seen.set i true) w1 (by rw [List.length_set]; exact Hsl.out) HS7.out HB7.out HX7.out
        have Hnx := Aside0.mk hnx
        have Hn1 := Aside0.mk hn1
        have Hun := Aside0.mk hun
        clear hnx hn1 hun hpo hlen hln
        go_wp2_with fail
        refine Hn1.out.mono ?_
        rintro e w2 ⟨rfl, hS8, hT8⟩
        have hB8 := HB7.out.stay hT8
        have hX8 : XBx x A c b w2 := hT8.at_ HX7.out (by omega)
        have hT9 := HT7.out.trans hT8
        have hx2' : w2.cell? ⟨b + 3, 2, none⟩ = some (.int .i64 x.f2) := (blk_cell hX8 2).trans rfl
        cases hr1 : (nextP s f i dec x.f0.toNat x.f1 1 (seen.set i true)).1
        ·have hres : nodeP s.n s.l s.v s.nodes (f + 1) i dec seen = (false, (nextP s f i dec x.f0.toNat x.f1 1 (seen.set i true)).2) := by
          rw [Hun.out, bothP, hr1]
          simp only [Bool.false_eq_true, if_false]
          rw [← hr1]
         have Hres := Aside0.mk hres
         have HS8 := Aside0.mk hS8
         have HT9 := Aside0.mk hT9
         clear hres hS8 hT8 hB8 hX8 hT9 hr1 Hn1
         go_wp2
         go_ret
         exact ⟨by rw [Hres.out]; rfl, by rw [Hres.out]; exact ⟨HS8.out, HT9.out⟩⟩
        ·have hn2 := Hnx.out x.f2 2 (nextP s f i dec x.f0.toNat x.f1 1 (seen.set i true)).2 w2 (by unfold nextP; rw [stepP_len _ (nodeP_len s.n s.l s.v s.nodes f), List.length_set]; exact Hsl.out) hS8 hB8 hX8
         have hres : nodeP s.n s.l s.v s.nodes (f + 1) i dec seen = nextP s f i dec x.f0.toNat x.f2 2 (nextP s f i dec x.f0.toNat x.f1 1 (seen.set i true)).2 := by
          rw [Hun.out, bothP, hr1, if_pos rfl]
         have Hres := Aside0.mk hres
         have Hn2 := Aside0.mk hn2
         have HT9 := Aside0.mk hT9
         clear hres hn2 hS8 hT8 hB8 hX8 hT9 hr1 Hn1 Hnx
         go_wp2_with fail
         refine Hn2.out.mono ?_
         rintro e w3 ⟨rfl, hS9, hT10⟩
         go_wp2
         go_ret
         exact ⟨by rw [Hres.out]; rfl, by rw [Hres.out]; exact ⟨hS9, HT9.out.trans hT10⟩⟩
  ·rw [hsn] at hsi
   have hres : nodeP s.n s.l s.v s.nodes (f + 1) i dec seen = (false, seen) := by unfold nodeP; rw [if_pos hsn]
   have Hres := Aside0.mk hres
   have hS' : ∀ nq, NSt s (W3.drewN nq) seen ∧ Stay s.sb W (W3.drewN nq) := fun nq => ⟨hS3.step (pw_below_drewN (Below.refl _ W3) nq), hT3.trans (Stay.of_below (pw_below_drewN (Below.refl _ W3) nq))⟩
   have HS' := Aside0.mk hS'
   clear hS' hS3 hB3 hT3 hres hsn
   go_quiet (fail)
   go_wp2
   go_ret
   exact ⟨by rw [Hres.out]; rfl, by rw [Hres.out]; exact HS'.out _⟩
end Go.Proofs.Ytdamibblnjeooaa.H

/- slices.Contains over bools, of 'false'. -/
namespace Go.Proofs.Ytdamibblnjeooaa.H
open Go.RowKit Go.Proofs.YtdamibblnjeooaaW.PrintWords Go.Proofs.YtdamibblnjeooaaW.PrintLast Go.Proofs.YtdamibblnjeooaaW.PrintMore
set_option linter.unusedVariables false
set_option linter.unusedSimpArgs false
/-- The place of the first 'false', or -1. -/
def idxF : List Bool → Int
 | [] => -1
 | b :: s => if b = false then 0 else if idxF s < 0 then -1 else idxF s + 1
theorem idxF_ge : ∀ s, decide (idxF s ≥ 0) = !s.all id
 | [] => rfl
 | b :: s => by
  have ih := idxF_ge s
  cases b
  ·simp [idxF]
  ·simp only [idxF, Bool.true_eq_false, if_false, List.all_cons, id, Bool.true_and]
   rw [← ih]
   by_cases h : idxF s < 0
   ·rw [if_pos h]; rw [decide_eq_false (show ¬ (-1 : Int) ≥ 0 by omega), decide_eq_false (by omega)]
   ·rw [if_neg h]; rw [decide_eq_true (show idxF s + 1 ≥ 0 by omega), decide_eq_true (by omega)]
theorem idxF_at : ∀ (s : List Bool) (k : Nat), k < s.length → (∀ j, j < k → s.getD j true = true) → s.getD k true = false → idxF s = k
 | [], _, h, _, _ => by simp at h
 | b :: s, 0, _, _, h => by
  have : b = false := by simpa using h
  subst this
  simp [idxF]
 | b :: s, k + 1, hk, hall, h => by
  have h0 : b = true := by simpa using hall 0 (by omega)
  subst h0
  have ih := idxF_at s k (by simpa using hk) (fun j hj => by simpa using hall (j + 1) (by omega)) (by simpa using h)
  simp only [idxF, Bool.true_eq_false, if_false, ih]
  rw [if_neg (by omega)]; omega
theorem idxF_none : ∀ (s : List Bool), (∀ j, j < s.length → s.getD j true = true) → idxF s = -1
 | [], _ => rfl
 | b :: s, h => by
  have h0 : b = true := by simpa using h 0 (by simp)
  subst h0
  have ih := idxF_none s (fun j hj => by simpa using h (j + 1) (by simpa using hj))
  simp [idxF, ih]
set_option maxHeartbeats 1000000 in
set_option maxRecDepth 100000 in
theorem indexB_calls (sb : Nat) (seen : List Bool) (c : Nat) (w : World) (hs : w.heap[sb]? = some (.cells (bools seen).toArray 4 (0, 0))) (hl : seen.length ≤ 1000000) :
  Calls Try.prog 74 #[.slice (some ⟨sb, 0, none⟩) seen.length c, .bool false] w (fun e w' => e = .returned (.int .i64 (idxF seen)) ∧ Below w.heap.size w w') := by
 have hadd : ∀ j, (⟨sb, 0, none⟩ : Addr).add j = ⟨sb, j, none⟩ := fun j => by unfold Addr.add; split <;> simp_all
 have Hs := Aside0.mk hs
 have Hadd := Aside0.mk hadd
 clear hs hadd
 go_enter Try.func74, Try.ntmps74
 go_wp2
 go_loopw [8] (fun i wr => ∃ k : Nat, k ≤ seen.length ∧ i = .int .i64 k ∧ Aside0 (∀ j, j < k → seen.getD j true = true) ∧ wr = w) (fun i _ => seen.length - (intOf i).toNat)
 case atStart => exact ⟨0, by omega, rfl, ⟨fun j hj => by omega⟩, rfl⟩
 case round =>
  obtain ⟨k, hk, rfl, hall, rfl⟩ := hrel
  by_cases hlt : k < seen.length
  ·have hcell : wr.cell? ⟨sb, k, none⟩ = some (.bool (seen.getD k true)) := (blk_cell Hs.out k).trans (by simp [bools, List.getElem?_eq_getElem hlt])
   cases hb : seen.getD k true
   ·rw [hb] at hcell
    have hres := idxF_at seen k hlt hall.out hb
    have Hres := Aside0.mk hres
    clear hb hres
    go_wp2
    go_ret
    exact ⟨by rw [Hres.out]; rfl, Below.refl _ _⟩
   ·rw [hb] at hcell
    have hall2 : ∀ j, j < k + 1 → seen.getD j true = true := fun j hj => by
     rcases Nat.lt_succ_iff_lt_or_eq.1 hj with h | rfl
     ·exact hall.out j h
     ·exact hb
    have Hall2 := Aside0.mk hall2
    clear hb hall2
    go_wp2
    go_roundw
    case rel => exact ⟨k + 1, by omega, by go_num, Hall2, by first | trivial | rfl⟩
    case measure => simp [intOf]; omega
  ·obtain rfl : k = seen.length := by omega
   have hres := idxF_none seen hall.out
   have Hres := Aside0.mk hres
   clear hres
   go_wp2
   go_ret
   exact ⟨by rw [Hres.out]; rfl, Below.refl _ _⟩
set_option maxHeartbeats 1000000 in
set_option maxRecDepth 100000 in
theorem containsB_calls (sb : Nat) (seen : List Bool) (c : Nat) (w : World) (hs : w.heap[sb]? = some (.cells (bools seen).toArray 4 (0, 0))) (hl : seen.length ≤ 1000000) :
  Calls Try.prog 49 #[.slice (some ⟨sb, 0, none⟩) seen.length c, .bool false] w (fun e w' => e = .returned (.bool (!seen.all id)) ∧ Below w.heap.size w w') := by
 have H := Aside0.mk (indexB_calls sb seen c w hs hl)
 have hge := idxF_ge seen
 have Hge := Aside0.mk hge
 clear hge hs
 go_enter Try.func49, Try.ntmps49
 go_wp2_with fail
 refine H.out.mono ?_
 rintro e w' ⟨rfl, hb⟩
 go_wp2
 go_ret
 exact ⟨by rw [← Hge.out]; rfl, hb⟩
end Go.Proofs.Ytdamibblnjeooaa.H

/- bids.Feasible. -/
namespace Go.Proofs.Ytdamibblnjeooaa.H
open Go.RowKit Go.Proofs.YtdamibblnjeooaaW.PrintWords Go.Proofs.YtdamibblnjeooaaW.PrintLast Go.Proofs.YtdamibblnjeooaaW.PrintMore
set_option linter.unusedVariables false
set_option linter.unusedSimpArgs false
set_option maxHeartbeats 1000000 in
set_option maxRecDepth 100000 in
/-- The closure that asks whether bid x conflicts with bid i. -/
theorem feasible1_calls (x i : Int) (W : World) (L I : Nat) (A : Option Addr) (c : Nat) (l : List S82) (hl : W.cell? ⟨L, 0, none⟩ = some (.slice A l.length c)) (hi : W.cell? ⟨I, 0, none⟩ = some (.int .i64 i))
  (hr : Kd.C k82 W A l.length l) (hx0 : 0 ≤ x) (hx : x < l.length) (hi0 : 0 ≤ i) (hil : i < l.length) :
  Calls Try.prog 66 #[.int .i64 x, .pointer (some ⟨L, 0, none⟩), .pointer (some ⟨I, 0, none⟩)] W (fun e W' => e = .returned (.bool (conf (rd_T82 l x) (rd_T82 l i))) ∧ Below W.heap.size W W') := by
 obtain ⟨ad, A2, c2, e, h0, h1, h2, hl2, hk2⟩ := at_T82 hr x hx0 (by omega)
 obtain ⟨ad', A3, c3, e', h0', h1', h2', hl3, hk3⟩ := at_T82 hr i hi0 (by omega)
 rw [e] at e'; cases e'; subst e
 have Hk2 := Aside0.mk hk2
 have Hk3 := Aside0.mk hk3
 have Hl2 := Aside0.mk hl2
 have Hl3 := Aside0.mk hl3
 clear hk2 hk3 hl2 hl3 hr
 go_enter Try.func66, Try.ntmps66
 go_wp2
 go_still_tail 8, (by kernel_rfl)
 change wpList _ _ _ _ _ W.drew
 go_wp2_with fail
 refine (bids_Conflict.calls _ _ _ _ _ _ _ _ _ _ _ W.drew (Kd.C_drew Hk2.out) Hl2.out (Kd.C_drew Hk3.out) Hl3.out rfl).mono ?_
 rintro e w1 ⟨rfl, hb1⟩
 obtain ⟨r0, hr0⟩ : ∃ r0, conf ⟨(rd_T82 l x).f0, (rd_T82 l x).f1, (rd_T82 l x).f2⟩ ⟨(rd_T82 l i).f0, (rd_T82 l i).f1, (rd_T82 l i).f2⟩ = r0 := ⟨_, rfl⟩
 rw [hr0]
 have Hr0 := Aside0.mk hr0
 clear hr0
 go_wp2
 go_ret
 exact ⟨by rw [← Hr0.out]; rfl, ⟨hb1.os, hb1.tape, hb1.output, hb1.size, hb1.block⟩⟩
theorem enter_feasible1 : ∀ args w, (callFunc 66 args).run Try.prog w = .ok (.enter 66 args) w := fun args w => by kernel_rfl
set_option maxHeartbeats 2000000 in
set_option maxRecDepth 100000 in
theorem bids_Feasible.calls (A0 : Option Addr) (c0 : Nat) (l0 : List S82) (A1 : Option Addr) (c1 : Nat) (l1 : List Int) (r : Bool) (w : World) (hr0 : Kd.C k82 w A0 l0.length l0) (hc0 : l0.length ≤ c0) (hr1 : Kd.C (Kd.int .i64) w A1 l1.length l1) (hc1 : l1.length ≤ c1) (h : bids_Feasible.f l0 l1 = some r) :
  Calls Try.prog 41 #[.slice A0 l0.length c0, .slice A1 l1.length c1] w fun e w' => e = .returned (.bool r) ∧ Below w.heap.size w w' := by
 obtain rfl : feasP l0 [] l1 = r := Option.some.inj h
 clear h
 have hl0 : l0.length ≤ 9223372036854775807 := Kd.C_max hr0
 have hl1 : l1.length ≤ 9223372036854775807 := Kd.C_max hr1
 have Hr0 := Aside0.mk hr0
 have Hr1 := Aside0.mk hr1
 clear hr0 hr1
 go_enter Try.func41, Try.ntmps41
 go_wp2
 have hB0 : Below w.heap.size w (w.alloc (.cells #[.slice A0 l0.length c0] 40)) := (Below.refl _ w).alloc (Nat.le_refl _) _
 have hL0 := heap_alloc_new w (.cells #[.slice A0 l0.length c0] 40)
 go_loopw [9] (fun i wr => ∃ m : Nat, m ≤ l1.length ∧ i = .int .i64 m ∧ Aside0 (feasP l0 [] l1 = feasP l0 (l1.take m) (l1.drop m)) ∧ Aside0 (∀ v ∈ l1.take m, 0 ≤ v ∧ v < l0.length) ∧ Aside0 (wr.heap[w.heap.size]? = some (.cells #[.slice A0 l0.length c0] 40)) ∧ Aside0 (Below w.heap.size w wr)) (fun i _ => l1.length - (intOf i).toNat)
 case atStart => exact ⟨0, by omega, rfl, ⟨by simp⟩, ⟨by simp⟩, ⟨hL0⟩, ⟨hB0⟩⟩
 case round =>
  clear hB0 hL0
  obtain ⟨m, hm, rfl, hF, hV, hL, hB⟩ := hrel
  by_cases hlt : m < l1.length
  ·obtain ⟨ad, e, hcell⟩ := Kd.at_int (Kd.C_below Hr1.out hB.out) m (by omega) (by omega)
   subst e
   rw [Int.toNat_natCast] at hcell
   have hd : l1.drop m = rd l1 m :: l1.drop (m + 1) := by
    rw [List.drop_eq_getElem_cons hlt]
    simp [rd, List.getD, hlt]
   have hts : l1.take (m + 1) = l1.take m ++ [rd l1 m] := by rw [List.take_succ_eq_append_getElem hlt]; simp [rd, List.getD, hlt]
   obtain ⟨x, hx⟩ : ∃ x, rd l1 m = x := ⟨_, rfl⟩
   rw [hx] at hd hts hcell
   have Hd := Aside0.mk hd
   have Hts := Aside0.mk hts
   have Hx := Aside0.mk hx
   clear hd hts hx
   go_upto_region 4 with (first | ((with_reducible refine gate_dst (N := 6) rfl ?_); refine box_event ?hg (N := 6) ?hd (cs := #[.int .i64 0]) (t := 3) ?hr ?_; (case hd => rfl); (case hg => rfl); (case hr => first | (go_simp; done) | (go_simp; rfl)); intro gb hg w5 hbox hb5; (have hB5 := hB.out.trans (hb5.mono hB.out.size)); (have hL5 := (hb5.block _ (blk_lt hL.out)).trans hL.out); (have hgl : w.heap.size < gb := by rw [hg]; exact blk_lt hL.out); have HB5 := Aside0.mk hB5; have HL5 := Aside0.mk hL5; have Hbox := Aside0.mk hbox; have Hgl := Aside0.mk hgl; clear hB5 hL5 hb5 hg hgl; (have hcz0 := (blk_cell hbox 0).trans rfl); have hfz0 := blk_frozen hbox 0; clear hbox))
   (try simp only [Act.put, List.setIfInBounds_toArray, List.set_cons_zero, List.set_cons_succ])
   generalize hw6 : World.setCell _ _ _ = w6
   have hbk : w6.heap[gb]? = some (.cells #[.int .i64 x] 3 (0, 0)) := by
    rw [← hw6]
    exact blk_put (cs := #[.int .i64 0]) Hbox.out 0 _ rfl
   have hf6 : ∀ k, k ≠ gb → w6.heap[k]? = w5.heap[k]? := fun k hk => by
    rw [← hw6]
    exact Below.heap_setCell _ ⟨gb, 0, none⟩ _ k hk
   have hB6 : Below w.heap.size w w6 := by
    rw [← hw6]
    exact HB5.out.setCell (p := ⟨gb, 0, none⟩) (Nat.le_of_lt Hgl.out) _
   have hL6 := (hf6 w.heap.size (by have := Hgl.out; omega)).trans HL5.out
   have hcz0 : w6.cell? ⟨gb, 0, none⟩ = some (.int .i64 x) := (blk_cell hbk 0).trans rfl
   have hcL : w6.cell? ⟨w.heap.size, 0, none⟩ = some (.slice A0 l0.length c0) := (blk_cell hL6 0).trans rfl
   have HB6 := Aside0.mk hB6
   have HL6 := Aside0.mk hL6
   clear hw6 hf6 hbk hB6 hL6 Hbox HL5 HB5 hcell hfz0 hB hL
   have hstep := hF.out.trans (by rw [Hd.out])
   have Hstep := Aside0.mk hstep
   clear hF hstep
   by_cases p1 : x < 0
   ·have d1 : decide (x < 0) = true := decide_eq_true p1
    have hres : feasP l0 [] l1 = false := Hstep.out.trans (by simp [feasP, p1])
    have Hres := Aside0.mk hres
    clear hres p1
    go_quiet (fail)
    have hB7 := pw_below_drewN HB6.out nq
    have HB7 := Aside0.mk hB7
    clear hB7
    generalize w6.drewN nq = w7 at *
    go_wp2
    go_ret
    exact ⟨by rw [Hres.out]; rfl, HB7.out⟩
   ·have d1 : decide (x < 0) = false := decide_eq_false p1
    by_cases c2 : (l0.length : Int) ≤ x
    ·have d2 : decide ((l0.length : Int) ≤ x) = true := decide_eq_true c2
     have hres : feasP l0 [] l1 = false := Hstep.out.trans (by simp [feasP, c2])
     have Hres := Aside0.mk hres
     clear hres p1 c2
     go_quiet (fail)
     have hB7 := pw_below_drewN HB6.out nq
     have HB7 := Aside0.mk hB7
     clear hB7
     generalize w6.drewN nq = w7 at *
     go_wp2
     go_ret
     exact ⟨by rw [Hres.out]; rfl, HB7.out⟩
    ·have d2 : decide ((l0.length : Int) ≤ x) = false := decide_eq_false c2
     have hcont : ∀ w7, w7.heap = w6.heap → Below w.heap.size w w7 → True := fun _ _ _ => trivial
     by_cases c3 : m = 0
     ·have d3 : decide ((0 : Int) < (m : Int)) = false := decide_eq_false (by omega)
      have d3' : decide (0 < m) = false := decide_eq_false (by omega)
      have Hc3 := Aside0.mk c3
      clear c3
      go_quiet (fail)
      have hcf := containsFunc_calls 66 #[.pointer (some ⟨w.heap.size, 0, none⟩), .pointer (some ⟨gb, 0, none⟩)] (fun v => conf (rd_T82 l0 v) (rd_T82 l0 x)) (some ad) c1 (l1.take m) (w6.drewN nq) (Kd.C_take (Kd.C_drewN (Kd.C_below Hr1.out HB6.out) nq) hm) enter_feasible1 (fun v W hv hW => feasible1_calls v x W w.heap.size gb A0 c0 l0 ((hW.cell (p := ⟨w.heap.size, 0, none⟩) (World.block_lt_of_cell? w6 _ hcL)).trans hcL) ((hW.cell (p := ⟨gb, 0, none⟩) (World.block_lt_of_cell? w6 _ hcz0)).trans hcz0) (Kd.C_below Hr0.out ((pw_below_drewN HB6.out nq).trans (hW.mono (pw_below_drewN HB6.out nq).size))) (hV.out v hv).1 (hV.out v hv).2 (by omega) (by omega))
      have hlen : (l1.take m).length = m := by rw [List.length_take]; omega
      rw [hlen] at hcf
      have hnext : feasP l0 [] l1 = if (l1.take m).any (fun v => conf (rd_T82 l0 v) (rd_T82 l0 x)) then false else feasP l0 (l1.take (m + 1)) (l1.drop (m + 1)) := by
       rw [Hstep.out, Hts.out]
       have hlast : (l1.take m).getLast? = none := by rw [Hc3.out]; rfl
       simp only [feasP, hlast]
       rw [if_neg (by simp [p1, c2])]
       rfl
      have hv' : ∀ v ∈ l1.take (m + 1), 0 ≤ v ∧ v < l0.length := by
       rw [Hts.out]
       intro v hv
       rcases List.mem_append.1 hv with h | h
       ·exact hV.out v h
       ·rw [List.mem_singleton] at h; subst h; omega
      have hB7 := pw_below_drewN HB6.out nq
      have hL7 : (w6.drewN nq).heap[w.heap.size]? = some (.cells #[.slice A0 l0.length c0] 40) := HL6.out
      have Hcf := Aside0.mk hcf
      have Hnext := Aside0.mk hnext
      have Hv' := Aside0.mk hv'
      have HB7 := Aside0.mk hB7
      have HL7 := Aside0.mk hL7
      have hmc : m ≤ c1 := by omega
      have hmc' : (m : Int) ≤ (c1 : Int) := by omega
      clear hcf hnext hv' hB7 hL7 hlen Hstep Hd Hts HB6 HL6 hcz0 hcL d1 d2 p1 c2 d3 d3'
      generalize w6.drewN nq = w7 at *
      cases hany : (l1.take m).any (fun v => conf (rd_T82 l0 v) (rd_T82 l0 x))
      all_goals
       rw [hany] at Hcf Hnext
       clear hany
       go_wp2_with fail
       refine Hcf.out.mono ?_
       rintro e w8 ⟨rfl, hb8⟩
       have HB8 := Aside0.mk (HB7.out.trans (hb8.mono HB7.out.size))
       have HL8 := Aside0.mk ((hb8.block _ (blk_lt HL7.out)).trans HL7.out)
       clear hb8 Hcf HB7 HL7
       go_wp2
      ·go_roundw
       case rel => exact ⟨m + 1, by omega, by go_num, ⟨by rw [Hnext.out]; rfl⟩, Hv', ⟨HL8.out⟩, ⟨HB8.out⟩⟩
       case measure => simp [intOf]; omega
      ·go_ret
       exact ⟨by rw [Hnext.out]; rfl, HB8.out⟩
     ·have d3 : decide ((0 : Int) < (m : Int)) = true := decide_eq_true (by omega)
      have d3' : decide (0 < m) = true := decide_eq_true (by omega)
      obtain ⟨q, hq⟩ : ∃ q : Int, (m : Int) - 1 = q := ⟨_, rfl⟩
      have hw1 : IntKind.i64.wrap ((m : Int) - 1) = q := by rw [hq]; exact IntWalk.i64_in _ (by omega)
      have hi0 : (0 : Int) ≤ q := by omega
      have hi1 : q < (l1.length : Int) := by omega
      obtain ⟨ad2, e2, hcell2⟩ := Kd.at_int (Kd.C_below Hr1.out HB6.out) q hi0 hi1
      cases e2
      by_cases c4 : x ≤ rd l1 q
      ·have d4 : decide (x ≤ rd l1 q) = true := decide_eq_true c4
       have hres : feasP l0 [] l1 = false := Hstep.out.trans (by
        have hlast : (l1.take m).getLast? = some (rd l1 q) := by
         rw [List.getLast?_eq_getElem?, List.length_take, Nat.min_eq_left hm, List.getElem?_take_of_lt (by omega), List.getElem?_eq_getElem (by omega)]
         have : q.toNat = m - 1 := by omega
         simp [rd, this, List.getD, show m - 1 < l1.length by omega]
        simp [feasP, hlast, c4])
       have Hq := Aside0.mk hq
       clear hq
       have Hres := Aside0.mk hres
       clear hres p1 c2 c4
       go_quiet (fail)
       have hB7 := pw_below_drewN HB6.out nq
       have HB7 := Aside0.mk hB7
       clear hB7
       generalize w6.drewN nq = w7 at *
       go_wp2
       go_ret
       exact ⟨by rw [Hres.out]; rfl, HB7.out⟩
      ·have d4 : decide (x ≤ rd l1 q) = false := decide_eq_false c4
       have Hq := Aside0.mk hq
       have Hhi := Aside0.mk (show q.toNat = m - 1 by omega)
       clear hq
       go_quiet (fail)
       have hcf := containsFunc_calls 66 #[.pointer (some ⟨w.heap.size, 0, none⟩), .pointer (some ⟨gb, 0, none⟩)] (fun v => conf (rd_T82 l0 v) (rd_T82 l0 x)) (some ad) c1 (l1.take m) (w6.drewN nq) (Kd.C_take (Kd.C_drewN (Kd.C_below Hr1.out HB6.out) nq) hm) enter_feasible1 (fun v W hv hW => feasible1_calls v x W w.heap.size gb A0 c0 l0 ((hW.cell (p := ⟨w.heap.size, 0, none⟩) (World.block_lt_of_cell? w6 _ hcL)).trans hcL) ((hW.cell (p := ⟨gb, 0, none⟩) (World.block_lt_of_cell? w6 _ hcz0)).trans hcz0) (Kd.C_below Hr0.out ((pw_below_drewN HB6.out nq).trans (hW.mono (pw_below_drewN HB6.out nq).size))) (hV.out v hv).1 (hV.out v hv).2 (by omega) (by omega))
       have hlen : (l1.take m).length = m := by rw [List.length_take]; omega
       rw [hlen] at hcf
       have hnext : feasP l0 [] l1 = if (l1.take m).any (fun v => conf (rd_T82 l0 v) (rd_T82 l0 x)) then false else feasP l0 (l1.take (m + 1)) (l1.drop (m + 1)) := by
        rw [Hstep.out, Hts.out]
        have hlast : (l1.take m).getLast? = some (rd l1 q) := by
         rw [List.getLast?_eq_getElem?, List.length_take, Nat.min_eq_left hm, List.getElem?_take_of_lt (by omega), List.getElem?_eq_getElem (by omega)]
         simp [rd, Hhi.out, List.getD, show m - 1 < l1.length by omega]
        simp only [feasP, hlast]
        rw [if_neg (by simp [p1, c2, c4])]
        rfl
       have hv' : ∀ v ∈ l1.take (m + 1), 0 ≤ v ∧ v < l0.length := by
        rw [Hts.out]
        intro v hv
        rcases List.mem_append.1 hv with h | h
        ·exact hV.out v h
        ·rw [List.mem_singleton] at h; subst h; omega
       have hB7 := pw_below_drewN HB6.out nq
       have hL7 : (w6.drewN nq).heap[w.heap.size]? = some (.cells #[.slice A0 l0.length c0] 40) := HL6.out
       have Hcf := Aside0.mk hcf
       have Hnext := Aside0.mk hnext
       have Hv' := Aside0.mk hv'
       have HB7 := Aside0.mk hB7
       have HL7 := Aside0.mk hL7
       have hmc : m ≤ c1 := by omega
       have hmc' : (m : Int) ≤ (c1 : Int) := by omega
       clear hcf hnext hv' hB7 hL7 hlen Hstep Hd Hts HB6 HL6 hcz0 hcL hcell2 hw1 hi0 hi1 d4 c4 d1 d2 p1 c2
       generalize w6.drewN nq = w7 at *
       cases hany : (l1.take m).any (fun v => conf (rd_T82 l0 v) (rd_T82 l0 x))
       all_goals
        rw [hany] at Hcf Hnext
        clear hany
        go_wp2_with fail
        refine Hcf.out.mono ?_
        rintro e w8 ⟨rfl, hb8⟩
        have HB8 := Aside0.mk (HB7.out.trans (hb8.mono HB7.out.size))
        have HL8 := Aside0.mk ((hb8.block _ (blk_lt HL7.out)).trans HL7.out)
        clear hb8 Hcf HB7 HL7
        go_wp2
       ·go_roundw
        case rel => exact ⟨m + 1, by omega, by go_num, ⟨by rw [Hnext.out]; rfl⟩, Hv', ⟨HL8.out⟩, ⟨HB8.out⟩⟩
        case measure => simp [intOf]; omega
       ·go_ret
        exact ⟨by rw [Hnext.out]; rfl, HB8.out⟩
  ·obtain rfl : m = l1.length := by omega
   rw [List.drop_length] at hF
   have hF' : feasP l0 [] l1 = true := hF.out.trans (by simp [feasP])
   have HF' := Aside0.mk hF'
   clear hF hF' hlt
   go_wp2
   go_ret
   exact ⟨by rw [HF'.out]; rfl, hB.out⟩
end Go.Proofs.Ytdamibblnjeooaa.H

/- proof.search: the walk. It gives prices in bounds; it says true only if the bound is at most the value, and surely if the bound with prices 0 is. -/
namespace Go.Proofs.Ytdamibblnjeooaa.H
open Go.RowKit Go.Proofs.YtdamibblnjeooaaW.PrintWords Go.Proofs.YtdamibblnjeooaaW.PrintLast Go.Proofs.YtdamibblnjeooaaW.PrintMore
set_option linter.unusedVariables false
set_option linter.unusedSimpArgs false
attribute [local go_sem] max2_int min2_int max_two min_two max_three min_three max_four min_four
theorem bound9_at (A0 : Option Addr) (c0 : Nat) (l : List S82) (A1 : Option Addr) (c1 : Nat) (dec : List Int) (A2 : Option Addr) (c2 n : Nat) (prices : List Int) (w : World)
  (hr0 : Kd.C k82 w A0 l.length l) (hr1 : Kd.C (Kd.int .i64) w A1 dec.length dec) (hr2 : Kd.C (Kd.int .i64) w A2 n prices) (hn : prices.length = n)
  (hl10 : l.length ≤ 10) (hdl : dec.length = l.length) (hpl : n ≤ 8) (hbb : ∀ b ∈ l, (1 ≤ b.f1 ∧ b.f1 ≤ 1099511627776) ∧ b.f2.length ≤ 8 ∧ ∀ k ∈ b.f2, 0 ≤ k ∧ k < (n : Int)) (hpr : ∀ x ∈ prices, 0 ≤ x ∧ x ≤ 1099511627776) :
  Calls Try.prog 72 #[.slice A0 l.length c0, .slice A1 dec.length c1, .slice A2 n c2] w fun e w' => e = .returned (.int .i64 (boundD l dec prices)) ∧ Below w.heap.size w w' := by
 subst hn
 exact bound9_calls A0 c0 l A1 c1 dec A2 c2 prices w hr0 hr1 hr2 hl10 hdl hpl hbb hpr
/-- The prices' row stands in W. -/
structure SSt (w : World) (g cap n : Nat) (ps : List Int) (W : World) : Prop where
 r : (Kd.int .i64).R 3 W w.heap.size (fun _ => True) (.slice (some ⟨g, 0, none⟩) n cap) ps
 b : Below w.heap.size w W
 len : ps.length = n
 rg : ∀ x ∈ ps, 0 ≤ x ∧ x ≤ 1099511627776
 hg : w.heap.size ≤ g
section
variable {w : World} {g cap n : Nat} {ps : List Int} {W W' : World}
theorem SSt.step (h : SSt w g cap n ps W) (hb : Below W.heap.size W W') : SSt w g cap n ps W' :=
 ⟨Kd.R_below h.r hb, h.b.trans (hb.mono h.b.size), h.len, h.rg, h.hg⟩
theorem SSt.put (h : SSt w g cap n ps W) (i : Int) (x : Int) (hx : 0 ≤ x ∧ x ≤ 1099511627776) : SSt w g cap n (ps.set i.toNat x) (W.setCell ⟨g, i.toNat, none⟩ (.int .i64 x)) :=
 ⟨Kd.R_putn h.r i x, below_set h.b h.hg, by rw [List.length_set]; exact h.len, fun y hy => by
  rcases List.mem_or_eq_of_mem_set hy with h1 | h1
  ·exact h.rg y h1
  ·subst h1; exact hx, h.hg⟩
theorem SSt.cell (h : SSt w g cap n ps W) (i : Int) (h0 : 0 ≤ i) (h1 : i < n) : W.cell? ⟨g, i.toNat, none⟩ = some (.int .i64 (rd ps i)) ∧ W.frozen? ⟨g, i.toNat, none⟩ = false := Kd.R_celln 0 h.r i h0 h1
theorem SSt.C (h : SSt w g cap n ps W) : Kd.C (Kd.int .i64) W (some ⟨g, 0, none⟩) n ps := by
 obtain ⟨h1, _, h2⟩ := Kd.R_reads' h.r
 rw [h1]
 exact h2
theorem SSt.lt (h : SSt w g cap n ps W) (hn : 0 < n) : g < W.heap.size := World.block_lt_of_cell? W _ (h.cell 0 (by omega) (by omega)).1
theorem SSt.mem (h : SSt w g cap n ps W) (i : Int) (h0 : 0 ≤ i) (h1 : i < n) : 0 ≤ rd ps i ∧ rd ps i ≤ 1099511627776 := by
 have hl := h.len
 refine h.rg _ ?_
 have : i.toNat < ps.length := by omega
 simp [rd, List.getD, this]
end
theorem set_back (ps : List Int) (i : Nat) (x : Int) (hi : i < ps.length) : (ps.set i x).set i (rd ps (i : Int)) = ps := by
 rw [List.set_set]
 apply List.ext_getElem
 ·simp
 ·intro j h1 h2
  rw [List.getElem_set]
  split
  ·rename_i e; subst e; simp [rd, List.getD, hi]
  ·rfl
set_option maxHeartbeats 8000000 in
set_option maxRecDepth 100000 in
theorem search9_calls (A0 : Option Addr) (c0 : Nat) (l : List S82) (A1 : Option Addr) (c1 : Nat) (dec : List Int) (n : Nat) (value : Int) (w : World)
  (hr0 : Kd.C k82 w A0 l.length l) (hr1 : Kd.C (Kd.int .i64) w A1 dec.length dec)
  (hl10 : l.length ≤ 10) (hdl : dec.length = l.length) (hn1 : 1 ≤ n) (hn8 : n ≤ 8) (hbb : ∀ b ∈ l, (1 ≤ b.f1 ∧ b.f1 ≤ 1099511627776) ∧ b.f2.length ≤ 8 ∧ ∀ k ∈ b.f2, 0 ≤ k ∧ k < (n : Int)) :
  Calls Try.prog 63 #[.int .i64 (n : Int), .slice A0 l.length c0, .slice A1 dec.length c1, .int .i64 value] w fun e w' => ∃ (v : Value) (ps : List Int) (ok : Bool), e = .returned (.tuple #[v, .bool ok]) ∧ ps.length = n ∧ (∀ x ∈ ps, 0 ≤ x ∧ x ≤ 1099511627776) ∧ (ok = true → boundD l dec ps ≤ value) ∧ (boundD l dec (List.replicate n 0) ≤ value → ok = true) ∧ (Kd.int .i64).R 3 w' w.heap.size (fun _ => True) v ps ∧ Below w.heap.size w w' := by
 obtain ⟨Q, hQ⟩ : ∃ Q : Prop, Q = (boundD l dec (List.replicate n 0) ≤ value) := ⟨_, rfl⟩
 have HQ := Aside0.mk hQ
 have Hdl := Aside0.mk hdl
 have Hr0 := Aside0.mk hr0
 have Hr1 := Aside0.mk hr1
 have Hbb := Aside0.mk hbb
 have hbd : ∀ (g cap : Nat) (ps : List Int) (W : World), SSt w g cap n ps W → Calls Try.prog 72 #[.slice A0 l.length c0, .slice A1 dec.length c1, .slice (some ⟨g, 0, none⟩) n cap] W fun e w' => e = .returned (.int .i64 (boundD l dec ps)) ∧ Below W.heap.size W w' := fun g cap ps W hs =>
  bound9_at A0 c0 l A1 c1 dec _ cap n ps W (Kd.C_below hr0 hs.b) (Kd.C_below hr1 hs.b) hs.C hs.len hl10 hdl hn8 hbb hs.rg
 have Hbd := Aside0.mk hbd
 rw [← hQ]
 clear hQ hdl hr0 hr1 hbb hbd
 have hnI : (0 : Int) ≤ (n : Int) := by omega
 go_enter Try.func63, Try.ntmps63
 go_upto_region 2 with ((with_reducible refine gate_dst (N := 23) rfl ?_); refine Kd.R_make (Kd.int .i64) (w0 := w) w.heap.size 3 rfl (N := 23) rfl 22 _ _ rfl (n : Int) rfl rfl Try.underlying22 (.int .i64 0) 8 info3 rfl (by decide) (by omega) (0 : Int) (ok := fun _ => True) (okp := fun _ => True) rfl (fun _ hk => hk) trivial (by omega) (by omega) (Below.refl _ _) (Nat.le_refl _) ?_; intro v1 w1 ho1 hb1 hg1 hat1; clear hg1 hat1; rw [Int.toNat_natCast] at ho1; obtain ⟨g, cap, ev1, hg0, hg1, hgc⟩ := Kd.R_form ho1 (by rw [List.length_replicate]; omega); rw [List.length_replicate] at ev1; subst ev1)
 have hst1 : SSt w g cap n (List.replicate n 0) w1 := ⟨ho1, hb1, List.length_replicate .., fun x hx => by have := List.eq_of_mem_replicate hx; omega, hg0⟩
 have Hst1 := Aside0.mk hst1
 clear hst1 ho1 hb1 hg0 hg1 hgc
 go_wp2
 go_loopw [11, 26] (fun s i wr => ∃ (m : Nat) (st : Int), m ≤ l.length ∧ s = .int .i64 st ∧ i = .int .i64 m ∧ (1 ≤ st ∧ st ≤ 1099511627776) ∧ Aside0 (SSt w g cap n (List.replicate n 0) wr)) (fun _ i _ => l.length - (intOf i).toNat)
 case atStart => exact ⟨0, 1, by omega, rfl, rfl, by omega, Hst1⟩
 case round =>
  clear Hst1
  obtain ⟨m, st, hm, rfl, rfl, hst, Hs⟩ := hrel
  by_cases hlt : m < l.length
  ·have hmI : (m : Int) < (l.length : Int) := by omega
   have t1 : decide ((m : Int) < (l.length : Int)) = true := decide_eq_true hmI
   have t2 : decide (m < l.length) = true := decide_eq_true hlt
   obtain ⟨ad, A3, c3, e, g0, g1, g2, gl2, gk2⟩ := at_T82 (Kd.C_below Hr0.out Hs.out.b) (m : Int) (by omega) (by omega)
   subst e
   rw [Int.toNat_natCast] at g0 g1 g2
   have hbm := (Hbb.out (rd_T82 l (m : Int)) (by simp [rd_T82, List.getD, hlt])).1
   generalize rd_T82 l (m : Int) = bd at *
   have hwm : IntKind.i64.wrap ((m : Int) + 1) = (m : Int) + 1 := IntWalk.i64_in _ (by omega)
   go_upto_region 6 with (fail)
   obtain ⟨w5, hw5⟩ : ∃ w5, w5 = wr.alloc (.cells #[.int .i64 bd.f0, .int .i64 bd.f1, .slice A3 bd.f2.length c3] 82) := ⟨_, rfl⟩
   obtain ⟨gx, hgx⟩ : ∃ gx, gx = wr.heap.size := ⟨_, rfl⟩
   have hy1 : w5.cell? ⟨gx, 1, none⟩ = some (.int .i64 bd.f1) := by rw [hw5, hgx]; exact (blk_cell (heap_alloc_new wr _) 1).trans rfl
   have Hs5 := Aside0.mk (Hs.out.step (show Below wr.heap.size wr w5 by rw [hw5]; exact (Below.refl _ wr).alloc (Nat.le_refl _) _))
   rw [← hw5]
   rw [← hgx]
   clear hw5 hgx Hs g0 g1 g2 gl2 gk2
   go_wp2
   go_roundw
   case rel => exact ⟨m + 1, if st < bd.f1 then bd.f1 else st, by omega, rfl, by go_num, by split <;> omega, Hs5⟩
   case measure => simp [intOf]; omega
  ·obtain rfl : m = l.length := by omega
   have t1 : decide ((l.length : Int) < (l.length : Int)) = false := decide_eq_false (by omega)
   have t2 : decide (l.length < l.length) = false := decide_eq_false (by omega)
   go_wp2
   clear t1 t2 hm
   go_loopw [11] (fun s wr => ∃ (st : Int) (ps : List Int), s = .int .i64 st ∧ (0 ≤ st ∧ st ≤ 1099511627776) ∧ Aside0 (SSt w g cap n ps wr) ∧ Aside0 (Q → ps = List.replicate n 0 ∧ 1 ≤ st)) (fun s _ => (intOf s).toNat)
   case atStart => exact ⟨st, _, rfl, by omega, Hs, ⟨fun _ => ⟨rfl, hst.1⟩⟩⟩
   case round =>
    clear Hs hst
    obtain ⟨st, ps, rfl, hst, Hs, Hq⟩ := hrel
    by_cases hpos : 0 < st
    ·have t1 : decide (0 < st) = true := decide_eq_true hpos
     have hq4 : IntKind.i64.wrap (st + 2) = st + 2 := IntWalk.i64_in _ (by omega)
     have hdv : 0 ≤ Int.tdiv (st + 2) 4 ∧ Int.tdiv (st + 2) 4 < st := by
      rw [Int.tdiv_eq_ediv_of_nonneg (by omega)]
      omega
     have hwd : IntKind.i64.wrap (Int.tdiv (st + 2) 4) = Int.tdiv (st + 2) 4 := IntWalk.i64_in _ (by omega)
     go_wp2
     go_loopw [41] (fun j wr => ∃ (jn : Nat) (ps : List Int), jn ≤ n ∧ j = .int .i64 jn ∧ Aside0 (SSt w g cap n ps wr) ∧ Aside0 (Q → jn = 0 ∧ ps = List.replicate n 0)) (fun j _ => n - (intOf j).toNat)
     case atStart => exact ⟨0, ps, by omega, rfl, Hs, ⟨fun h => ⟨rfl, (Hq.out h).1⟩⟩⟩
     case round =>
      clear Hs Hq
      clear ps
      obtain ⟨jn, ps, hj, rfl, Hs, Hq⟩ := hrel
      by_cases hlj : jn < n
      ·have s1 : decide ((jn : Int) < (n : Int)) = true := decide_eq_true (by omega)
       have s2 : decide (jn < n) = true := decide_eq_true hlj
       have hwj : IntKind.i64.wrap ((jn : Int) + 1) = (jn : Int) + 1 := IntWalk.i64_in _ (by omega)
       have Hcall := Aside0.mk (Hbd.out g cap ps wr Hs.out)
       obtain ⟨b0, hb0⟩ : ∃ b0, b0 = boundD l dec ps := ⟨_, rfl⟩
       rw [← hb0] at Hcall
       go_wp2_with fail
       refine Hcall.out.mono ?_
       rintro e w5 ⟨rfl, hb5⟩
       have Hs5 := Aside0.mk (Hs.out.step hb5)
       clear hb5 Hcall Hs
       by_cases hle : b0 ≤ value
       ·have d1 : decide (b0 ≤ value) = true := decide_eq_true hle
        have Hb0 := Aside0.mk hb0
        have Hle := Aside0.mk hle
        clear hle hb0
        go_wp2
        go_ret2
        exact ⟨_, ps, true, rfl, Hs5.out.len, Hs5.out.rg, fun _ => by rw [← Hb0.out]; exact Hle.out, fun _ => rfl, by have := Hs5.out.r; exact this, Hs5.out.b⟩
       ·have d1 : decide (b0 ≤ value) = false := decide_eq_false hle
        have Hnq : Aside0 (¬ Q) := ⟨fun h => by
         have h1 := (Hq.out h).2
         have h2 := HQ.out
         rw [h2, ← h1, ← hb0] at h
         exact hle h⟩
        clear hle hb0 Hq
        go_wp2
        go_loopw [14, 15, 16, 53] (fun le av uv kv wr => ∃ (lv a u : Int) (kn : Nat), kn ≤ n ∧ le = .int .i64 lv ∧ av = .int .i64 a ∧ uv = .int .i64 u ∧ kv = .int .i64 kn ∧ Aside0 (SSt w g cap n ps wr) ∧ (-1 ≤ a ∧ a < (n : Int)) ∧ Aside0 (0 ≤ a → 0 ≤ rd ps a + u ∧ rd ps a + u ≤ 1099511627776)) (fun _ _ _ kv _ => n - (intOf kv).toNat)
        case atStart => exact ⟨b0, -1, 0, 0, by omega, rfl, rfl, rfl, rfl, Hs5, by omega, ⟨fun h => by omega⟩⟩
        case round =>
         clear Hs5
         obtain ⟨lv, a, u, kn, hk, rfl, rfl, rfl, rfl, Hs, ha, Ha⟩ := hrel
         by_cases hlk : kn < n
         ·have r1 : decide ((kn : Int) < (n : Int)) = true := decide_eq_true (by omega)
          have r2 : decide (kn < n) = true := decide_eq_true hlk
          have hwk : IntKind.i64.wrap ((kn : Int) + 1) = (kn : Int) + 1 := IntWalk.i64_in _ (by omega)
          have hwn : IntKind.i64.wrap (-st) = -st := IntWalk.i64_in _ (by omega)
          go_upto_region 19 with (fail)
          obtain ⟨w6, hw6⟩ : ∃ w6, w6 = wr.alloc (.cells #[.int .i64 st, .int .i64 (-st)] 3) := ⟨_, rfl⟩
          obtain ⟨gd, hgd⟩ : ∃ gd, gd = wr.heap.size := ⟨_, rfl⟩
          have Hs6 := Aside0.mk (Hs.out.step (show Below wr.heap.size wr w6 by rw [hw6]; exact (Below.refl _ wr).alloc (Nat.le_refl _) _))
          have Hbk6 : Aside0 (w6.heap[gd]? = some (.cells #[.int .i64 st, .int .i64 (-st)] 3 (0, 0))) := ⟨by rw [hw6, hgd]; exact heap_alloc_new wr _⟩
          have Hlt : Aside0 (g < gd) := ⟨by rw [hgd]; exact Hs.out.lt (by omega)⟩
          rw [← hw6]
          rw [← hgd]
          clear hw6 hgd Hs
          go_loopw [14, 15, 16, 61] (fun le av uv dv wr => ∃ (lv a u : Int) (dn : Nat), dn ≤ 2 ∧ le = .int .i64 lv ∧ av = .int .i64 a ∧ uv = .int .i64 u ∧ dv = .int .i64 dn ∧ Aside0 (SSt w g cap n ps wr) ∧ Aside0 (wr.heap[gd]? = some (.cells #[.int .i64 st, .int .i64 (-st)] 3 (0, 0))) ∧ (-1 ≤ a ∧ a < (n : Int)) ∧ Aside0 (0 ≤ a → 0 ≤ rd ps a + u ∧ rd ps a + u ≤ 1099511627776)) (fun _ _ _ dv _ => 2 - (intOf dv).toNat)
          case atStart => exact ⟨lv, a, u, 0, by omega, rfl, rfl, rfl, rfl, Hs6, Hbk6, ha, Ha⟩
          case round =>
           clear Hs6 Hbk6 ha Ha
           obtain ⟨lv, a, u, dn, hdn, rfl, rfl, rfl, rfl, Hs, Hbk, ha, Ha⟩ := hrel
           by_cases hld : dn < 2
           ·have q1 : decide ((dn : Int) < 2) = true := decide_eq_true (by omega)
            have q2 : decide (dn < 2) = true := decide_eq_true hld
            have q3 : (dn : Int) < 2 := by omega
            have hwd1 : IntKind.i64.wrap ((dn : Int) + 1) = (dn : Int) + 1 := IntWalk.i64_in _ (by omega)
            obtain ⟨d, hd, hcd⟩ : ∃ d, (d = st ∨ d = -st) ∧ wr.cell? ⟨gd, dn, none⟩ = some (.int .i64 d) := by
             rcases (by omega : dn = 0 ∨ dn = 1) with rfl | rfl
             ·exact ⟨st, .inl rfl, (blk_cell Hbk.out 0).trans rfl⟩
             ·exact ⟨-st, .inr rfl, (blk_cell Hbk.out 1).trans rfl⟩
            obtain ⟨hcv, hcf⟩ := Hs.out.cell (kn : Int) (by omega) (by omega)
            have hx := Hs.out.mem (kn : Int) (by omega) (by omega)
            rw [Int.toNat_natCast] at hcv hcf
            obtain ⟨x, hxe⟩ : ∃ x, x = rd ps (kn : Int) := ⟨_, rfl⟩
            have Hlen := Aside0.mk Hs.out.len
            rw [← hxe] at hcv hx
            have Hx := Aside0.mk hxe
            have hkI : (kn : Int) < (n : Int) := by omega
            have hwp : IntKind.i64.wrap (x + d) = x + d := IntWalk.i64_in _ (by omega)
            clear hxe
            by_cases p0 : 0 ≤ x + d
            ·have e0 : decide (0 ≤ x + d) = true := decide_eq_true p0
             by_cases p1 : x + d ≤ 1099511627776
             ·have e1 : decide (x + d ≤ 1099511627776) = true := decide_eq_true p1
              go_upto_region 24 with (fail)
              obtain ⟨w7, hw7⟩ : ∃ w7, w7 = wr.setCell ⟨g, kn, none⟩ (.int .i64 (x + d)) := ⟨_, rfl⟩
              have Hs7 : Aside0 (SSt w g cap n (ps.set kn (x + d)) w7) := ⟨by rw [hw7]; have h1 := Hs.out.put (kn : Int) (x + d) ⟨p0, p1⟩; rw [Int.toNat_natCast] at h1; exact h1⟩
              have Hbk7 := Aside0.mk (show w7.heap[gd]? = some (.cells #[.int .i64 st, .int .i64 (-st)] 3 (0, 0)) by rw [hw7]; exact (Below.heap_setCell wr ⟨g, kn, none⟩ _ _ (by have := Hlt.out; show gd ≠ g; omega)).trans Hbk.out)
              have Hxd : Aside0 (0 ≤ x + d ∧ x + d ≤ 1099511627776) := ⟨⟨p0, p1⟩⟩
              rw [← hw7]
              clear hw7 Hs Hbk hcd hcv hcf p0 p1 e0 e1
              have Hcall := Aside0.mk (Hbd.out g cap _ w7 Hs7.out)
              obtain ⟨b1, hb1⟩ : ∃ b1, b1 = boundD l dec (ps.set kn (x + d)) := ⟨_, rfl⟩
              rw [← hb1] at Hcall
              clear hb1
              go_wp2_with fail
              refine Hcall.out.mono ?_
              rintro e w8 ⟨rfl, hb8⟩
              have Hs8 := Aside0.mk (Hs7.out.step hb8)
              have Hbk8 := Aside0.mk (blk_below Hbk7.out hb8)
              obtain ⟨hcv8, hcf8⟩ := Hs8.out.cell (kn : Int) (by omega) (by omega)
              rw [Int.toNat_natCast] at hcv8 hcf8
              have hws : IntKind.i64.wrap (x + d - d) = x := by rw [show x + d - d = x by omega]; exact IntWalk.i64_in _ (by omega)
              have hws2 : IntKind.i64.wrap x = x := IntWalk.i64_in _ (by omega)
              clear hb8 Hcall Hs7 Hbk7
              by_cases hbl : b1 < lv
              ·have e2 : decide (b1 < lv) = true := decide_eq_true hbl
               go_upto_region 28 with (fail)
               obtain ⟨w9, hw9⟩ : ∃ w9, w9 = w8.setCell ⟨g, kn, none⟩ (.int .i64 x) := ⟨_, rfl⟩
               have Hs9 : Aside0 (SSt w g cap n ps w9) := ⟨by
                have h1 := Hs8.out.put (kn : Int) x hx
                rw [Int.toNat_natCast] at h1
                rw [Hx.out, set_back ps kn _ (by have := Hlen.out; omega), ← Hx.out, ← hw9] at h1
                exact h1⟩
               have Hbk9 := Aside0.mk (show w9.heap[gd]? = some (.cells #[.int .i64 st, .int .i64 (-st)] 3 (0, 0)) by rw [hw9]; exact (Below.heap_setCell w8 ⟨g, kn, none⟩ _ _ (by have := Hlt.out; show gd ≠ g; omega)).trans Hbk8.out)
               rw [← hw9]
               clear hw9 Hs8 Hbk8 hcv8 hcf8
               go_wp2
               go_roundw
               case rel => exact ⟨b1, kn, d, dn + 1, by omega, rfl, rfl, rfl, by go_num, Hs9, Hbk9, by omega, ⟨fun _ => by rw [← Hx.out]; exact Hxd.out⟩⟩
               case measure => simp [intOf]; omega
              ·have e2 : decide (b1 < lv) = false := decide_eq_false hbl
               go_upto_region 28 with (fail)
               obtain ⟨w9, hw9⟩ : ∃ w9, w9 = w8.setCell ⟨g, kn, none⟩ (.int .i64 x) := ⟨_, rfl⟩
               have Hs9 : Aside0 (SSt w g cap n ps w9) := ⟨by
                have h1 := Hs8.out.put (kn : Int) x hx
                rw [Int.toNat_natCast] at h1
                rw [Hx.out, set_back ps kn _ (by have := Hlen.out; omega), ← Hx.out, ← hw9] at h1
                exact h1⟩
               have Hbk9 := Aside0.mk (show w9.heap[gd]? = some (.cells #[.int .i64 st, .int .i64 (-st)] 3 (0, 0)) by rw [hw9]; exact (Below.heap_setCell w8 ⟨g, kn, none⟩ _ _ (by have := Hlt.out; show gd ≠ g; omega)).trans Hbk8.out)
               rw [← hw9]
               clear hw9 Hs8 Hbk8 hcv8 hcf8
               go_wp2
               go_roundw
               case rel => exact ⟨lv, a, u, dn + 1, by omega, rfl, rfl, rfl, by go_num, Hs9, Hbk9, ha, Ha⟩
               case measure => simp [intOf]; omega
             ·have e1 : decide (x + d ≤ 1099511627776) = false := decide_eq_false p1
              go_wp2
              go_roundw
              case rel => exact ⟨lv, a, u, dn + 1, by omega, rfl, rfl, rfl, by go_num, Hs, Hbk, ha, Ha⟩
              case measure => simp [intOf]; omega
            ·have e0 : decide (0 ≤ x + d) = false := decide_eq_false p0
             go_wp2
             go_roundw
             case rel => exact ⟨lv, a, u, dn + 1, by omega, rfl, rfl, rfl, by go_num, Hs, Hbk, ha, Ha⟩
             case measure => simp [intOf]; omega
           ·obtain rfl : dn = 2 := by omega
            go_wp2
            go_roundw
            case rel => exact ⟨lv, a, u, kn + 1, by omega, rfl, rfl, rfl, by go_num, Hs, ha, Ha⟩
            case measure => simp [intOf]; omega
         ·obtain rfl : kn = n := by omega
          have r1 : decide ((kn : Int) < (kn : Int)) = false := decide_eq_false (by omega)
          have r2 : decide (kn < kn) = false := decide_eq_false (by omega)
          by_cases hat : a < 0
          ·have e1 : decide (a < 0) = true := decide_eq_true hat
           go_wp2
           go_roundw
           case rel => exact ⟨Int.tdiv (st + 2) 4, ps, rfl, by omega, Hs, ⟨fun h => (Hnq.out h).elim⟩⟩
           case measure => simp [intOf]; omega
          ·have e1 : decide (a < 0) = false := decide_eq_false hat
           have ha0 : 0 ≤ a := by omega
           have haN : a < (kn : Int) := ha.2
           obtain ⟨hcv, hcf⟩ := Hs.out.cell a ha0 haN
           have hau := Ha.out ha0
           have hwau : IntKind.i64.wrap (rd ps a + u) = rd ps a + u := IntWalk.i64_in _ (by omega)
           go_upto_region 32 with (fail)
           obtain ⟨w7, hw7⟩ : ∃ w7, w7 = wr.setCell ⟨g, a.toNat, none⟩ (.int .i64 (rd ps a + u)) := ⟨_, rfl⟩
           have Hs7 : Aside0 (SSt w g cap kn (ps.set a.toNat (rd ps a + u)) w7) := ⟨by rw [hw7]; exact Hs.out.put a _ hau⟩
           rw [← hw7]
           clear hw7 Hs hcv hcf
           go_wp2
           go_roundw
           case rel => exact ⟨jn + 1, _, by omega, by go_num, Hs7, ⟨fun h => (Hnq.out h).elim⟩⟩
           case measure => simp [intOf]; omega
      ·obtain rfl : jn = n := by omega
       have s1 : decide ((jn : Int) < (jn : Int)) = false := decide_eq_false (by omega)
       have s2 : decide (jn < jn) = false := decide_eq_false (by omega)
       go_wp2
       go_roundw
       case rel => exact ⟨Int.tdiv (st + 2) 4, ps, rfl, by omega, Hs, ⟨fun h => by have := (Hq.out h).1; omega⟩⟩
       case measure => simp [intOf]; omega
    ·have t1 : decide (0 < st) = false := decide_eq_false hpos
     have Hnq : Aside0 (¬ Q) := ⟨fun h => hpos (by have := (Hq.out h).2; omega)⟩
     have Hcall := Aside0.mk (Hbd.out g cap ps wr Hs.out)
     obtain ⟨b0, hb0⟩ : ∃ b0, b0 = boundD l dec ps := ⟨_, rfl⟩
     have Hb0 := Aside0.mk hb0
     rw [← hb0] at Hcall
     clear hb0
     go_wp2_with fail
     refine Hcall.out.mono ?_
     rintro e w5 ⟨rfl, hb5⟩
     have Hs5 := Aside0.mk (Hs.out.step hb5)
     clear hb5 Hcall Hs
     go_wp2
     go_ret2
     exact ⟨_, ps, decide (b0 ≤ value), rfl, Hs5.out.len, Hs5.out.rg, fun h => by rw [← Hb0.out]; exact of_decide_eq_true h, fun h => (Hnq.out h).elim, Hs5.out.r, Hs5.out.b⟩
end Go.Proofs.Ytdamibblnjeooaa.H

/- proof.Make: the recursion that grows the certificate. -/
namespace Go.Proofs.Ytdamibblnjeooaa.H
open Go.RowKit Go.Proofs.YtdamibblnjeooaaW.PrintWords Go.Proofs.YtdamibblnjeooaaW.PrintLast Go.Proofs.YtdamibblnjeooaaW.PrintMore
set_option linter.unusedVariables false
set_option linter.unusedSimpArgs false
/-- A tree of nodes stands in places i to j - 1 of a certificate, from decisions dec on. -/
inductive GTree (n : Nat) (l : List S82) (v : Int) (ns : List S55) : Nat → Nat → List Int → Prop
 | leaf (i : Nat) (dec ps : List Int) (h : ns[i]? = some ⟨-1, 0, 0, ps⟩) (hl : ps.length = n) (hr : ∀ x ∈ ps, 0 ≤ x ∧ x ≤ 1099511627776) (hb : boundD l dec ps ≤ v) : GTree n l v ns i (i + 1) dec
 | node (i m j b : Nat) (dec : List Int) (h : ns[i]? = some ⟨(b : Int), (i : Int) + 1, (m : Int), []⟩) (hb : b < l.length) (hp : possP l dec b = true) (h1 : GTree n l v ns (i + 1) m (dec.set b 1)) (h2 : GTree n l v ns m j (dec.set b 2)) : GTree n l v ns i j dec
theorem GTree.lt {n : Nat} {l : List S82} {v : Int} {ns : List S55} {i j : Nat} {dec : List Int} (h : GTree n l v ns i j dec) : i < j := by
 induction h with
 | leaf => omega
 | node => omega
theorem GTree.congr {n : Nat} {l : List S82} {v : Int} {ns ns' : List S55} {i j : Nat} {dec : List Int} (h : GTree n l v ns i j dec) : (∀ k, i ≤ k → k < j → ns'[k]? = ns[k]?) → GTree n l v ns' i j dec := by
 induction h with
 | leaf i dec ps h hl hr hb => exact fun he => .leaf i dec ps ((he i (Nat.le_refl _) (by omega)).trans h) hl hr hb
 | node i m j b dec h hb hp h1 h2 ih1 ih2 =>
  intro he
  have := h1.lt
  have := h2.lt
  exact .node i m j b dec ((he i (Nat.le_refl _) (by omega)).trans h) hb hp (ih1 (fun k a c => he k (by omega) (by omega))) (ih2 (fun k a c => he k (by omega) c))
theorem poss_zero {l : List S82} {dec : List Int} {b : Nat} (h : possP l dec b = true) : dec.getD b 0 = 0 := by
 unfold possP at h
 simp only [Bool.and_eq_true, decide_eq_true_eq] at h
 exact h.1
theorem count_set0 (d : Int) (hd : d ≠ 0) : ∀ (dec : List Int) (b : Nat), b < dec.length → dec.getD b 0 = 0 → (dec.set b d).count 0 + 1 = dec.count 0
 | [], b, h, _ => absurd h (by simp)
 | x :: dec, 0, _, h0 => by
  have : x = 0 := h0
  subst this
  rw [List.set_cons_zero, List.count_cons_self, List.count_cons_of_ne (by simpa using hd)]
 | x :: dec, b + 1, h, h0 => by
  have ih := count_set0 d hd dec b (by simpa using h) (by simpa using h0)
  rw [List.set_cons_succ]
  by_cases hx : x = 0
  ·subst hx
   rw [List.count_cons_self, List.count_cons_self]
   omega
  ·rw [List.count_cons_of_ne (by simpa using hx), List.count_cons_of_ne (by simpa using hx)]
   exact ih
theorem set_mid (ns more : List S55) (y z : S55) : (ns ++ [y] ++ more).set ns.length z = ns ++ [z] ++ more := by
 rw [List.append_assoc, List.set_append_right _ _ (Nat.le_refl _), Nat.sub_self, List.append_assoc]
 rfl
theorem tree_join {n : Nat} {l : List S82} {v : Int} {dec : List Int} {b : Nat} (ns more1 more2 : List S55) (y z : S55) (hb : b < l.length) (hp : possP l dec b = true)
  (hz : z = ⟨(b : Int), (ns.length : Int) + 1, ((ns ++ [y] ++ more1).length : Int), []⟩)
  (h1 : GTree n l v (ns ++ [y] ++ more1) (ns ++ [y]).length (ns ++ [y] ++ more1).length (dec.set b 1)) (h2 : GTree n l v (ns ++ [y] ++ more1 ++ more2) (ns ++ [y] ++ more1).length (ns ++ [y] ++ more1 ++ more2).length (dec.set b 2)) :
  GTree n l v (ns ++ (z :: (more1 ++ more2))) ns.length (ns ++ (z :: (more1 ++ more2))).length dec := by
 have e : ns ++ (z :: (more1 ++ more2)) = ns ++ [z] ++ more1 ++ more2 := by simp
 have e2 : ns ++ [y] ++ more1 ++ more2 = (ns ++ [y]) ++ (more1 ++ more2) := by simp
 have e3 : ns ++ (z :: (more1 ++ more2)) = (ns ++ [z]) ++ (more1 ++ more2) := by simp
 have hl : (ns ++ (z :: (more1 ++ more2))).length = (ns ++ [y] ++ more1 ++ more2).length := by rw [e2, e3]; simp
 have hg : ∀ k, ns.length + 1 ≤ k → (ns ++ (z :: (more1 ++ more2)))[k]? = (ns ++ [y] ++ more1 ++ more2)[k]? := fun k hk => by
  have a1 : (ns ++ [z]).length = ns.length + 1 := by simp
  have a2 : (ns ++ [y]).length = ns.length + 1 := by simp
  rw [e2, e3]
  exact (List.getElem?_append_right (by omega)).trans (by rw [a1, ← a2]; exact (List.getElem?_append_right (by omega)).symm)
 rw [hl]
 refine .node ns.length (ns ++ [y] ++ more1).length _ b dec ?_ hb hp ?_ ?_
 ·rw [List.getElem?_append_right (Nat.le_refl _), Nat.sub_self, hz]
  rfl
 ·rw [show (ns ++ [y]).length = ns.length + 1 by simp] at h1
  refine h1.congr (fun k a c => ?_)
  rw [hg k a, List.getElem?_append_left c]
 ·refine h2.congr (fun k a c => hg k ?_)
  simp only [List.length_append, List.length_singleton] at a
  omega
/-- A call of Make: what does not change. W1: the world in which the closure is called first. -/
structure MCx where
 n : Nat
 l : List S82
 v : Int
 A : Option Addr
 c : Nat
 w0 : World
 W1 : World
 Pb : Nat
 Nb : Nat
 Lb : Nat
 Vb : Nat
 Gb : Nat
 D : List Int → Prop
structure MOk (s : MCx) : Prop where
 read : Kd.C k82 s.w0 s.A s.l.length s.l
 l10 : s.l.length ≤ 10
 n1 : 1 ≤ s.n
 n8 : s.n ≤ 8
 bids : ∀ b ∈ s.l, (1 ≤ b.f1 ∧ b.f1 ≤ 1099511627776) ∧ b.f2.length ≤ 8 ∧ ∀ k ∈ b.f2, 0 ≤ k ∧ k < (s.n : Int)
 below : Below s.w0.heap.size s.w0 s.W1
 oP : s.w0.heap.size ≤ s.Pb ∧ s.Pb < s.W1.heap.size
 hN : s.W1.heap[s.Nb]? = some (.cells #[.int .i64 (s.n : Int)] 3 (0, 0))
 hL : s.W1.heap[s.Lb]? = some (.cells #[.slice s.A s.l.length s.c] 40 (0, 0))
 hV : s.W1.heap[s.Vb]? = some (.cells #[.int .i64 s.v] 3 (0, 0))
 hG : s.W1.heap[s.Gb]? = some (.cells #[.func (.func 62) #[] #[.pointer (some ⟨s.Pb, 0, none⟩), .pointer (some ⟨s.Nb, 0, none⟩), .pointer (some ⟨s.Lb, 0, none⟩), .pointer (some ⟨s.Vb, 0, none⟩), .pointer (some ⟨s.Gb, 0, none⟩)]] 114 (0, 0))
 ne : s.Nb ≠ s.Pb ∧ s.Lb ≠ s.Pb ∧ s.Vb ≠ s.Pb ∧ s.Gb ≠ s.Pb
 dlen : ∀ dec, s.D dec → dec.length = s.l.length
 dset : ∀ dec b, s.D dec → b < s.l.length → possP s.l dec b = true → s.D (dec.set b 1) ∧ s.D (dec.set b 2)
 dstop : ∀ dec, s.D dec → (∀ b, b < s.l.length → possP s.l dec b = false) → boundD s.l dec (List.replicate s.n 0) ≤ s.v
/-- How the certificate stands in W. -/
structure MSt (s : MCx) (W : World) (vs : Value) (ns : List S55) : Prop where
 os : W.os = s.W1.os
 tape : W.tape = s.W1.tape
 output : W.output = s.W1.output
 size : s.W1.heap.size ≤ W.heap.size
 fix : ∀ k, k < s.W1.heap.size → k ≠ s.Pb → W.heap[k]? = s.W1.heap[k]?
 hP : W.heap[s.Pb]? = some (.cells #[.int .i64 s.v, vs] 44 (0, 0))
 hN : Kd.N k55 55 W s.W1.heap.size (fun k => s.W1.heap.size ≤ k) vs ns
/-- The p-box and the list's own block alone have turned. -/
structure MKeep (s : MCx) (w : World) (vs : Value) (w' : World) (vs' : Value) : Prop where
 size : w.heap.size ≤ w'.heap.size
 block : ∀ k, k < w.heap.size → k ≠ s.Pb → some k ≠ vs.ownBlock → w'.heap[k]? = w.heap[k]?
 at_ : vs'.ownBlock = vs.ownBlock ∨ ∃ b, vs'.ownBlock = some b ∧ w.heap.size ≤ b
section
variable {s : MCx} {W W' : World} {vs v1 : Value} {ns ns1 : List S55}
theorem MKeep.refl (s : MCx) (W : World) (vs : Value) : MKeep s W vs W vs := ⟨Nat.le_refl _, fun _ _ _ _ => rfl, .inl rfl⟩
theorem MKeep.of_below (hb : Below W.heap.size W W') : MKeep s W vs W' vs := ⟨hb.size, fun k hk _ _ => hb.block k hk, .inl rfl⟩
theorem MKeep.trans {w w1 w2 : World} {v0 v1 v2 : Value} (h : MKeep s w v0 w1 v1) (h2 : MKeep s w1 v1 w2 v2) : MKeep s w v0 w2 v2 := by
 have hs := h.size
 refine ⟨Nat.le_trans h.size h2.size, fun k hk hp hn => ?_, ?_⟩
 ·refine (h2.block k (by omega) hp ?_).trans (h.block k hk hp hn)
  rcases h.at_ with e | ⟨b, e, hb⟩
  ·rw [e]; exact hn
  ·rw [e]; intro e2; injection e2 with e2; omega
 ·rcases h2.at_ with e | ⟨b, e, hb⟩
  ·rw [e]; exact h.at_
  ·exact .inr ⟨b, e, by omega⟩
theorem MKeep.keeps {w w1 : World} {v0 v1 : Value} (h : MKeep s w v0 w1 v1) {k : Nat} {o : Obj} (ho : w.heap[k]? = some o) (hp : k ≠ s.Pb) (hn : some k ≠ v0.ownBlock) : w1.heap[k]? = some o ∧ some k ≠ v1.ownBlock := by
 have hk := (Array.getElem?_eq_some_iff.1 ho).1
 refine ⟨(h.block k hk hp hn).trans ho, ?_⟩
 rcases h.at_ with e | ⟨b, e, hb⟩
 ·rw [e]; exact hn
 ·rw [e]; intro e2; injection e2 with e2; omega
theorem MSt.step (h : MSt s W vs ns) (hb : Below W.heap.size W W') (ok : MOk s) : MSt s W' vs ns := by
 have hz := h.size
 have hp := ok.oP.2
 exact ⟨hb.os.trans h.os, hb.tape.trans h.tape, hb.output.trans h.output, Nat.le_trans h.size hb.size, fun k hk hn => (hb.block k (by omega)).trans (h.fix k hk hn), (hb.block _ (by omega)).trans h.hP, Kd.N_below h.hN hb⟩
theorem MSt.below (h : MSt s W vs ns) (ok : MOk s) : Below s.w0.heap.size s.w0 W := by
 have hp := ok.oP
 have hz := ok.below.size
 exact ⟨h.os.trans ok.below.os, h.tape.trans ok.below.tape, h.output.trans ok.below.output, Nat.le_trans ok.below.size h.size, fun k hk => (h.fix k (by omega) (by omega)).trans (ok.below.block k hk)⟩
theorem MSt.cells (h : MSt s W vs ns) : W.cell? ⟨s.Pb, 0, none⟩ = some (.int .i64 s.v) ∧ W.cell? ⟨s.Pb, 1, none⟩ = some vs ∧ W.frozen? ⟨s.Pb, 0, none⟩ = false ∧ W.frozen? ⟨s.Pb, 1, none⟩ = false :=
 ⟨(blk_cell h.hP 0).trans rfl, (blk_cell h.hP 1).trans rfl, blk_frozen h.hP 0, blk_frozen h.hP 1⟩
theorem MSt.boxes (h : MSt s W vs ns) (ok : MOk s) : W.cell? ⟨s.Nb, 0, none⟩ = some (.int .i64 (s.n : Int)) ∧ W.cell? ⟨s.Lb, 0, none⟩ = some (.slice s.A s.l.length s.c) ∧ W.cell? ⟨s.Vb, 0, none⟩ = some (.int .i64 s.v) ∧ W.cell? ⟨s.Gb, 0, none⟩ = some (.func (.func 62) #[] #[.pointer (some ⟨s.Pb, 0, none⟩), .pointer (some ⟨s.Nb, 0, none⟩), .pointer (some ⟨s.Lb, 0, none⟩), .pointer (some ⟨s.Vb, 0, none⟩), .pointer (some ⟨s.Gb, 0, none⟩)]) := by
 obtain ⟨n1, n2, n3, n4⟩ := ok.ne
 have a1 := (h.fix _ (Array.getElem?_eq_some_iff.1 ok.hN).1 n1).trans ok.hN
 have a2 := (h.fix _ (Array.getElem?_eq_some_iff.1 ok.hL).1 n2).trans ok.hL
 have a3 := (h.fix _ (Array.getElem?_eq_some_iff.1 ok.hV).1 n3).trans ok.hV
 have a4 := (h.fix _ (Array.getElem?_eq_some_iff.1 ok.hG).1 n4).trans ok.hG
 exact ⟨(blk_cell a1 0).trans rfl, (blk_cell a2 0).trans rfl, (blk_cell a3 0).trans rfl, (blk_cell a4 0).trans rfl⟩
theorem MSt.grown (h : MSt s W vs ns) (ok : MOk s) (hg : W.grownBy W' vs.ownBlock) : W'.cell? ⟨s.Pb, 0, none⟩ = some (.int .i64 s.v) ∧ W'.cell? ⟨s.Pb, 1, none⟩ = some vs ∧ W'.frozen? ⟨s.Pb, 0, none⟩ = false ∧ W'.frozen? ⟨s.Pb, 1, none⟩ = false := by
 have hp := ok.oP.2
 have hz := h.size
 have h9 := (hg.block s.Pb (by omega) (fun e => by have := Kd.N_base h.hN _ e.symm; omega)).trans h.hP
 exact ⟨(blk_cell h9 0).trans rfl, (blk_cell h9 1).trans rfl, blk_frozen h9 0, blk_frozen h9 1⟩
/-- The list has been written and stored. -/
theorem MSt.mv (h : MSt s W vs ns) (ok : MOk s) (hg : W.grownBy W' vs.ownBlock) (hN : Kd.N k55 55 W' s.W1.heap.size (fun k => s.W1.heap.size ≤ k) v1 ns1) (hat : v1.ownBlock = vs.ownBlock ∨ ∃ b, v1.ownBlock = some b ∧ W.heap.size ≤ b) :
  MSt s (W'.setCell ⟨s.Pb, 1, none⟩ v1) v1 ns1 ∧ MKeep s W vs (W'.setCell ⟨s.Pb, 1, none⟩ v1) v1 := by
 have hp := ok.oP.2
 have hz := h.size
 have hgs := hg.size
 have hne : ∀ k, k < s.W1.heap.size → some k ≠ vs.ownBlock := fun k hk e => by have := Kd.N_base h.hN k e.symm; omega
 have h9 := (hg.block s.Pb (by omega) (hne _ hp)).trans h.hP
 have hf : ∀ k, k ≠ s.Pb → (W'.setCell ⟨s.Pb, 1, none⟩ v1).heap[k]? = W'.heap[k]? := fun k hk => Below.heap_setCell W' ⟨s.Pb, 1, none⟩ v1 k hk
 have hB : Below s.Pb W' (W'.setCell ⟨s.Pb, 1, none⟩ v1) := (Below.refl _ W').setCell (p := ⟨s.Pb, 1, none⟩) (Nat.le_refl _) _
 refine ⟨⟨hB.os.trans (hg.os.trans h.os), hB.tape.trans (hg.tape.trans h.tape), hB.output.trans (hg.output.trans h.output), by have := hB.size; omega, fun k hk hn => (hf k hn).trans ((hg.block k (by omega) (hne k hk)).trans (h.fix k hk hn)), blk_put h9 1 _ rfl, Kd.N_far hN (p := ⟨s.Pb, 1, none⟩) (fun k hk => by show k ≠ s.Pb; omega) _⟩, ⟨by have := hB.size; omega, fun k hk hn ho => (hf k hn).trans (hg.block k hk ho), hat⟩⟩
/-- A part of a node has been stored. -/
theorem MSt.seg (h : MSt s W vs ns) (ok : MOk s) {W2 : World} (hg : W.grownBy W2 vs.ownBlock) (hN : Kd.N k55 55 W2 s.W1.heap.size (fun k => s.W1.heap.size ≤ k) vs ns1) : MSt s W2 vs ns1 ∧ MKeep s W vs W2 vs := by
 have hp := ok.oP.2
 have hz := h.size
 have hgs := hg.size
 have hne : ∀ k, k < s.W1.heap.size → some k ≠ vs.ownBlock := fun k hk e => by have := Kd.N_base h.hN k e.symm; omega
 exact ⟨⟨hg.os.trans h.os, hg.tape.trans h.tape, hg.output.trans h.output, by omega, fun k hk hn => (hg.block k (by omega) (hne k hk)).trans (h.fix k hk hn), (hg.block s.Pb (by omega) (hne _ hp)).trans h.hP, hN⟩, ⟨hgs, fun k hk hn ho => hg.block k hk ho, .inl rfl⟩⟩
end
/-- What the closure does. -/
def MGrow (s : MCx) (f : Nat) : Prop := ∀ (dec : List Int) (db : Nat) (ns : List S55) (vs : Value) (w : World), s.D dec → dec.count 0 ≤ f → MSt s w vs ns →
 w.heap[db]? = some (.cells (dec.map (Value.int .i64)).toArray 3 (0, 0)) → db ≠ s.Pb → some db ≠ vs.ownBlock → ns.length + 2 ^ (f + 1) ≤ 100000 →
 Calls Try.prog 62 #[.slice (some ⟨db, 0, none⟩) dec.length dec.length, .pointer (some ⟨s.Pb, 0, none⟩), .pointer (some ⟨s.Nb, 0, none⟩), .pointer (some ⟨s.Lb, 0, none⟩), .pointer (some ⟨s.Vb, 0, none⟩), .pointer (some ⟨s.Gb, 0, none⟩)] w
  (fun e w' => ∃ (vs' : Value) (more : List S55), e = .returned (.int .i64 (ns.length : Int)) ∧ MSt s w' vs' (ns ++ more) ∧ GTree s.n s.l s.v (ns ++ more) ns.length (ns ++ more).length dec ∧ more.length + 1 ≤ 2 ^ (f + 1) ∧ MKeep s w vs w' vs')
set_option maxHeartbeats 8000000 in
set_option maxRecDepth 100000 in
theorem make1_calls (s : MCx) (ok : MOk s) (f : Nat) (IH : ∀ f', f' < f → MGrow s f') : MGrow s f := by
 intro dec db ns vs w hD hcnt hst hdb hdbP hdbO hlen
 have hdl := ok.dlen dec hD
 have hl10 := ok.l10
 have hn1 := ok.n1
 have hn8 := ok.n8
 have hf11 : f ≤ f := Nat.le_refl _
 have hpw := Nat.two_pow_pos (f + 1)
 obtain ⟨Av, cv_, ev⟩ := Kd.N_slice hst.hN
 subst ev
 have Ok := Aside0.mk ok
 have Ih := Aside0.mk IH
 have HD := Aside0.mk hD
 have Hcnt := Aside0.mk hcnt
 have Hst := Aside0.mk hst
 have Hdb := Aside0.mk hdb
 have HdbP := Aside0.mk hdbP
 have HdbO := Aside0.mk hdbO
 have Hlen := Aside0.mk hlen
 have Hdl := Aside0.mk hdl
 have Hpw := Aside0.mk hpw
 obtain ⟨hp0, hp1, hpf0, hpf1⟩ := hst.cells
 obtain ⟨hbN, hbL, hbV, hbG⟩ := hst.boxes ok
 have hns : ns.length ≤ 100000 := by omega
 clear ok IH hD hcnt hst hdb hdbP hdbO hlen hf11 hdl hpw
 obtain ⟨x, hx⟩ : ∃ x : S55, x = ⟨-1, 0, 0, []⟩ := ⟨_, rfl⟩
 have hFK : ∀ W : World, Kd.FK k55 W (fun _ => False) x [.int .i64 (-1), .int .i64 0, .int .i64 0, .slice none 0 0] := fun W => by
  rw [hx]
  exact k55_mkF W (fun _ => False) ⟨-1, 0, 0, []⟩ (Nat.le_refl _) (Kd.F_nil _ W _)
 go_enter Try.func62, Try.ntmps62
 go_upto_region 3 with ((with_reducible refine gate_builtin (b := .append) (xs := #[.tmp 20, .tmp 22]) rfl ?_); at_builtin; refine Kd.N_append k55 (w0 := w) s.W1.heap.size rfl (.tmp 20) (.tmp 22) 42 55 _ 48 rfl Try.underlying42 info55 rfl (by decide) (by omega) (.slice Av ns.length cv_) ns x [.int .i64 (-1), .int .i64 0, .int .i64 0, .slice none 0 0] (fun k => s.W1.heap.size ≤ k) (fun _ => False) rfl rfl (hFK _) (fun _ hk => hk.elim) ?aF Hst.out.hN ?aB ?aS ?aL ?_; (case aF => exact fun k hk => Nat.le_trans Hst.out.size hk); (case aB => exact Below.refl _ _); (case aS => exact Hst.out.size); (case aL => omega); intro v7 w7 ho7 hb7 hg7 hat7; have Hmv := Aside0.mk (Hst.out.mv Ok.out hg7 ho7 hat7); have Hc7 := Hst.out.grown Ok.out hg7; obtain ⟨A7, c7, ev7⟩ := Kd.N_slice ho7; rw [List.length_append, List.length_singleton] at ev7; subst ev7; clear ho7 hb7 hg7 hat7 hp0 hp1 hpf0 hpf1; obtain ⟨hp0, hp1, hpf0, hpf1⟩ := Hc7)
 obtain ⟨w8, hw8⟩ : ∃ w8, w8 = w7.setCell ⟨s.Pb, 1, none⟩ (.slice A7 (ns.length + 1) c7) := ⟨_, rfl⟩
 rw [← hw8] at Hmv
 rw [← hw8]
 have Hst8 := Aside0.mk Hmv.out.1
 have Hk8 := Aside0.mk Hmv.out.2
 have hdb8 := Hk8.out.keeps Hdb.out HdbP.out HdbO.out
 have Hdb8 := Aside0.mk hdb8.1
 have HdbO8 := Aside0.mk hdb8.2
 clear hw8 Hmv hdb8 hp0 hp1 hpf0 hpf1 hbN hbL hbV hbG hFK Hst Hdb HdbO
 obtain ⟨hbN, hbL, hbV, hbG⟩ := Hst8.out.boxes Ok.out
 have Hcall := Aside0.mk (search9_calls s.A s.c s.l (some ⟨db, 0, none⟩) dec.length dec s.n s.v w8 (Kd.C_below Ok.out.read (Hst8.out.below Ok.out)) (C_blk Hdb8.out (by have := Hdl.out; omega)) hl10 Hdl.out hn1 hn8 Ok.out.bids)
 go_wp2_with fail
 refine Hcall.out.mono ?_
 rintro e w9 ⟨vp, ps, okb, rfl, hpl, hpr, hok, hz, hR, hb9⟩
 obtain ⟨Ap, cp, ep⟩ := Kd.R_slice hR
 subst ep
 have Hst9 := Aside0.mk (Hst8.out.step hb9 Ok.out)
 have Hk9 := Aside0.mk (Hk8.out.trans (MKeep.of_below hb9))
 have Hdb9 := Aside0.mk (blk_below Hdb8.out hb9)
 have HR := Aside0.mk hR
 have Hsz : Aside0 (w8.heap.size ≤ w9.heap.size) := ⟨hb9.size⟩
 have Hps : Aside0 (ps.length = s.n ∧ ∀ x ∈ ps, 0 ≤ x ∧ x ≤ 1099511627776) := ⟨⟨hpl, hpr⟩⟩
 have Hok := Aside0.mk hok
 have Hz := Aside0.mk hz
 clear hb9 hR hpl hpr hok hz Hcall Hk8 Hdb8 hbN hbL hbV hbG
 obtain ⟨g, cap, eA, hg0, hg1, cells9, hcells9⟩ := Kd.N_form Hst9.out.hN (by simp)
 injection eA with eA elen ecap
 subst eA
 subst ecap
 clear elen cells9 hcells9
 obtain ⟨hbN, hbL, hbV, hbG⟩ := Hst9.out.boxes Ok.out
 obtain ⟨hp0, hp1, hpf0, hpf1⟩ := Hst9.out.cells
 have hiI : (ns.length : Int) < (ns.length : Int) + 1 := by omega
 have hlx : (ns ++ [x]).length = ns.length + 1 := by simp
 cases okb
 ·have Hno : Aside0 (¬ ∀ b, b < s.l.length → possP s.l dec b = false) := ⟨fun h => by have := Hz.out (Ok.out.dstop dec HD.out h); cases this⟩
  clear Hz Hok HR Hps
  have HB9 := Aside0.mk (Hst9.out.below Ok.out)
  clear hp0 hp1 hpf0 hpf1 hbN hbV hbG
  go_upto_region 9 with (fail)
  go_loopw [11, 43] (fun bv kv wr => ∃ (bi : Int) (k : Nat), k ≤ s.l.length ∧ bv = .int .i64 bi ∧ kv = .int .i64 k ∧ Aside0 (Below w9.heap.size w9 wr) ∧ (-1 ≤ bi ∧ bi < (s.l.length : Int)) ∧ Aside0 ((bi = -1 → ∀ b, b < k → possP s.l dec b = false) ∧ (0 ≤ bi → possP s.l dec bi.toNat = true))) (fun _ kv _ => s.l.length - (intOf kv).toNat)
  case atStart => exact ⟨-1, 0, by omega, rfl, rfl, ⟨Below.refl _ _⟩, by omega, ⟨fun _ b hb => by omega, fun h => by omega⟩⟩
  case round =>
   clear hbL
   obtain ⟨bi, k, hk, rfl, rfl, HB, hbi, Hbi⟩ := hrel
   have hbxL : ∀ w', Below w9.heap.size w9 w' → w'.cell? ⟨s.Lb, 0, none⟩ = some (.slice s.A s.l.length s.c) := fun w' hb => ((Hst9.out.step hb Ok.out).boxes Ok.out).2.1
   have HbxL := Aside0.mk hbxL
   clear hbxL
   by_cases hlt : k < s.l.length
   ·have t1 : decide ((k : Int) < (s.l.length : Int)) = true := decide_eq_true (by omega)
    have t2 : decide (k < s.l.length) = true := decide_eq_true hlt
    have hkI : (k : Int) < (s.l.length : Int) := by omega
    obtain ⟨ad, A3, c3, e, g0, g1, g2, gl2, gk2⟩ := at_T82 (Kd.C_below (Kd.C_below Ok.out.read HB9.out) HB.out) (k : Int) (by omega) (by omega)
    rw [Int.toNat_natCast] at g0 g1 g2
    have Hadr := Aside0.mk e
    rw [e]
    rw [e] at HbxL
    generalize rd_T82 s.l (k : Int) = xb at *
    have hwk : IntKind.i64.wrap ((k : Int) + 1) = (k : Int) + 1 := IntWalk.i64_in _ (by omega)
    clear e
    go_upto_region 11 with (fail)
    obtain ⟨W5, hW5⟩ : ∃ W5, W5 = wr.alloc (.cells #[.int .i64 xb.f0, .int .i64 xb.f1, .slice A3 xb.f2.length c3] 82) := ⟨_, rfl⟩
    obtain ⟨gx, hgx⟩ : ∃ gx, gx = wr.heap.size := ⟨_, rfl⟩
    have hbk5 : W5.heap[gx]? = some (.cells #[.int .i64 xb.f0, .int .i64 xb.f1, .slice A3 xb.f2.length c3] 82 (0, 0)) := by rw [hW5, hgx]; exact heap_alloc_new wr _
    have hb5 : Below wr.heap.size wr W5 := by rw [hW5]; exact (Below.refl _ wr).alloc (Nat.le_refl _) _
    have HB5 := Aside0.mk (HB.out.trans (hb5.mono HB.out.size))
    have Hbk5 := Aside0.mk hbk5
    rw [← hW5]
    rw [← hgx]
    clear hW5 hgx hbk5 hb5 g0 g1 g2 gl2 gk2 HB
    have Hps := Aside0.mk (poss_calls s.A s.c s.l (some ⟨db, 0, none⟩) dec.length dec k W5.drew (Kd.C_below Ok.out.read (HB9.out.trans ((below_drew1 HB5.out).mono HB9.out.size))) (Kd.C_below (C_blk Hdb9.out (by have := Hdl.out; omega)) (below_drew1 HB5.out)) Hdl.out (by omega) hlt)
    rw [Hadr.out] at Hps
    have hkeep : ∀ w', Below W5.heap.size W5 w' → w'.cell? ⟨s.Lb, 0, none⟩ = some (.slice (some ad) s.l.length s.c) ∧ w'.cell? ⟨gx, 1, none⟩ = some (.int .i64 xb.f1) := fun w' hb => ⟨HbxL.out w' (HB5.out.trans (hb.mono HB5.out.size)), (blk_cell (blk_below Hbk5.out hb) 1).trans rfl⟩
    have Hkeep := Aside0.mk hkeep
    clear hkeep
    cases hp : possP s.l dec k
    ·rw [hp] at Hps
     have Hp := Aside0.mk hp
     clear hp
     refine wp_region_held_drew (S := fun w' => w'.cell? ⟨s.Lb, 0, none⟩ = some (.slice (some ad) s.l.length s.c) ∧ w'.cell? ⟨gx, 1, none⟩ = some (.int .i64 xb.f1)) (by kernel_rfl) (Hkeep.out W5.drew (below_drew1 (Below.refl _ _))) ?_
     intro hS0
     refine wpAnyH_take (i := 0) (v := ?_) rfl (by kernel_rfl) (by kernel_rfl) (by kernel_rfl) (fun _ _ _ h => h) (Or.inl ⟨by rfl, ?_⟩) (by assumption) ?_
     rotate_left
     ·(intro w_ hSw_; (try dsimp only at hSw_); go_simp; try with_reducible rfl)
     try simp only [Act.put, List.getElem_toArray, List.getElem_cons_zero, List.getElem_cons_succ, List.setIfInBounds_toArray, List.set_cons_zero, List.set_cons_succ]
     refine wpAnyH_take (i := 1) (v := ?_) rfl (by kernel_rfl) (by kernel_rfl) (by kernel_rfl) (fun _ _ _ h => h) (Or.inl ⟨by rfl, ?_⟩) (by assumption) ?_
     rotate_left
     ·(intro w_ hSw_; (try dsimp only at hSw_); go_simp; try with_reducible rfl)
     try simp only [Act.put, List.getElem_toArray, List.getElem_cons_zero, List.getElem_cons_succ, List.setIfInBounds_toArray, List.set_cons_zero, List.set_cons_succ]
     refine wpAnyH_take (i := 2) (v := ?_) rfl (by kernel_rfl) (by kernel_rfl) (by kernel_rfl) (fun _ _ _ h => h) (Or.inl ⟨by rfl, ?_⟩) (by assumption) ?_
     rotate_left
     ·(intro w_ hSw_; (try dsimp only at hSw_); go_simp; try with_reducible rfl)
     try simp only [Act.put, List.getElem_toArray, List.getElem_cons_zero, List.getElem_cons_succ, List.setIfInBounds_toArray, List.set_cons_zero, List.set_cons_succ]
     refine wpAnyH_ready (rs := [3]) (by kernel_rfl) (by simp) ?_
     refine AllReadyH.cons rfl (fun K hK => ?_) AllReadyH.nil
     go_simp
     refine Hps.out.mono ?_
     rintro e w6 ⟨rfl, hb6⟩
     have hb6' : Below W5.heap.size W5 w6 := (below_drew1 (Below.refl _ _)).trans (hb6.mono (below_drew1 (Below.refl W5.heap.size W5)).size)
     have HB6 := Aside0.mk (HB5.out.trans (hb6'.mono HB5.out.size))
     refine hK.out _ _ (Hkeep.out _ hb6') (fun hSn_ => ?_)
     clear hK K
     try simp only [Act.put, List.getElem_toArray, List.getElem_cons_zero, List.getElem_cons_succ, List.setIfInBounds_toArray, List.set_cons_zero, List.set_cons_succ]
     clear hb6 hb6' Hps
     refine wpAnyH_take (i := 4) (v := ?_) rfl (by kernel_rfl) (by kernel_rfl) (by kernel_rfl) (fun _ _ _ h => h) (Or.inl ⟨by rfl, ?_⟩) (by assumption) ?_
     rotate_left
     ·(intro w_ hSw_; (try dsimp only at hSw_); go_simp; try with_reducible rfl)
     try simp only [Act.put, List.getElem_toArray, List.getElem_cons_zero, List.getElem_cons_succ, List.setIfInBounds_toArray, List.set_cons_zero, List.set_cons_succ]
     refine wpAnyH_take (i := 5) rfl (by kernel_rfl) (by kernel_rfl) (by kernel_rfl) (fun _ _ _ h => h) (Or.inr ⟨by rfl, rfl⟩) (by assumption) ?_
     try simp only [Act.put, List.getElem_toArray, List.getElem_cons_zero, List.getElem_cons_succ, List.setIfInBounds_toArray, List.set_cons_zero, List.set_cons_succ]
     refine wpAnyH_take (i := 6) rfl (by kernel_rfl) (by kernel_rfl) (by kernel_rfl) (fun _ _ _ h => h) (Or.inr ⟨by rfl, rfl⟩) (by assumption) ?_
     try simp only [Act.put, List.getElem_toArray, List.getElem_cons_zero, List.getElem_cons_succ, List.setIfInBounds_toArray, List.set_cons_zero, List.set_cons_succ]
     refine wpAnyH_take (i := 7) rfl (by kernel_rfl) (by kernel_rfl) (by kernel_rfl) (fun _ _ _ h => h) (Or.inr ⟨by rfl, rfl⟩) (by assumption) ?_
     try simp only [Act.put, List.getElem_toArray, List.getElem_cons_zero, List.getElem_cons_succ, List.setIfInBounds_toArray, List.set_cons_zero, List.set_cons_succ]
     refine wpAnyH_take (i := 8) rfl (by kernel_rfl) (by kernel_rfl) (by kernel_rfl) (fun _ _ _ h => h) (Or.inr ⟨by rfl, rfl⟩) (by assumption) ?_
     try simp only [Act.put, List.getElem_toArray, List.getElem_cons_zero, List.getElem_cons_succ, List.setIfInBounds_toArray, List.set_cons_zero, List.set_cons_succ]
     refine wpAnyH_take (i := 9) rfl (by kernel_rfl) (by kernel_rfl) (by kernel_rfl) (fun _ _ _ h => h) (Or.inr ⟨by rfl, rfl⟩) (by assumption) ?_
     try simp only [Act.put, List.getElem_toArray, List.getElem_cons_zero, List.getElem_cons_succ, List.setIfInBounds_toArray, List.set_cons_zero, List.set_cons_succ]
     refine wpAnyH_take (i := 10) rfl (by kernel_rfl) (by kernel_rfl) (by kernel_rfl) (fun _ _ _ h => h) (Or.inr ⟨by rfl, rfl⟩) (by assumption) ?_
     try simp only [Act.put, List.getElem_toArray, List.getElem_cons_zero, List.getElem_cons_succ, List.setIfInBounds_toArray, List.set_cons_zero, List.set_cons_succ]
     refine wpAnyH_take (i := 11) rfl (by kernel_rfl) (by kernel_rfl) (by kernel_rfl) (fun _ _ _ h => h) (Or.inr ⟨by rfl, rfl⟩) (by assumption) ?_
     try simp only [Act.put, List.getElem_toArray, List.getElem_cons_zero, List.getElem_cons_succ, List.setIfInBounds_toArray, List.set_cons_zero, List.set_cons_succ]
     refine wpAnyH_take (i := 12) rfl (by kernel_rfl) (by kernel_rfl) (by kernel_rfl) (fun _ _ _ h => h) (Or.inr ⟨by rfl, rfl⟩) (by assumption) ?_
     try simp only [Act.put, List.getElem_toArray, List.getElem_cons_zero, List.getElem_cons_succ, List.setIfInBounds_toArray, List.set_cons_zero, List.set_cons_succ]
     refine wpAnyH_take (i := 13) rfl (by kernel_rfl) (by kernel_rfl) (by kernel_rfl) (fun _ _ _ h => h) (Or.inr ⟨by rfl, rfl⟩) (by assumption) ?_
     try simp only [Act.put, List.getElem_toArray, List.getElem_cons_zero, List.getElem_cons_succ, List.setIfInBounds_toArray, List.set_cons_zero, List.set_cons_succ]
     refine wpAnyH_take (i := 14) rfl (by kernel_rfl) (by kernel_rfl) (by kernel_rfl) (fun _ _ _ h => h) (Or.inr ⟨by rfl, rfl⟩) (by assumption) ?_
     try simp only [Act.put, List.getElem_toArray, List.getElem_cons_zero, List.getElem_cons_succ, List.setIfInBounds_toArray, List.set_cons_zero, List.set_cons_succ]
     refine wpAnyH_take (i := 15) rfl (by kernel_rfl) (by kernel_rfl) (by kernel_rfl) (fun _ _ _ h => h) (Or.inr ⟨by rfl, rfl⟩) (by assumption) ?_
     try simp only [Act.put, List.getElem_toArray, List.getElem_cons_zero, List.getElem_cons_succ, List.setIfInBounds_toArray, List.set_cons_zero, List.set_cons_succ]
     refine wpAnyH_take (i := 16) rfl (by kernel_rfl) (by kernel_rfl) (by kernel_rfl) (fun _ _ _ h => h) (Or.inr ⟨by rfl, rfl⟩) (by assumption) ?_
     try simp only [Act.put, List.getElem_toArray, List.getElem_cons_zero, List.getElem_cons_succ, List.setIfInBounds_toArray, List.set_cons_zero, List.set_cons_succ]
     refine wpAnyH_take (i := 17) (v := ?_) rfl (by kernel_rfl) (by kernel_rfl) (by kernel_rfl) (fun _ _ _ h => h) (Or.inl ⟨by rfl, ?_⟩) (by assumption) ?_
     rotate_left
     ·(intro w_ hSw_; (try dsimp only at hSw_); go_simp; try with_reducible rfl)
     try simp only [Act.put, List.getElem_toArray, List.getElem_cons_zero, List.getElem_cons_succ, List.setIfInBounds_toArray, List.set_cons_zero, List.set_cons_succ]
     refine wpAnyH_done (by kernel_rfl) ?_ _
     clear hS0 hSn_ Hkeep
     go_wp2
     go_roundw
     case rel => exact ⟨bi, k + 1, by omega, rfl, by go_num, HB6, hbi, ⟨fun h b hb => by
      by_cases e : b = k
      ·subst e; exact Hp.out
      ·exact Hbi.out.1 h b (by omega), Hbi.out.2⟩⟩
     case measure => simp [intOf]; omega
    ·rw [hp] at Hps
     have Hp := Aside0.mk hp
     clear hp
     by_cases hb0 : bi < 0
     ·have d1 : decide (bi < 0) = true := decide_eq_true hb0
      refine wp_region_held_drew (S := fun w' => w'.cell? ⟨s.Lb, 0, none⟩ = some (.slice (some ad) s.l.length s.c) ∧ w'.cell? ⟨gx, 1, none⟩ = some (.int .i64 xb.f1)) (by kernel_rfl) (Hkeep.out W5.drew (below_drew1 (Below.refl _ _))) ?_
      intro hS0
      refine wpAnyH_take (i := 0) (v := ?_) rfl (by kernel_rfl) (by kernel_rfl) (by kernel_rfl) (fun _ _ _ h => h) (Or.inl ⟨by rfl, ?_⟩) (by assumption) ?_
      rotate_left
      ·(intro w_ hSw_; (try dsimp only at hSw_); go_simp; try with_reducible rfl)
      try simp only [Act.put, List.getElem_toArray, List.getElem_cons_zero, List.getElem_cons_succ, List.setIfInBounds_toArray, List.set_cons_zero, List.set_cons_succ]
      refine wpAnyH_take (i := 1) (v := ?_) rfl (by kernel_rfl) (by kernel_rfl) (by kernel_rfl) (fun _ _ _ h => h) (Or.inl ⟨by rfl, ?_⟩) (by assumption) ?_
      rotate_left
      ·(intro w_ hSw_; (try dsimp only at hSw_); go_simp; try with_reducible rfl)
      try simp only [Act.put, List.getElem_toArray, List.getElem_cons_zero, List.getElem_cons_succ, List.setIfInBounds_toArray, List.set_cons_zero, List.set_cons_succ]
      refine wpAnyH_take (i := 2) (v := ?_) rfl (by kernel_rfl) (by kernel_rfl) (by kernel_rfl) (fun _ _ _ h => h) (Or.inl ⟨by rfl, ?_⟩) (by assumption) ?_
      rotate_left
      ·(intro w_ hSw_; (try dsimp only at hSw_); go_simp; try with_reducible rfl)
      try simp only [Act.put, List.getElem_toArray, List.getElem_cons_zero, List.getElem_cons_succ, List.setIfInBounds_toArray, List.set_cons_zero, List.set_cons_succ]
      refine wpAnyH_ready (rs := [3]) (by kernel_rfl) (by simp) ?_
      refine AllReadyH.cons rfl (fun K hK => ?_) AllReadyH.nil
      go_simp
      refine Hps.out.mono ?_
      rintro e w6 ⟨rfl, hb6⟩
      have hb6' : Below W5.heap.size W5 w6 := (below_drew1 (Below.refl _ _)).trans (hb6.mono (below_drew1 (Below.refl W5.heap.size W5)).size)
      have HB6 := Aside0.mk (HB5.out.trans (hb6'.mono HB5.out.size))
      refine hK.out _ _ (Hkeep.out _ hb6') (fun hSn_ => ?_)
      clear hK K
      try simp only [Act.put, List.getElem_toArray, List.getElem_cons_zero, List.getElem_cons_succ, List.setIfInBounds_toArray, List.set_cons_zero, List.set_cons_succ]
      clear hb6 hb6' Hps
      refine wpAnyH_take (i := 4) (v := ?_) rfl (by kernel_rfl) (by kernel_rfl) (by kernel_rfl) (fun _ _ _ h => h) (Or.inl ⟨by rfl, ?_⟩) (by assumption) ?_
      rotate_left
      ·(intro w_ hSw_; (try dsimp only at hSw_); go_simp; try with_reducible rfl)
      try simp only [Act.put, List.getElem_toArray, List.getElem_cons_zero, List.getElem_cons_succ, List.setIfInBounds_toArray, List.set_cons_zero, List.set_cons_succ]
      refine wpAnyH_take (i := 5) (v := ?_) rfl (by kernel_rfl) (by kernel_rfl) (by kernel_rfl) (fun _ _ _ h => h) (Or.inl ⟨by rfl, ?_⟩) (by assumption) ?_
      rotate_left
      ·(intro w_ hSw_; (try dsimp only at hSw_); go_simp; try with_reducible rfl)
      try simp only [Act.put, List.getElem_toArray, List.getElem_cons_zero, List.getElem_cons_succ, List.setIfInBounds_toArray, List.set_cons_zero, List.set_cons_succ]
      refine wpAnyH_take (i := 6) (v := ?_) rfl (by kernel_rfl) (by kernel_rfl) (by kernel_rfl) (fun _ _ _ h => h) (Or.inl ⟨by rfl, ?_⟩) (by assumption) ?_
      rotate_left
      ·(intro w_ hSw_; (try dsimp only at hSw_); go_simp; try with_reducible rfl)
      try simp only [Act.put, List.getElem_toArray, List.getElem_cons_zero, List.getElem_cons_succ, List.setIfInBounds_toArray, List.set_cons_zero, List.set_cons_succ]
      refine wpAnyH_take (i := 7) (v := ?_) rfl (by kernel_rfl) (by kernel_rfl) (by kernel_rfl) (fun _ _ _ h => h) (Or.inl ⟨by rfl, ?_⟩) (by assumption) ?_
      rotate_left
      ·(intro w_ hSw_; (try dsimp only at hSw_); go_simp; try with_reducible rfl)
      try simp only [Act.put, List.getElem_toArray, List.getElem_cons_zero, List.getElem_cons_succ, List.setIfInBounds_toArray, List.set_cons_zero, List.set_cons_succ]
      refine wpAnyH_take (i := 8) rfl (by kernel_rfl) (by kernel_rfl) (by kernel_rfl) (fun _ _ _ h => h) (Or.inr ⟨by rfl, rfl⟩) (by assumption) ?_
      try simp only [Act.put, List.getElem_toArray, List.getElem_cons_zero, List.getElem_cons_succ, List.setIfInBounds_toArray, List.set_cons_zero, List.set_cons_succ]
      refine wpAnyH_take (i := 9) rfl (by kernel_rfl) (by kernel_rfl) (by kernel_rfl) (fun _ _ _ h => h) (Or.inr ⟨by rfl, rfl⟩) (by assumption) ?_
      try simp only [Act.put, List.getElem_toArray, List.getElem_cons_zero, List.getElem_cons_succ, List.setIfInBounds_toArray, List.set_cons_zero, List.set_cons_succ]
      refine wpAnyH_take (i := 10) rfl (by kernel_rfl) (by kernel_rfl) (by kernel_rfl) (fun _ _ _ h => h) (Or.inr ⟨by rfl, rfl⟩) (by assumption) ?_
      try simp only [Act.put, List.getElem_toArray, List.getElem_cons_zero, List.getElem_cons_succ, List.setIfInBounds_toArray, List.set_cons_zero, List.set_cons_succ]
      refine wpAnyH_take (i := 11) rfl (by kernel_rfl) (by kernel_rfl) (by kernel_rfl) (fun _ _ _ h => h) (Or.inr ⟨by rfl, rfl⟩) (by assumption) ?_
      try simp only [Act.put, List.getElem_toArray, List.getElem_cons_zero, List.getElem_cons_succ, List.setIfInBounds_toArray, List.set_cons_zero, List.set_cons_succ]
      refine wpAnyH_take (i := 12) rfl (by kernel_rfl) (by kernel_rfl) (by kernel_rfl) (fun _ _ _ h => h) (Or.inr ⟨by rfl, rfl⟩) (by assumption) ?_
      try simp only [Act.put, List.getElem_toArray, List.getElem_cons_zero, List.getElem_cons_succ, List.setIfInBounds_toArray, List.set_cons_zero, List.set_cons_succ]
      refine wpAnyH_take (i := 13) rfl (by kernel_rfl) (by kernel_rfl) (by kernel_rfl) (fun _ _ _ h => h) (Or.inr ⟨by rfl, rfl⟩) (by assumption) ?_
      try simp only [Act.put, List.getElem_toArray, List.getElem_cons_zero, List.getElem_cons_succ, List.setIfInBounds_toArray, List.set_cons_zero, List.set_cons_succ]
      refine wpAnyH_take (i := 14) rfl (by kernel_rfl) (by kernel_rfl) (by kernel_rfl) (fun _ _ _ h => h) (Or.inr ⟨by rfl, rfl⟩) (by assumption) ?_
      try simp only [Act.put, List.getElem_toArray, List.getElem_cons_zero, List.getElem_cons_succ, List.setIfInBounds_toArray, List.set_cons_zero, List.set_cons_succ]
      refine wpAnyH_take (i := 15) rfl (by kernel_rfl) (by kernel_rfl) (by kernel_rfl) (fun _ _ _ h => h) (Or.inr ⟨by rfl, rfl⟩) (by assumption) ?_
      try simp only [Act.put, List.getElem_toArray, List.getElem_cons_zero, List.getElem_cons_succ, List.setIfInBounds_toArray, List.set_cons_zero, List.set_cons_succ]
      refine wpAnyH_take (i := 16) (v := ?_) rfl (by kernel_rfl) (by kernel_rfl) (by kernel_rfl) (fun _ _ _ h => h) (Or.inl ⟨by rfl, ?_⟩) (by assumption) ?_
      rotate_left
      ·(intro w_ hSw_; (try dsimp only at hSw_); go_simp; try with_reducible rfl)
      try simp only [Act.put, List.getElem_toArray, List.getElem_cons_zero, List.getElem_cons_succ, List.setIfInBounds_toArray, List.set_cons_zero, List.set_cons_succ]
      refine wpAnyH_take (i := 17) (v := ?_) rfl (by kernel_rfl) (by kernel_rfl) (by kernel_rfl) (fun _ _ _ h => h) (Or.inl ⟨by rfl, ?_⟩) (by assumption) ?_
      rotate_left
      ·(intro w_ hSw_; (try dsimp only at hSw_); go_simp; try with_reducible rfl)
      try simp only [Act.put, List.getElem_toArray, List.getElem_cons_zero, List.getElem_cons_succ, List.setIfInBounds_toArray, List.set_cons_zero, List.set_cons_succ]
      refine wpAnyH_done (by kernel_rfl) ?_ _
      clear hS0 hSn_ Hkeep
      go_wp2
      go_roundw
      case rel => exact ⟨(k : Int), k + 1, by omega, rfl, by go_num, HB6, by omega, ⟨fun h => by omega, fun _ => by rw [Int.toNat_natCast]; exact Hp.out⟩⟩
      case measure => simp [intOf]; omega
     ·have d1 : decide (bi < 0) = false := decide_eq_false hb0
      obtain ⟨bn, hbn⟩ : ∃ bn : Nat, bi = (bn : Int) := ⟨bi.toNat, by omega⟩
      subst hbn
      have hbnI : (bn : Int) < (s.l.length : Int) := hbi.2
      have hbnN : bn < s.l.length := by omega
      have hpb : possP s.l dec bn = true := Hbi.out.2 (by omega)
      have Hpb := Aside0.mk hpb
      clear hpb
      obtain ⟨ad2, A4, c4, e2, g0, g1, g2, gl2, gk2⟩ := at_T82 (Kd.C_below (Kd.C_below Ok.out.read HB9.out) HB5.out) (bn : Int) (by omega) (by omega)
      rw [Hadr.out] at e2
      injection e2 with e2
      subst e2
      rw [Int.toNat_natCast] at g0 g1 g2
      generalize rd_T82 s.l (bn : Int) = yb at *
      have Hkeep2 : Aside0 (∀ w', Below W5.heap.size W5 w' → (w'.cell? ⟨s.Lb, 0, none⟩ = some (.slice (some ad) s.l.length s.c) ∧ w'.cell? ⟨gx, 1, none⟩ = some (.int .i64 xb.f1)) ∧ w'.cell? ⟨(ad.add (bn * 3)).block, (ad.add (bn * 3)).off + 1, none⟩ = some (.int .i64 yb.f1)) := ⟨fun w' hb => ⟨Hkeep.out w' hb, (hb.cell (World.block_lt_of_cell? W5 _ g1)).trans g1⟩⟩
      clear g0 g1 g2 gl2 gk2
      have Hkeep := Hkeep2
      clear Hkeep2
      by_cases hpr : yb.f1 < xb.f1
      ·have d2 : decide (yb.f1 < xb.f1) = true := decide_eq_true hpr
       refine wp_region_held_drew (S := fun w' => (w'.cell? ⟨s.Lb, 0, none⟩ = some (.slice (some ad) s.l.length s.c) ∧ w'.cell? ⟨gx, 1, none⟩ = some (.int .i64 xb.f1)) ∧ w'.cell? ⟨(ad.add (bn * 3)).block, (ad.add (bn * 3)).off + 1, none⟩ = some (.int .i64 yb.f1)) (by kernel_rfl) (Hkeep.out W5.drew (below_drew1 (Below.refl _ _))) ?_
       intro hS0
       refine wpAnyH_take (i := 0) (v := ?_) rfl (by kernel_rfl) (by kernel_rfl) (by kernel_rfl) (fun _ _ _ h => h) (Or.inl ⟨by rfl, ?_⟩) (by assumption) ?_
       rotate_left
       ·(intro w_ hSw_; (try dsimp only at hSw_); go_simp; try with_reducible rfl)
       try simp only [Act.put, List.getElem_toArray, List.getElem_cons_zero, List.getElem_cons_succ, List.setIfInBounds_toArray, List.set_cons_zero, List.set_cons_succ]
       refine wpAnyH_take (i := 1) (v := ?_) rfl (by kernel_rfl) (by kernel_rfl) (by kernel_rfl) (fun _ _ _ h => h) (Or.inl ⟨by rfl, ?_⟩) (by assumption) ?_
       rotate_left
       ·(intro w_ hSw_; (try dsimp only at hSw_); go_simp; try with_reducible rfl)
       try simp only [Act.put, List.getElem_toArray, List.getElem_cons_zero, List.getElem_cons_succ, List.setIfInBounds_toArray, List.set_cons_zero, List.set_cons_succ]
       refine wpAnyH_take (i := 2) (v := ?_) rfl (by kernel_rfl) (by kernel_rfl) (by kernel_rfl) (fun _ _ _ h => h) (Or.inl ⟨by rfl, ?_⟩) (by assumption) ?_
       rotate_left
       ·(intro w_ hSw_; (try dsimp only at hSw_); go_simp; try with_reducible rfl)
       try simp only [Act.put, List.getElem_toArray, List.getElem_cons_zero, List.getElem_cons_succ, List.setIfInBounds_toArray, List.set_cons_zero, List.set_cons_succ]
       refine wpAnyH_ready (rs := [3]) (by kernel_rfl) (by simp) ?_
       refine AllReadyH.cons rfl (fun K hK => ?_) AllReadyH.nil
       go_simp
       refine Hps.out.mono ?_
       rintro e w6 ⟨rfl, hb6⟩
       have hb6' : Below W5.heap.size W5 w6 := (below_drew1 (Below.refl _ _)).trans (hb6.mono (below_drew1 (Below.refl W5.heap.size W5)).size)
       have HB6 := Aside0.mk (HB5.out.trans (hb6'.mono HB5.out.size))
       refine hK.out _ _ (Hkeep.out _ hb6') (fun hSn_ => ?_)
       clear hK K
       try simp only [Act.put, List.getElem_toArray, List.getElem_cons_zero, List.getElem_cons_succ, List.setIfInBounds_toArray, List.set_cons_zero, List.set_cons_succ]
       clear hb6 hb6' Hps
       refine wpAnyH_take (i := 4) (v := ?_) rfl (by kernel_rfl) (by kernel_rfl) (by kernel_rfl) (fun _ _ _ h => h) (Or.inl ⟨by rfl, ?_⟩) (by assumption) ?_
       rotate_left
       ·(intro w_ hSw_; (try dsimp only at hSw_); go_simp; try with_reducible rfl)
       try simp only [Act.put, List.getElem_toArray, List.getElem_cons_zero, List.getElem_cons_succ, List.setIfInBounds_toArray, List.set_cons_zero, List.set_cons_succ]
       refine wpAnyH_take (i := 5) (v := ?_) rfl (by kernel_rfl) (by kernel_rfl) (by kernel_rfl) (fun _ _ _ h => h) (Or.inl ⟨by rfl, ?_⟩) (by assumption) ?_
       rotate_left
       ·(intro w_ hSw_; (try dsimp only at hSw_); go_simp; try with_reducible rfl)
       try simp only [Act.put, List.getElem_toArray, List.getElem_cons_zero, List.getElem_cons_succ, List.setIfInBounds_toArray, List.set_cons_zero, List.set_cons_succ]
       refine wpAnyH_take (i := 6) (v := ?_) rfl (by kernel_rfl) (by kernel_rfl) (by kernel_rfl) (fun _ _ _ h => h) (Or.inl ⟨by rfl, ?_⟩) (by assumption) ?_
       rotate_left
       ·(intro w_ hSw_; (try dsimp only at hSw_); go_simp; try with_reducible rfl)
       try simp only [Act.put, List.getElem_toArray, List.getElem_cons_zero, List.getElem_cons_succ, List.setIfInBounds_toArray, List.set_cons_zero, List.set_cons_succ]
       refine wpAnyH_take (i := 7) (v := ?_) rfl (by kernel_rfl) (by kernel_rfl) (by kernel_rfl) (fun _ _ _ h => h) (Or.inl ⟨by rfl, ?_⟩) (by assumption) ?_
       rotate_left
       ·(intro w_ hSw_; (try dsimp only at hSw_); go_simp; try with_reducible rfl)
       try simp only [Act.put, List.getElem_toArray, List.getElem_cons_zero, List.getElem_cons_succ, List.setIfInBounds_toArray, List.set_cons_zero, List.set_cons_succ]
       refine wpAnyH_take (i := 8) (v := ?_) rfl (by kernel_rfl) (by kernel_rfl) (by kernel_rfl) (fun _ _ _ h => h) (Or.inl ⟨by rfl, ?_⟩) (by assumption) ?_
       rotate_left
       ·(intro w_ hSw_; (try dsimp only at hSw_); go_simp; try with_reducible rfl)
       try simp only [Act.put, List.getElem_toArray, List.getElem_cons_zero, List.getElem_cons_succ, List.setIfInBounds_toArray, List.set_cons_zero, List.set_cons_succ]
       refine wpAnyH_take (i := 9) (v := ?_) rfl (by kernel_rfl) (by kernel_rfl) (by kernel_rfl) (fun _ _ _ h => h) (Or.inl ⟨by rfl, ?_⟩) (by assumption) ?_
       rotate_left
       ·(intro w_ hSw_; (try dsimp only at hSw_); go_simp; try with_reducible rfl)
       try simp only [Act.put, List.getElem_toArray, List.getElem_cons_zero, List.getElem_cons_succ, List.setIfInBounds_toArray, List.set_cons_zero, List.set_cons_succ]
       refine wpAnyH_take (i := 10) (v := ?_) rfl (by kernel_rfl) (by kernel_rfl) (by kernel_rfl) (fun _ _ _ h => h) (Or.inl ⟨by rfl, ?_⟩) (by assumption) ?_
       rotate_left
       ·(intro w_ hSw_; (try dsimp only at hSw_); go_simp; try with_reducible rfl)
       try simp only [Act.put, List.getElem_toArray, List.getElem_cons_zero, List.getElem_cons_succ, List.setIfInBounds_toArray, List.set_cons_zero, List.set_cons_succ]
       refine wpAnyH_take (i := 11) (v := ?_) rfl (by kernel_rfl) (by kernel_rfl) (by kernel_rfl) (fun _ _ _ h => h) (Or.inl ⟨by rfl, ?_⟩) (by assumption) ?_
       rotate_left
       ·(intro w_ hSw_; (try dsimp only at hSw_); go_simp; try with_reducible rfl)
       try simp only [Act.put, List.getElem_toArray, List.getElem_cons_zero, List.getElem_cons_succ, List.setIfInBounds_toArray, List.set_cons_zero, List.set_cons_succ]
       refine wpAnyH_take (i := 12) (v := ?_) rfl (by kernel_rfl) (by kernel_rfl) (by kernel_rfl) (fun _ _ _ h => h) (Or.inl ⟨by rfl, ?_⟩) (by assumption) ?_
       rotate_left
       ·(intro w_ hSw_; (try dsimp only at hSw_); go_simp; try with_reducible rfl)
       try simp only [Act.put, List.getElem_toArray, List.getElem_cons_zero, List.getElem_cons_succ, List.setIfInBounds_toArray, List.set_cons_zero, List.set_cons_succ]
       refine wpAnyH_take (i := 13) (v := ?_) rfl (by kernel_rfl) (by kernel_rfl) (by kernel_rfl) (fun _ _ _ h => h) (Or.inl ⟨by rfl, ?_⟩) (by assumption) ?_
       rotate_left
       ·(intro w_ hSw_; (try dsimp only at hSw_); go_simp; try with_reducible rfl)
       try simp only [Act.put, List.getElem_toArray, List.getElem_cons_zero, List.getElem_cons_succ, List.setIfInBounds_toArray, List.set_cons_zero, List.set_cons_succ]
       refine wpAnyH_take (i := 14) (v := ?_) rfl (by kernel_rfl) (by kernel_rfl) (by kernel_rfl) (fun _ _ _ h => h) (Or.inl ⟨by rfl, ?_⟩) (by assumption) ?_
       rotate_left
       ·(intro w_ hSw_; (try dsimp only at hSw_); go_simp; try with_reducible rfl)
       try simp only [Act.put, List.getElem_toArray, List.getElem_cons_zero, List.getElem_cons_succ, List.setIfInBounds_toArray, List.set_cons_zero, List.set_cons_succ]
       refine wpAnyH_take (i := 15) (v := ?_) rfl (by kernel_rfl) (by kernel_rfl) (by kernel_rfl) (fun _ _ _ h => h) (Or.inl ⟨by rfl, ?_⟩) (by assumption) ?_
       rotate_left
       ·(intro w_ hSw_; (try dsimp only at hSw_); go_simp; try with_reducible rfl)
       try simp only [Act.put, List.getElem_toArray, List.getElem_cons_zero, List.getElem_cons_succ, List.setIfInBounds_toArray, List.set_cons_zero, List.set_cons_succ]
       refine wpAnyH_take (i := 16) (v := ?_) rfl (by kernel_rfl) (by kernel_rfl) (by kernel_rfl) (fun _ _ _ h => h) (Or.inl ⟨by rfl, ?_⟩) (by assumption) ?_
       rotate_left
       ·(intro w_ hSw_; (try dsimp only at hSw_); go_simp; try with_reducible rfl)
       try simp only [Act.put, List.getElem_toArray, List.getElem_cons_zero, List.getElem_cons_succ, List.setIfInBounds_toArray, List.set_cons_zero, List.set_cons_succ]
       refine wpAnyH_take (i := 17) (v := ?_) rfl (by kernel_rfl) (by kernel_rfl) (by kernel_rfl) (fun _ _ _ h => h) (Or.inl ⟨by rfl, ?_⟩) (by assumption) ?_
       rotate_left
       ·(intro w_ hSw_; (try dsimp only at hSw_); go_simp; try with_reducible rfl)
       try simp only [Act.put, List.getElem_toArray, List.getElem_cons_zero, List.getElem_cons_succ, List.setIfInBounds_toArray, List.set_cons_zero, List.set_cons_succ]
       refine wpAnyH_done (by kernel_rfl) ?_ _
       clear hS0 hSn_ Hkeep
       go_wp2
       go_roundw
       case rel => exact ⟨(k : Int), k + 1, by omega, rfl, by go_num, HB6, by omega, ⟨fun h => by omega, fun _ => by rw [Int.toNat_natCast]; exact Hp.out⟩⟩
       case measure => simp [intOf]; omega
      ·have d2 : decide (yb.f1 < xb.f1) = false := decide_eq_false hpr
       refine wp_region_held_drew (S := fun w' => (w'.cell? ⟨s.Lb, 0, none⟩ = some (.slice (some ad) s.l.length s.c) ∧ w'.cell? ⟨gx, 1, none⟩ = some (.int .i64 xb.f1)) ∧ w'.cell? ⟨(ad.add (bn * 3)).block, (ad.add (bn * 3)).off + 1, none⟩ = some (.int .i64 yb.f1)) (by kernel_rfl) (Hkeep.out W5.drew (below_drew1 (Below.refl _ _))) ?_
       intro hS0
       refine wpAnyH_take (i := 0) (v := ?_) rfl (by kernel_rfl) (by kernel_rfl) (by kernel_rfl) (fun _ _ _ h => h) (Or.inl ⟨by rfl, ?_⟩) (by assumption) ?_
       rotate_left
       ·(intro w_ hSw_; (try dsimp only at hSw_); go_simp; try with_reducible rfl)
       try simp only [Act.put, List.getElem_toArray, List.getElem_cons_zero, List.getElem_cons_succ, List.setIfInBounds_toArray, List.set_cons_zero, List.set_cons_succ]
       refine wpAnyH_take (i := 1) (v := ?_) rfl (by kernel_rfl) (by kernel_rfl) (by kernel_rfl) (fun _ _ _ h => h) (Or.inl ⟨by rfl, ?_⟩) (by assumption) ?_
       rotate_left
       ·(intro w_ hSw_; (try dsimp only at hSw_); go_simp; try with_reducible rfl)
       try simp only [Act.put, List.getElem_toArray, List.getElem_cons_zero, List.getElem_cons_succ, List.setIfInBounds_toArray, List.set_cons_zero, List.set_cons_succ]
       refine wpAnyH_take (i := 2) (v := ?_) rfl (by kernel_rfl) (by kernel_rfl) (by kernel_rfl) (fun _ _ _ h => h) (Or.inl ⟨by rfl, ?_⟩) (by assumption) ?_
       rotate_left
       ·(intro w_ hSw_; (try dsimp only at hSw_); go_simp; try with_reducible rfl)
       try simp only [Act.put, List.getElem_toArray, List.getElem_cons_zero, List.getElem_cons_succ, List.setIfInBounds_toArray, List.set_cons_zero, List.set_cons_succ]
       refine wpAnyH_ready (rs := [3]) (by kernel_rfl) (by simp) ?_
       refine AllReadyH.cons rfl (fun K hK => ?_) AllReadyH.nil
       go_simp
       refine Hps.out.mono ?_
       rintro e w6 ⟨rfl, hb6⟩
       have hb6' : Below W5.heap.size W5 w6 := (below_drew1 (Below.refl _ _)).trans (hb6.mono (below_drew1 (Below.refl W5.heap.size W5)).size)
       have HB6 := Aside0.mk (HB5.out.trans (hb6'.mono HB5.out.size))
       refine hK.out _ _ (Hkeep.out _ hb6') (fun hSn_ => ?_)
       clear hK K
       try simp only [Act.put, List.getElem_toArray, List.getElem_cons_zero, List.getElem_cons_succ, List.setIfInBounds_toArray, List.set_cons_zero, List.set_cons_succ]
       clear hb6 hb6' Hps
       refine wpAnyH_take (i := 4) (v := ?_) rfl (by kernel_rfl) (by kernel_rfl) (by kernel_rfl) (fun _ _ _ h => h) (Or.inl ⟨by rfl, ?_⟩) (by assumption) ?_
       rotate_left
       ·(intro w_ hSw_; (try dsimp only at hSw_); go_simp; try with_reducible rfl)
       try simp only [Act.put, List.getElem_toArray, List.getElem_cons_zero, List.getElem_cons_succ, List.setIfInBounds_toArray, List.set_cons_zero, List.set_cons_succ]
       refine wpAnyH_take (i := 5) (v := ?_) rfl (by kernel_rfl) (by kernel_rfl) (by kernel_rfl) (fun _ _ _ h => h) (Or.inl ⟨by rfl, ?_⟩) (by assumption) ?_
       rotate_left
       ·(intro w_ hSw_; (try dsimp only at hSw_); go_simp; try with_reducible rfl)
       try simp only [Act.put, List.getElem_toArray, List.getElem_cons_zero, List.getElem_cons_succ, List.setIfInBounds_toArray, List.set_cons_zero, List.set_cons_succ]
       refine wpAnyH_take (i := 6) (v := ?_) rfl (by kernel_rfl) (by kernel_rfl) (by kernel_rfl) (fun _ _ _ h => h) (Or.inl ⟨by rfl, ?_⟩) (by assumption) ?_
       rotate_left
       ·(intro w_ hSw_; (try dsimp only at hSw_); go_simp; try with_reducible rfl)
       try simp only [Act.put, List.getElem_toArray, List.getElem_cons_zero, List.getElem_cons_succ, List.setIfInBounds_toArray, List.set_cons_zero, List.set_cons_succ]
       refine wpAnyH_take (i := 7) (v := ?_) rfl (by kernel_rfl) (by kernel_rfl) (by kernel_rfl) (fun _ _ _ h => h) (Or.inl ⟨by rfl, ?_⟩) (by assumption) ?_
       rotate_left
       ·(intro w_ hSw_; (try dsimp only at hSw_); go_simp; try with_reducible rfl)
       try simp only [Act.put, List.getElem_toArray, List.getElem_cons_zero, List.getElem_cons_succ, List.setIfInBounds_toArray, List.set_cons_zero, List.set_cons_succ]
       refine wpAnyH_take (i := 8) (v := ?_) rfl (by kernel_rfl) (by kernel_rfl) (by kernel_rfl) (fun _ _ _ h => h) (Or.inl ⟨by rfl, ?_⟩) (by assumption) ?_
       rotate_left
       ·(intro w_ hSw_; (try dsimp only at hSw_); go_simp; try with_reducible rfl)
       try simp only [Act.put, List.getElem_toArray, List.getElem_cons_zero, List.getElem_cons_succ, List.setIfInBounds_toArray, List.set_cons_zero, List.set_cons_succ]
       refine wpAnyH_take (i := 9) (v := ?_) rfl (by kernel_rfl) (by kernel_rfl) (by kernel_rfl) (fun _ _ _ h => h) (Or.inl ⟨by rfl, ?_⟩) (by assumption) ?_
       rotate_left
       ·(intro w_ hSw_; (try dsimp only at hSw_); go_simp; try with_reducible rfl)
       try simp only [Act.put, List.getElem_toArray, List.getElem_cons_zero, List.getElem_cons_succ, List.setIfInBounds_toArray, List.set_cons_zero, List.set_cons_succ]
       refine wpAnyH_take (i := 10) (v := ?_) rfl (by kernel_rfl) (by kernel_rfl) (by kernel_rfl) (fun _ _ _ h => h) (Or.inl ⟨by rfl, ?_⟩) (by assumption) ?_
       rotate_left
       ·(intro w_ hSw_; (try dsimp only at hSw_); go_simp; try with_reducible rfl)
       try simp only [Act.put, List.getElem_toArray, List.getElem_cons_zero, List.getElem_cons_succ, List.setIfInBounds_toArray, List.set_cons_zero, List.set_cons_succ]
       refine wpAnyH_take (i := 11) (v := ?_) rfl (by kernel_rfl) (by kernel_rfl) (by kernel_rfl) (fun _ _ _ h => h) (Or.inl ⟨by rfl, ?_⟩) (by assumption) ?_
       rotate_left
       ·(intro w_ hSw_; (try dsimp only at hSw_); go_simp; try with_reducible rfl)
       try simp only [Act.put, List.getElem_toArray, List.getElem_cons_zero, List.getElem_cons_succ, List.setIfInBounds_toArray, List.set_cons_zero, List.set_cons_succ]
       refine wpAnyH_take (i := 12) (v := ?_) rfl (by kernel_rfl) (by kernel_rfl) (by kernel_rfl) (fun _ _ _ h => h) (Or.inl ⟨by rfl, ?_⟩) (by assumption) ?_
       rotate_left
       ·(intro w_ hSw_; (try dsimp only at hSw_); go_simp; try with_reducible rfl)
       try simp only [Act.put, List.getElem_toArray, List.getElem_cons_zero, List.getElem_cons_succ, List.setIfInBounds_toArray, List.set_cons_zero, List.set_cons_succ]
       refine wpAnyH_take (i := 13) (v := ?_) rfl (by kernel_rfl) (by kernel_rfl) (by kernel_rfl) (fun _ _ _ h => h) (Or.inl ⟨by rfl, ?_⟩) (by assumption) ?_
       rotate_left
       ·(intro w_ hSw_; (try dsimp only at hSw_); go_simp; try with_reducible rfl)
       try simp only [Act.put, List.getElem_toArray, List.getElem_cons_zero, List.getElem_cons_succ, List.setIfInBounds_toArray, List.set_cons_zero, List.set_cons_succ]
       refine wpAnyH_take (i := 14) (v := ?_) rfl (by kernel_rfl) (by kernel_rfl) (by kernel_rfl) (fun _ _ _ h => h) (Or.inl ⟨by rfl, ?_⟩) (by assumption) ?_
       rotate_left
       ·(intro w_ hSw_; (try dsimp only at hSw_); go_simp; try with_reducible rfl)
       try simp only [Act.put, List.getElem_toArray, List.getElem_cons_zero, List.getElem_cons_succ, List.setIfInBounds_toArray, List.set_cons_zero, List.set_cons_succ]
       refine wpAnyH_take (i := 15) (v := ?_) rfl (by kernel_rfl) (by kernel_rfl) (by kernel_rfl) (fun _ _ _ h => h) (Or.inl ⟨by rfl, ?_⟩) (by assumption) ?_
       rotate_left
       ·(intro w_ hSw_; (try dsimp only at hSw_); go_simp; try with_reducible rfl)
       try simp only [Act.put, List.getElem_toArray, List.getElem_cons_zero, List.getElem_cons_succ, List.setIfInBounds_toArray, List.set_cons_zero, List.set_cons_succ]
       refine wpAnyH_take (i := 16) (v := ?_) rfl (by kernel_rfl) (by kernel_rfl) (by kernel_rfl) (fun _ _ _ h => h) (Or.inl ⟨by rfl, ?_⟩) (by assumption) ?_
       rotate_left
       ·(intro w_ hSw_; (try dsimp only at hSw_); go_simp; try with_reducible rfl)
       try simp only [Act.put, List.getElem_toArray, List.getElem_cons_zero, List.getElem_cons_succ, List.setIfInBounds_toArray, List.set_cons_zero, List.set_cons_succ]
       refine wpAnyH_take (i := 17) (v := ?_) rfl (by kernel_rfl) (by kernel_rfl) (by kernel_rfl) (fun _ _ _ h => h) (Or.inl ⟨by rfl, ?_⟩) (by assumption) ?_
       rotate_left
       ·(intro w_ hSw_; (try dsimp only at hSw_); go_simp; try with_reducible rfl)
       try simp only [Act.put, List.getElem_toArray, List.getElem_cons_zero, List.getElem_cons_succ, List.setIfInBounds_toArray, List.set_cons_zero, List.set_cons_succ]
       refine wpAnyH_done (by kernel_rfl) ?_ _
       clear hS0 hSn_ Hkeep
       go_wp2
       go_roundw
       case rel => exact ⟨(bn : Int), k + 1, by omega, rfl, by go_num, HB6, by omega, ⟨fun h => by omega, fun _ => by rw [Int.toNat_natCast]; exact Hpb.out⟩⟩
       case measure => simp [intOf]; omega
   ·obtain rfl : k = s.l.length := by omega
    have t1 : decide ((s.l.length : Int) < (s.l.length : Int)) = false := decide_eq_false (by omega)
    have t2 : decide (s.l.length < s.l.length) = false := decide_eq_false (by omega)
    by_cases hbm : bi = -1
    ·exact absurd (Hbi.out.1 hbm) Hno.out
    obtain ⟨b, hb⟩ : ∃ b : Nat, bi = (b : Int) := ⟨bi.toNat, by omega⟩
    subst hb
    have hpb : possP s.l dec b = true := Hbi.out.2 (by omega)
    have hbl : b < s.l.length := by omega
    have Hpb := Aside0.mk hpb
    clear hpb hbm Hbi Hno HbxL hbi
    have Hstr := Aside0.mk (Hst9.out.step HB.out Ok.out)
    have Hkr := Aside0.mk (Hk9.out.trans (MKeep.of_below HB.out))
    have Hdbr := Aside0.mk (blk_below Hdb9.out HB.out)
    clear HB Hst9 Hk9 Hdb9 HB9
    have hcs := count_set0 1 (by omega) dec b (by have := Hdl.out; omega) (poss_zero Hpb.out)
    have hcs2 := count_set0 2 (by omega) dec b (by have := Hdl.out; omega) (poss_zero Hpb.out)
    have hc0 := Hcnt.out
    obtain ⟨f', rfl⟩ : ∃ f', f = f' + 1 := ⟨f - 1, by omega⟩
    have Hcs : Aside0 ((dec.set b 1).count 0 ≤ f' ∧ (dec.set b 2).count 0 ≤ f') := ⟨⟨by omega, by omega⟩⟩
    have hih := Ih.out f' (by omega)
    have Hih := Aside0.mk hih
    have hds := Ok.out.dset dec b HD.out hbl Hpb.out
    have Hds := Aside0.mk hds
    have Hlen2 : Aside0 (ns.length + 2 * 2 ^ (f' + 1) ≤ 100000 ∧ 0 < 2 ^ (f' + 1)) := ⟨by have h1 := Hlen.out; have h2 := Nat.two_pow_pos (f' + 1); rw [Nat.pow_succ] at h1; omega⟩
    clear hcs hcs2 hc0 hih hds Ih HD Hcnt Hlen Hpw
    obtain ⟨y, hy⟩ : ∃ y : S55, y = ⟨(b : Int), 0, 0, []⟩ := ⟨_, rfl⟩
    obtain ⟨cs, hcl, hFK, hcc, hfr⟩ := Kd.N_elem Hstr.out.hN z55 (ns.length : Int) (by omega) (by omega)
    rw [Int.toNat_natCast] at hFK hcc hfr
    rw [show (ns ++ [x]).getD ns.length z55 = x by simp [List.getD], hx] at hFK
    obtain ⟨A2, c2, ec, hl2, hF2⟩ := k55_openF hFK
    obtain ⟨hN10, hg10⟩ := Kd.N_seg Hstr.out.hN (ns.length : Int) (by omega) (by omega) (c := cs) (seg := [.int .i64 (b : Int)]) (j := 0) (okp := fun k => s.W1.heap.size ≤ k ∧ k ≠ g) hcl (by rw [Int.toNat_natCast]; exact hcc) (by show 0 + 1 ≤ 4; omega) (x' := ⟨(b : Int), 0, 0, []⟩) (by rw [ec]; exact k55_mkF _ _ ⟨(b : Int), 0, 0, []⟩ hl2 hF2) (fun _ hk => hk)
    rw [Int.toNat_natCast, show (ns ++ [x]).set ns.length ⟨(b : Int), 0, 0, []⟩ = ns ++ [(⟨(b : Int), 0, 0, []⟩ : S55)] by rw [List.set_append_right _ _ (Nat.le_refl _), Nat.sub_self]; rfl, ← hy] at hN10
    rw [Int.toNat_natCast] at hg10
    have hcz : wr.cell? ⟨g, ns.length * 4, none⟩ = some (.int .i64 (-1)) := hcc 0 _ (by rw [ec]; rfl)
    have hfz : wr.frozen? ⟨g, ns.length * 4, none⟩ = false := hfr 0
    have Hseg := Aside0.mk (Hstr.out.seg Ok.out hg10 hN10)
    obtain ⟨hp0, hp1, hpf0, hpf1⟩ := Hstr.out.cells
    have hbI : ¬ (b : Int) < 0 := by omega
    clear hN10 hg10 hcc hfr hFK hcl ec hl2 hF2
    go_upto_region 15 with (fail)
    obtain ⟨W11, hW11⟩ : ∃ W11, W11 = wr.setCell ⟨g, ns.length * 4, none⟩ (.int .i64 (b : Int)) := ⟨_, rfl⟩
    have Hst11 : Aside0 (MSt s W11 (.slice (some ⟨g, 0, none⟩) (ns.length + 1) c7) (ns ++ [y])) := ⟨by rw [hW11]; exact Hseg.out.1⟩
    have hk11 : MKeep s wr (.slice (some ⟨g, 0, none⟩) (ns.length + 1) c7) W11 (.slice (some ⟨g, 0, none⟩) (ns.length + 1) c7) := by rw [hW11]; exact Hseg.out.2
    have Hk11 := Aside0.mk (Hkr.out.trans hk11)
    have hdb11 := hk11.keeps Hdbr.out HdbP.out HdbO8.out
    have Hdb11 := Aside0.mk hdb11.1
    have HdbO11 := Aside0.mk hdb11.2
    rw [← hW11]
    clear hW11 hk11 hdb11 Hseg hcz hfz hp0 hp1 hpf0 hpf1 Hstr Hkr Hdbr HdbO8
    obtain ⟨hbN, hbL, hbV, hbG⟩ := Hst11.out.boxes Ok.out
    have hbdl : b < dec.length := by have := Hdl.out; omega
    have hdl10 : dec.length ≤ 10 := by have := Hdl.out; omega
    have Hbg : Aside0 (∀ w', Below W11.heap.size W11 w' → w'.cell? ⟨s.Gb, 0, none⟩ = some (.func (.func 62) #[] #[.pointer (some ⟨s.Pb, 0, none⟩), .pointer (some ⟨s.Nb, 0, none⟩), .pointer (some ⟨s.Lb, 0, none⟩), .pointer (some ⟨s.Vb, 0, none⟩), .pointer (some ⟨s.Gb, 0, none⟩)])) := ⟨fun w' hb => ((Hst11.out.step hb Ok.out).boxes Ok.out).2.2.2⟩
    refine wp_region_held_drew (S := fun w' => w'.cell? ⟨s.Gb, 0, none⟩ = some (.func (.func 62) #[] #[.pointer (some ⟨s.Pb, 0, none⟩), .pointer (some ⟨s.Nb, 0, none⟩), .pointer (some ⟨s.Lb, 0, none⟩), .pointer (some ⟨s.Vb, 0, none⟩), .pointer (some ⟨s.Gb, 0, none⟩)])) (by kernel_rfl) (Hbg.out W11.drew (below_drew1 (Below.refl _ _))) ?_
    intro hS0
    refine wpAnyH_take (i := 0) (v := ?_) rfl (by kernel_rfl) (by kernel_rfl) (by kernel_rfl) (fun _ _ _ h => h) (Or.inl ⟨by rfl, ?_⟩) (by assumption) ?_
    rotate_left
    ·(intro w_ hSw_; (try dsimp only at hSw_); go_simp; try with_reducible rfl)
    try simp only [Act.put, List.getElem_toArray, List.getElem_cons_zero, List.getElem_cons_succ, List.setIfInBounds_toArray, List.set_cons_zero, List.set_cons_succ]
    refine wpAnyH_take (i := 1) (v := ?_) rfl (by kernel_rfl) (by kernel_rfl) (by kernel_rfl) (fun _ _ _ h => h) (Or.inl ⟨by rfl, ?_⟩) (by assumption) ?_
    rotate_left
    ·(intro w_ hSw_; (try dsimp only at hSw_); go_simp; try with_reducible rfl)
    try simp only [Act.put, List.getElem_toArray, List.getElem_cons_zero, List.getElem_cons_succ, List.setIfInBounds_toArray, List.set_cons_zero, List.set_cons_succ]
    refine wpAnyH_take (i := 2) (v := ?_) rfl (by kernel_rfl) (by kernel_rfl) (by kernel_rfl) (fun _ _ _ h => h) (Or.inl ⟨by rfl, ?_⟩) (by assumption) ?_
    rotate_left
    ·(intro w_ hSw_; (try dsimp only at hSw_); go_simp; try with_reducible rfl)
    try simp only [Act.put, List.getElem_toArray, List.getElem_cons_zero, List.getElem_cons_succ, List.setIfInBounds_toArray, List.set_cons_zero, List.set_cons_succ]
    refine wpAnyH_ready (rs := [3]) (by kernel_rfl) (by simp) ?_
    refine AllReadyH.cons rfl (fun K hK => ?_) AllReadyH.nil
    go_simp
    refine (with_calls (some ⟨db, 0, none⟩) dec.length dec b 1 W11.drew (Kd.C_drew (C_blk Hdb11.out (by omega))) hbdl (by omega)).mono ?_
    rintro e w12 ⟨rfl, hrow, hb12⟩
    have hb12' : Below W11.heap.size W11 w12 := (below_drew1 (Below.refl _ _)).trans (hb12.mono (below_drew1 (Below.refl W11.heap.size W11)).size)
    refine hK.out _ _ (Hbg.out _ hb12') (fun hSn_ => ?_)
    clear hK K
    try simp only [Act.put, List.getElem_toArray, List.getElem_cons_zero, List.getElem_cons_succ, List.setIfInBounds_toArray, List.set_cons_zero, List.set_cons_succ]
    have Hst12 := Aside0.mk (Hst11.out.step hb12' Ok.out)
    have Hk12 := Aside0.mk (Hk11.out.trans (MKeep.of_below hb12'))
    have Hdb12 := Aside0.mk (blk_below Hdb11.out hb12')
    have hsz11 := Hst11.out.size
    have hoP := Ok.out.oP.2
    have hgl := Kd.N_lt Hst11.out.hN g rfl
    have hgr := Hih.out (dec.set b 1) W11.drew.heap.size (ns ++ [y]) _ w12 Hds.out.1 Hcs.out.1 Hst12.out hrow (by show W11.heap.size ≠ s.Pb; omega) (by show some W11.heap.size ≠ some g; intro e; injection e with e; omega) (by have := Hlen2.out; simp only [List.length_append, List.length_singleton]; omega)
    rw [List.length_set, show (((ns ++ [y]).length : Nat) : Int) = (ns.length : Int) + 1 by simp] at hgr
    have Hgr := Aside0.mk hgr
    clear hrow hb12 hb12' hgr Hbg hsz11 hoP hgl
    refine wpAnyH_ready (rs := [4]) (by kernel_rfl) (by simp) ?_
    refine AllReadyH.cons rfl (fun K hK => ?_) AllReadyH.nil
    go_simp
    refine Hgr.out.mono ?_
    rintro e w13 ⟨vs13, more1, rfl, hst13, htree1, hm1, hk13⟩
    obtain ⟨A13, c13, e13⟩ := Kd.N_slice hst13.hN
    subst e13
    have Hst13 := Aside0.mk hst13
    have Htree1 := Aside0.mk htree1
    have Hm1 := Aside0.mk hm1
    have Hk13 := Aside0.mk (Hk12.out.trans hk13)
    have hdb13 := hk13.keeps Hdb12.out HdbP.out HdbO11.out
    have Hdb13 := Aside0.mk hdb13.1
    have HdbO13 := Aside0.mk hdb13.2
    refine hK.out _ _ ((hst13.boxes Ok.out).2.2.2) (fun hSn_ => ?_)
    clear hK K
    try simp only [Act.put, List.getElem_toArray, List.getElem_cons_zero, List.getElem_cons_succ, List.setIfInBounds_toArray, List.set_cons_zero, List.set_cons_succ]
    clear hst13 htree1 hm1 hk13 hdb13 Hgr Hst12 Hst11 Hk12 Hk11 Hdb12 Hdb11 HdbO11
    refine wpAnyH_take (i := 5) (v := ?_) rfl (by kernel_rfl) (by kernel_rfl) (by kernel_rfl) (fun _ _ _ h => h) (Or.inl ⟨by rfl, ?_⟩) (by assumption) ?_
    rotate_left
    ·(intro w_ hSw_; (try dsimp only at hSw_); go_simp; try with_reducible rfl)
    try simp only [Act.put, List.getElem_toArray, List.getElem_cons_zero, List.getElem_cons_succ, List.setIfInBounds_toArray, List.set_cons_zero, List.set_cons_succ]
    refine wpAnyH_done (by kernel_rfl) ?_ _
    clear hS0 hSn_ hbN hbL hbV hbG
    obtain ⟨m, hm⟩ : ∃ m : Nat, m = (ns ++ [y] ++ more1).length := ⟨_, rfl⟩
    have Hm := Aside0.mk hm
    rw [← hm] at Hst13 Hk13
    clear hm
    obtain ⟨hbN, hbL, hbV, hbG⟩ := Hst13.out.boxes Ok.out
    have Hbg : Aside0 (∀ w', Below w13.heap.size w13 w' → w'.cell? ⟨s.Gb, 0, none⟩ = some (.func (.func 62) #[] #[.pointer (some ⟨s.Pb, 0, none⟩), .pointer (some ⟨s.Nb, 0, none⟩), .pointer (some ⟨s.Lb, 0, none⟩), .pointer (some ⟨s.Vb, 0, none⟩), .pointer (some ⟨s.Gb, 0, none⟩)])) := ⟨fun w' hb => ((Hst13.out.step hb Ok.out).boxes Ok.out).2.2.2⟩
    go_upto_region 16 with (fail)
    refine wp_region_held_drew (S := fun w' => w'.cell? ⟨s.Gb, 0, none⟩ = some (.func (.func 62) #[] #[.pointer (some ⟨s.Pb, 0, none⟩), .pointer (some ⟨s.Nb, 0, none⟩), .pointer (some ⟨s.Lb, 0, none⟩), .pointer (some ⟨s.Vb, 0, none⟩), .pointer (some ⟨s.Gb, 0, none⟩)])) (by kernel_rfl) (Hbg.out w13.drew (below_drew1 (Below.refl _ _))) ?_
    intro hS0
    refine wpAnyH_take (i := 0) (v := ?_) rfl (by kernel_rfl) (by kernel_rfl) (by kernel_rfl) (fun _ _ _ h => h) (Or.inl ⟨by rfl, ?_⟩) (by assumption) ?_
    rotate_left
    ·(intro w_ hSw_; (try dsimp only at hSw_); go_simp; try with_reducible rfl)
    try simp only [Act.put, List.getElem_toArray, List.getElem_cons_zero, List.getElem_cons_succ, List.setIfInBounds_toArray, List.set_cons_zero, List.set_cons_succ]
    refine wpAnyH_take (i := 1) (v := ?_) rfl (by kernel_rfl) (by kernel_rfl) (by kernel_rfl) (fun _ _ _ h => h) (Or.inl ⟨by rfl, ?_⟩) (by assumption) ?_
    rotate_left
    ·(intro w_ hSw_; (try dsimp only at hSw_); go_simp; try with_reducible rfl)
    try simp only [Act.put, List.getElem_toArray, List.getElem_cons_zero, List.getElem_cons_succ, List.setIfInBounds_toArray, List.set_cons_zero, List.set_cons_succ]
    refine wpAnyH_take (i := 2) (v := ?_) rfl (by kernel_rfl) (by kernel_rfl) (by kernel_rfl) (fun _ _ _ h => h) (Or.inl ⟨by rfl, ?_⟩) (by assumption) ?_
    rotate_left
    ·(intro w_ hSw_; (try dsimp only at hSw_); go_simp; try with_reducible rfl)
    try simp only [Act.put, List.getElem_toArray, List.getElem_cons_zero, List.getElem_cons_succ, List.setIfInBounds_toArray, List.set_cons_zero, List.set_cons_succ]
    refine wpAnyH_ready (rs := [3]) (by kernel_rfl) (by simp) ?_
    refine AllReadyH.cons rfl (fun K hK => ?_) AllReadyH.nil
    go_simp
    refine (with_calls (some ⟨db, 0, none⟩) dec.length dec b 2 w13.drew (Kd.C_drew (C_blk Hdb13.out (by omega))) hbdl (by omega)).mono ?_
    rintro e w14 ⟨rfl, hrow, hb14⟩
    have hb14' : Below w13.heap.size w13 w14 := (below_drew1 (Below.refl _ _)).trans (hb14.mono (below_drew1 (Below.refl w13.heap.size w13)).size)
    refine hK.out _ _ (Hbg.out _ hb14') (fun hSn_ => ?_)
    clear hK K
    try simp only [Act.put, List.getElem_toArray, List.getElem_cons_zero, List.getElem_cons_succ, List.setIfInBounds_toArray, List.set_cons_zero, List.set_cons_succ]
    have Hst14 := Aside0.mk (Hst13.out.step hb14' Ok.out)
    have Hk14 := Aside0.mk (Hk13.out.trans (MKeep.of_below hb14'))
    have hsz13 := Hst13.out.size
    have hoP := Ok.out.oP.2
    have hown13 := Kd.N_lt Hst13.out.hN
    have hgr := Hih.out (dec.set b 2) w13.drew.heap.size (ns ++ [y] ++ more1) _ w14 Hds.out.2 Hcs.out.2 Hst14.out hrow (by show w13.heap.size ≠ s.Pb; omega) (by intro e; have := hown13 w13.heap.size e.symm; omega) (by have h1 := Hlen2.out; have h2 := Hm1.out; simp only [List.length_append, List.length_singleton]; omega)
    rw [List.length_set, ← Hm.out] at hgr
    have Hgr := Aside0.mk hgr
    clear hrow hb14 hb14' hgr Hbg hsz13 hoP hown13
    refine wpAnyH_ready (rs := [4]) (by kernel_rfl) (by simp) ?_
    refine AllReadyH.cons rfl (fun K hK => ?_) AllReadyH.nil
    go_simp
    refine Hgr.out.mono ?_
    rintro e w15 ⟨vs15, more2, rfl, hst15, htree2, hm2, hk15⟩
    have hlns : ns.length < (ns ++ [y] ++ more1 ++ more2).length := by simp only [List.length_append, List.length_singleton]; omega
    obtain ⟨g5, c15, e15, hg50, hg51, cells15, hcells15⟩ := Kd.N_form hst15.hN (by omega)
    subst e15
    have Hst15 := Aside0.mk hst15
    have Htree2 := Aside0.mk htree2
    have Hm2 := Aside0.mk hm2
    have Hk15 := Aside0.mk (Hk14.out.trans hk15)
    refine hK.out _ _ ((hst15.boxes Ok.out).2.2.2) (fun hSn_ => ?_)
    clear hK K
    try simp only [Act.put, List.getElem_toArray, List.getElem_cons_zero, List.getElem_cons_succ, List.setIfInBounds_toArray, List.set_cons_zero, List.set_cons_succ]
    clear hst15 htree2 hm2 hk15 Hgr Hst14 Hst13 Hk14 Hk13 Hdb13 HdbO13 hcells15 cells15
    refine wpAnyH_take (i := 5) (v := ?_) rfl (by kernel_rfl) (by kernel_rfl) (by kernel_rfl) (fun _ _ _ h => h) (Or.inl ⟨by rfl, ?_⟩) (by assumption) ?_
    rotate_left
    ·(intro w_ hSw_; (try dsimp only at hSw_); go_simp; try with_reducible rfl)
    try simp only [Act.put, List.getElem_toArray, List.getElem_cons_zero, List.getElem_cons_succ, List.setIfInBounds_toArray, List.set_cons_zero, List.set_cons_succ]
    refine wpAnyH_done (by kernel_rfl) ?_ _
    clear hS0 hSn_ hbN hbL hbV hbG
    obtain ⟨L3, hL3⟩ : ∃ L3, L3 = ns ++ [y] ++ more1 ++ more2 := ⟨_, rfl⟩
    have HL3 := Aside0.mk hL3
    rw [← hL3] at Hst15 Hk15 Htree2 hlns
    obtain ⟨q, hq⟩ : ∃ q : Nat, q = L3.length := ⟨_, rfl⟩
    have Hq := Aside0.mk hq
    rw [← hq] at Hst15 Hk15 hlns
    have hgetL : L3[ns.length]? = some y := by
     rw [hL3, List.append_assoc, List.append_assoc, List.getElem?_append_right (Nat.le_refl _), Nat.sub_self]
     rfl
    have hqI : (ns.length : Int) < (q : Int) := by omega
    obtain ⟨z1, hz1⟩ : ∃ z1 : S55, z1 = ⟨(b : Int), (ns.length : Int) + 1, 0, []⟩ := ⟨_, rfl⟩
    obtain ⟨z2, hz2⟩ : ∃ z2 : S55, z2 = ⟨(b : Int), (ns.length : Int) + 1, (m : Int), []⟩ := ⟨_, rfl⟩
    have Hst16 := Aside0.mk (Hst15.out.step (below_drew1 (Below.refl _ w15)) Ok.out)
    obtain ⟨cs, hcl, hFK, hcc, hfr⟩ := Kd.N_elem Hst16.out.hN z55 (ns.length : Int) (by omega) (by omega)
    rw [Int.toNat_natCast] at hFK hcc hfr
    rw [show L3.getD ns.length z55 = y by simp [List.getD, hgetL], hy] at hFK
    obtain ⟨A2, c2, ec, hl2, hF2⟩ := k55_openF hFK
    obtain ⟨hN17, hg17⟩ := Kd.N_seg Hst16.out.hN (ns.length : Int) (by omega) (by omega) (c := cs) (seg := [.int .i64 ((ns.length : Int) + 1)]) (j := 1) (okp := fun k => s.W1.heap.size ≤ k ∧ k ≠ g5) hcl (by rw [Int.toNat_natCast]; exact hcc) (by show 1 + 1 ≤ 4; omega) (x' := ⟨(b : Int), (ns.length : Int) + 1, 0, []⟩) (by rw [ec]; exact k55_mkF _ _ ⟨(b : Int), (ns.length : Int) + 1, 0, []⟩ hl2 hF2) (fun _ hk => hk)
    rw [Int.toNat_natCast, ← hz1] at hN17
    rw [Int.toNat_natCast] at hg17
    have hc1 : w15.drew.cell? ⟨g5, ns.length * 4 + 1, none⟩ = some (.int .i64 0) := hcc 1 _ (by rw [ec]; rfl)
    have hf1 : w15.drew.frozen? ⟨g5, ns.length * 4 + 1, none⟩ = false := hfr 1
    have Hseg := Aside0.mk (Hst16.out.seg Ok.out hg17 hN17)
    clear hN17 hg17 hcc hfr hFK hcl ec hl2 hF2
    clear c2 A2 cs hq hL3 hgetL
    go_upto_region 17 with (fail)
    refine wp_region_held_drew (S := fun w' => w'.cell? ⟨s.Pb, 1, none⟩ = some (.slice (some ⟨g5, 0, none⟩) q c15)) (by kernel_rfl) Hst16.out.cells.2.1 ?_
    intro hS0
    refine wpAnyH_take (i := 0) (v := ?_) rfl (by kernel_rfl) (by kernel_rfl) (by kernel_rfl) (fun _ _ _ h => h) (Or.inl ⟨by rfl, ?_⟩) (by assumption) ?_
    rotate_left
    ·(intro w_ hSw_; (try dsimp only at hSw_); go_simp; try with_reducible rfl)
    try simp only [Act.put, List.getElem_toArray, List.getElem_cons_zero, List.getElem_cons_succ, List.setIfInBounds_toArray, List.set_cons_zero, List.set_cons_succ]
    refine wpAnyH_take (i := 1) (v := ?_) rfl (by kernel_rfl) (by kernel_rfl) (by kernel_rfl) (fun _ _ _ h => h) (Or.inl ⟨by rfl, ?_⟩) (by assumption) ?_
    rotate_left
    ·(intro w_ hSw_; (try dsimp only at hSw_); go_simp; try with_reducible rfl)
    try simp only [Act.put, List.getElem_toArray, List.getElem_cons_zero, List.getElem_cons_succ, List.setIfInBounds_toArray, List.set_cons_zero, List.set_cons_succ]
    refine wpAnyH_take (i := 2) (v := ?_) rfl (by kernel_rfl) (by kernel_rfl) (by kernel_rfl) (fun _ _ _ h => h) (Or.inl ⟨by rfl, ?_⟩) (by assumption) ?_
    rotate_left
    ·(intro w_ hSw_; (try dsimp only at hSw_); go_simp; try with_reducible rfl)
    try simp only [Act.put, List.getElem_toArray, List.getElem_cons_zero, List.getElem_cons_succ, List.setIfInBounds_toArray, List.set_cons_zero, List.set_cons_succ]
    refine wpAnyH_take (i := 3) (v := ?_) rfl (by kernel_rfl) (by kernel_rfl) (by kernel_rfl) (fun _ _ _ h => h) (Or.inl ⟨by rfl, ?_⟩) (by assumption) ?_
    rotate_left
    ·(intro w_ hSw_; (try dsimp only at hSw_); go_simp; try with_reducible rfl)
    try simp only [Act.put, List.getElem_toArray, List.getElem_cons_zero, List.getElem_cons_succ, List.setIfInBounds_toArray, List.set_cons_zero, List.set_cons_succ]
    refine wpAnyH_take (i := 4) (v := ?_) rfl (by kernel_rfl) (by kernel_rfl) (by kernel_rfl) (fun _ _ _ h => h) (Or.inl ⟨by rfl, ?_⟩) (by assumption) ?_
    rotate_left
    ·(intro w_ hSw_; (try dsimp only at hSw_); go_simp; try with_reducible rfl)
    try simp only [Act.put, List.getElem_toArray, List.getElem_cons_zero, List.getElem_cons_succ, List.setIfInBounds_toArray, List.set_cons_zero, List.set_cons_succ]
    refine wpAnyH_take (i := 5) (v := ?_) rfl (by kernel_rfl) (by kernel_rfl) (by kernel_rfl) (fun _ _ _ h => h) (Or.inl ⟨by rfl, ?_⟩) (by assumption) ?_
    rotate_left
    ·(intro w_ hSw_; (try dsimp only at hSw_); go_simp; try with_reducible rfl)
    try simp only [Act.put, List.getElem_toArray, List.getElem_cons_zero, List.getElem_cons_succ, List.setIfInBounds_toArray, List.set_cons_zero, List.set_cons_succ]
    refine wpAnyH_take (i := 6) (v := ?_) rfl (by kernel_rfl) (by kernel_rfl) (by kernel_rfl) (fun _ _ _ h => h) (Or.inl ⟨by rfl, ?_⟩) (by assumption) ?_
    rotate_left
    ·(intro w_ hSw_; (try dsimp only at hSw_); go_simp; try with_reducible rfl)
    try simp only [Act.put, List.getElem_toArray, List.getElem_cons_zero, List.getElem_cons_succ, List.setIfInBounds_toArray, List.set_cons_zero, List.set_cons_succ]
    refine wpAnyH_take (i := 7) (v := ?_) rfl (by kernel_rfl) (by kernel_rfl) (by kernel_rfl) (fun _ _ _ h => h) (Or.inl ⟨by rfl, ?_⟩) (by assumption) ?_
    rotate_left
    ·(intro w_ hSw_; (try dsimp only at hSw_); go_simp; try with_reducible rfl)
    try simp only [Act.put, List.getElem_toArray, List.getElem_cons_zero, List.getElem_cons_succ, List.setIfInBounds_toArray, List.set_cons_zero, List.set_cons_succ]
    refine wpAnyH_take (i := 8) (v := ?_) rfl (by kernel_rfl) (by kernel_rfl) (by kernel_rfl) (fun _ _ _ h => h) (Or.inl ⟨by rfl, ?_⟩) (by assumption) ?_
    rotate_left
    ·(intro w_ hSw_; (try dsimp only at hSw_); go_simp; try with_reducible rfl)
    try simp only [Act.put, List.getElem_toArray, List.getElem_cons_zero, List.getElem_cons_succ, List.setIfInBounds_toArray, List.set_cons_zero, List.set_cons_succ]
    refine wpAnyH_take (i := 9) (v := ?_) rfl (by kernel_rfl) (by kernel_rfl) (by kernel_rfl) (fun _ _ _ h => h) (Or.inl ⟨by rfl, ?_⟩) (by assumption) ?_
    rotate_left
    ·(intro w_ hSw_; (try dsimp only at hSw_); go_simp; try with_reducible rfl)
    try simp only [Act.put, List.getElem_toArray, List.getElem_cons_zero, List.getElem_cons_succ, List.setIfInBounds_toArray, List.set_cons_zero, List.set_cons_succ]
    refine wpAnyH_ready (rs := [10]) (by kernel_rfl) (by simp) ?_
    refine AllReadyH.cons rfl (fun K hK => ?_) AllReadyH.nil
    go_simp
    obtain ⟨W17, hW17⟩ : ∃ W17, W17 = (w15.setCell ⟨g5, ns.length * 4 + 1, none⟩ (.int .i64 ((ns.length : Int) + 1))).drew := ⟨_, rfl⟩
    have Hst17 : Aside0 (MSt s W17 (.slice (some ⟨g5, 0, none⟩) q c15) (L3.set ns.length z1)) := ⟨by rw [hW17]; exact Hseg.out.1⟩
    have Hk17 : Aside0 (MKeep s w (.slice Av ns.length cv_) W17 (.slice (some ⟨g5, 0, none⟩) q c15)) := ⟨by rw [hW17]; exact (Hk15.out.trans (MKeep.of_below (below_drew1 (Below.refl _ w15)))).trans Hseg.out.2⟩
    rw [← hW17]
    clear hW17 Hseg hc1 hf1 Hst16 Hst15 Hk15
    refine hK.out _ _ (Hst17.out.cells.2.1) (fun hSn_ => ?_)
    clear hK K
    try simp only [Act.put, List.getElem_toArray, List.getElem_cons_zero, List.getElem_cons_succ, List.setIfInBounds_toArray, List.set_cons_zero, List.set_cons_succ]
    refine wpAnyH_take (i := 11) (v := ?_) rfl (by kernel_rfl) (by kernel_rfl) (by kernel_rfl) (fun _ _ _ h => h) (Or.inl ⟨by rfl, ?_⟩) (by assumption) ?_
    rotate_left
    ·(intro w_ hSw_; (try dsimp only at hSw_); go_simp; try with_reducible rfl)
    try simp only [Act.put, List.getElem_toArray, List.getElem_cons_zero, List.getElem_cons_succ, List.setIfInBounds_toArray, List.set_cons_zero, List.set_cons_succ]
    refine wpAnyH_take (i := 12) (v := ?_) rfl (by kernel_rfl) (by kernel_rfl) (by kernel_rfl) (fun _ _ _ h => h) (Or.inl ⟨by rfl, ?_⟩) (by assumption) ?_
    rotate_left
    ·(intro w_ hSw_; (try dsimp only at hSw_); go_simp; try with_reducible rfl)
    try simp only [Act.put, List.getElem_toArray, List.getElem_cons_zero, List.getElem_cons_succ, List.setIfInBounds_toArray, List.set_cons_zero, List.set_cons_succ]
    obtain ⟨cs, hcl, hFK, hcc, hfr⟩ := Kd.N_elem Hst17.out.hN z55 (ns.length : Int) (by omega) (by omega)
    rw [Int.toNat_natCast] at hFK hcc hfr
    rw [show (L3.set ns.length z1).getD ns.length z55 = z1 by simp [List.getD]; rw [List.getElem?_set_self (by rw [← Hq.out]; exact hlns)]; rfl, hz1] at hFK
    obtain ⟨A2, c2, ec, hl2, hF2⟩ := k55_openF hFK
    obtain ⟨hN18, hg18⟩ := Kd.N_seg Hst17.out.hN (ns.length : Int) (by omega) (by omega) (c := cs) (seg := [.int .i64 (m : Int)]) (j := 2) (okp := fun k => s.W1.heap.size ≤ k ∧ k ≠ g5) hcl (by rw [Int.toNat_natCast]; exact hcc) (by show 2 + 1 ≤ 4; omega) (x' := ⟨(b : Int), (ns.length : Int) + 1, (m : Int), []⟩) (by rw [ec]; exact k55_mkF _ _ ⟨(b : Int), (ns.length : Int) + 1, (m : Int), []⟩ hl2 hF2) (fun _ hk => hk)
    rw [Int.toNat_natCast, List.set_set, ← hz2] at hN18
    rw [Int.toNat_natCast] at hg18
    have hc2 : W17.cell? ⟨g5, ns.length * 4 + 2, none⟩ = some (.int .i64 0) := hcc 2 _ (by rw [ec]; rfl)
    have hf2 : W17.frozen? ⟨g5, ns.length * 4 + 2, none⟩ = false := hfr 2
    have Hseg := Aside0.mk (Hst17.out.seg Ok.out hg18 hN18)
    clear hN18 hg18 hcc hfr hFK hcl ec hl2 hF2
    refine wpAnyH_ready (rs := [13]) (by kernel_rfl) (by simp) ?_
    refine AllReadyH.cons rfl (fun K hK => ?_) AllReadyH.nil
    go_simp
    obtain ⟨W18, hW18⟩ : ∃ W18, W18 = W17.setCell ⟨g5, ns.length * 4 + 2, none⟩ (.int .i64 (m : Int)) := ⟨_, rfl⟩
    have hset : L3.set ns.length z2 = ns ++ (z2 :: (more1 ++ more2)) := by
     rw [HL3.out, List.append_assoc (ns ++ [y]), set_mid]
     simp
    have Hst18 : Aside0 (MSt s W18 (.slice (some ⟨g5, 0, none⟩) q c15) (ns ++ (z2 :: (more1 ++ more2)))) := ⟨by rw [← hset, hW18]; exact Hseg.out.1⟩
    have Hk18 : Aside0 (MKeep s w (.slice Av ns.length cv_) W18 (.slice (some ⟨g5, 0, none⟩) q c15)) := ⟨by rw [hW18]; exact Hk17.out.trans Hseg.out.2⟩
    rw [← hW18]
    clear hW18 Hseg hc2 hf2 Hst17 Hk17
    refine hK.out _ _ (Hst18.out.cells.2.1) (fun hSn_ => ?_)
    clear hK K
    try simp only [Act.put, List.getElem_toArray, List.getElem_cons_zero, List.getElem_cons_succ, List.setIfInBounds_toArray, List.set_cons_zero, List.set_cons_succ]
    refine wpAnyH_done (by kernel_rfl) ?_ _
    clear hS0 hSn_
    go_wp2
    go_ret
    refine ⟨rfl, _, z2 :: (more1 ++ more2), Hst18.out, ?_, ?_, Hk18.out⟩
    ·have h := Htree2.out
     rw [HL3.out, Hm.out] at h
     have h3 := tree_join ns more1 more2 y z2 hbl Hpb.out (by rw [hz2, Hm.out]) Htree1.out h
     rw [List.length_append] at h3
     exact h3
    ·have h1 := Hm1.out
     have h2 := Hm2.out
     rw [Nat.pow_succ]
     simp only [List.length_cons, List.length_append]
     omega
 ·obtain ⟨cs, hcl, hFK, hcc, hfr⟩ := Kd.N_elem Hst9.out.hN z55 (ns.length : Int) (by omega) (by omega)
  rw [Int.toNat_natCast] at hFK hcc hfr
  rw [show (ns ++ [x]).getD ns.length z55 = x by simp [List.getD], hx] at hFK
  obtain ⟨A2, c2, ec, hl2, hF2⟩ := k55_openF hFK
  have hFps : Kd.F (Kd.int .i64) w9 (fun k => s.W1.heap.size ≤ k ∧ k ≠ g) Ap ps.length ps := Kd.F_mono (Kd.R_F (Kd.R_bound HR.out)) (fun k hk => by
   have h1 : w8.heap.size ≤ k := hk.2.1
   have h2 := Hst8.out.size
   have h3 : g < w8.heap.size := Kd.N_lt Hst8.out.hN g rfl
   exact ⟨by omega, by omega⟩)
  obtain ⟨hN10, hg10⟩ := Kd.N_seg Hst9.out.hN (ns.length : Int) (by omega) (by omega) (c := cs) (seg := [.slice Ap ps.length cp]) (j := 3) (okp := fun k => s.W1.heap.size ≤ k ∧ k ≠ g) hcl (by rw [Int.toNat_natCast]; exact hcc) (by show 3 + 1 ≤ 4; omega) (x' := ⟨-1, 0, 0, ps⟩) (by rw [ec]; exact k55_mkF _ _ ⟨-1, 0, 0, ps⟩ (Kd.R_reads' HR.out).2.1 hFps) (fun _ hk => hk)
  rw [Int.toNat_natCast] at hN10 hg10
  have hc3 : w9.cell? ⟨g, ns.length * 4 + 3, none⟩ = some (.slice A2 0 c2) := hcc 3 _ (by rw [ec]; rfl)
  have hf3 : w9.frozen? ⟨g, ns.length * 4 + 3, none⟩ = false := hfr 3
  rw [show (ns ++ [x]).set ns.length ⟨-1, 0, 0, ps⟩ = ns ++ [(⟨-1, 0, 0, ps⟩ : S55)] by rw [List.set_append_right _ _ (Nat.le_refl _), Nat.sub_self]; rfl] at hN10
  have Hseg := Aside0.mk (Hst9.out.seg Ok.out hg10 hN10)
  clear hN10 hg10 hFps hcc hfr hFK hcl ec hl2 hF2
  go_upto_region 6 with (fail)
  obtain ⟨w10, hw10⟩ : ∃ w10, w10 = w9.setCell ⟨g, ns.length * 4 + 3, none⟩ (.slice Ap ps.length cp) := ⟨_, rfl⟩
  have Hst10 : Aside0 (MSt s w10 (.slice (some ⟨g, 0, none⟩) (ns.length + 1) c7) (ns ++ [⟨-1, 0, 0, ps⟩])) := ⟨by rw [hw10]; exact Hseg.out.1⟩
  have Hk10 : Aside0 (MKeep s w (.slice Av ns.length cv_) w10 (.slice (some ⟨g, 0, none⟩) (ns.length + 1) c7)) := ⟨by rw [hw10]; exact Hk9.out.trans Hseg.out.2⟩
  rw [← hw10]
  clear hw10 Hseg hc3 hf3 hp0 hp1 hpf0 hpf1 hbN hbL hbV hbG
  go_wp2
  go_ret
  refine ⟨_, [⟨-1, 0, 0, ps⟩], rfl, Hst10.out, ?_, ?_, Hk10.out⟩
  ·rw [show (ns ++ [(⟨-1, 0, 0, ps⟩ : S55)]).length = ns.length + 1 by simp]
   exact .leaf ns.length dec ps (by simp) Hps.out.1 Hps.out.2 (Hok.out (by first | rfl | trivial))
  ·rw [Nat.pow_succ]
   have := Nat.two_pow_pos f
   show 1 + 1 ≤ 2 ^ f * 2
   omega
theorem mgrow (s : MCx) (ok : MOk s) (f : Nat) : MGrow s f := by
 induction f using Nat.strongRecOn with
 | _ f ih => exact make1_calls s ok f ih
/-- What Make needs of valid bids. -/
structure MHyp (n : Nat) (l : List S82) (v : Int) (D : List Int → Prop) : Prop where
 l10 : l.length ≤ 10
 n1 : 1 ≤ n
 n8 : n ≤ 8
 bids : ∀ b ∈ l, (1 ≤ b.f1 ∧ b.f1 ≤ 1099511627776) ∧ b.f2.length ≤ 8 ∧ ∀ k ∈ b.f2, 0 ≤ k ∧ k < (n : Int)
 d0 : D (List.replicate l.length 0)
 dlen : ∀ dec, D dec → dec.length = l.length
 dset : ∀ dec b, D dec → b < l.length → possP l dec b = true → D (dec.set b 1) ∧ D (dec.set b 2)
 dstop : ∀ dec, D dec → (∀ b, b < l.length → possP l dec b = false) → boundD l dec (List.replicate n 0) ≤ v
set_option maxHeartbeats 4000000 in
set_option maxRecDepth 100000 in
theorem make_ok (n : Nat) (A1 : Option Addr) (c1 : Nat) (l : List S82) (win : List Int) (v : Int) (D : List Int → Prop) (w : World) (hr1 : Kd.C k82 w A1 l.length l) (hc1 : l.length ≤ c1) (h : clear_Best.f (n : Int) l = some (win, v, 0)) (hy : MHyp n l v D) :
  Calls Try.prog 37 #[.int .i64 (n : Int), .slice A1 l.length c1] w fun e w' => ∃ (vs : Value) (ns : List S55), e = .returned (.tuple #[.agg #[.int .i64 v, vs], .int .i64 0]) ∧ Kd.N k55 55 w' w.heap.size (fun k => w.heap.size ≤ k) vs ns ∧ GTree n l v ns 0 ns.length (List.replicate l.length 0) ∧ ns.length + 1 ≤ 2 ^ (l.length + 1) ∧ Below w.heap.size w w' := by
 have Hy := Aside0.mk hy
 have Hr1 := Aside0.mk hr1
 have Hbest := Aside0.mk (fun w' (hb : Below w.heap.size w w') => clear_Best.calls (n : Int) A1 c1 l win v 0 w' (Kd.C_below hr1 hb) hc1 h)
 have hl10 := hy.l10
 clear hy hr1 h
 go_enter Try.func37, Try.ntmps37
 go_upto_region 1 with (fail)
 obtain ⟨W1, hW1⟩ : ∃ W1, W1 = ((w.alloc (.cells #[.int .i64 (n : Int)] 3)).alloc (.cells #[.slice A1 l.length c1] 40)).alloc (.cells #[.int .i64 0, .slice none 0 0] 44) := ⟨_, rfl⟩
 have hsz1 : W1.heap.size = w.heap.size + 3 := by rw [hW1]; simp
 have hb1 : Below w.heap.size w W1 := by rw [hW1]; exact (((Below.refl _ w).alloc (Nat.le_refl _) _).alloc (by simp) _).alloc (by simp; omega) _
 have hbn : W1.heap[w.heap.size]? = some (.cells #[.int .i64 (n : Int)] 3 (0, 0)) := by
  rw [hW1]
  exact ((Below.heap_alloc _ _ _ (by simp; omega)).trans (Below.heap_alloc _ _ _ (by simp))).trans (heap_alloc_new w _)
 have hbl : W1.heap[w.heap.size + 1]? = some (.cells #[.slice A1 l.length c1] 40 (0, 0)) := by
  have h_ := heap_alloc_new (w.alloc (.cells #[.int .i64 (n : Int)] 3)) (.cells #[.slice A1 l.length c1] 40)
  rw [World.size_alloc] at h_
  rw [hW1]
  exact (Below.heap_alloc _ _ _ (by simp)).trans h_
 have hbr : W1.heap[w.heap.size + 2]? = some (.cells #[.int .i64 0, .slice none 0 0] 44 (0, 0)) := by
  have h_ := heap_alloc_new ((w.alloc (.cells #[.int .i64 (n : Int)] 3)).alloc (.cells #[.slice A1 l.length c1] 40)) (.cells #[.int .i64 0, .slice none 0 0] 44)
  rw [World.size_alloc, World.size_alloc] at h_
  rw [hW1]
  exact h_
 rw [← hW1]
 have hz0 : W1.cell? ⟨w.heap.size, 0, none⟩ = some (.int .i64 (n : Int)) := (blk_cell hbn 0).trans rfl
 have hz1 : W1.cell? ⟨w.heap.size + 1, 0, none⟩ = some (.slice A1 l.length c1) := (blk_cell hbl 0).trans rfl
 have Hb1 := Aside0.mk hb1
 have Hsz1 := Aside0.mk hsz1
 have Hbn := Aside0.mk hbn
 have Hbl := Aside0.mk hbl
 have Hbr := Aside0.mk hbr
 clear hW1 hb1 hsz1 hbn hbl hbr
 go_wp2_with fail
 refine (Hbest.out W1 Hb1.out).mono ?_
 rintro e w2 ⟨v0_, rfl, hR2, hb2⟩
 have Hb2 := Aside0.mk (Hb1.out.trans (hb2.mono Hb1.out.size))
 have Hbn2 := Aside0.mk (blk_below Hbn.out hb2)
 have Hbl2 := Aside0.mk (blk_below Hbl.out hb2)
 have Hbr2 := Aside0.mk (blk_below Hbr.out hb2)
 have Hsz2 : Aside0 (w.heap.size + 3 ≤ w2.heap.size) := ⟨by have := hb2.size; have := Hsz1.out; omega⟩
 clear hb2 hR2 Hbest Hbn Hbl Hbr Hsz1 Hb1 hz0 hz1
 go_upto_region 7 with (fail)
 obtain ⟨W3, hW3⟩ : ∃ W3, W3 = ((w2.alloc (.cells #[.int .i64 v] 3)).alloc (.cells #[.int .i64 v, .slice none 0 0] 44)).alloc (.cells #[.func (.func 62) #[] #[.pointer (some ⟨w2.heap.size + 1, 0, none⟩), .pointer (some ⟨w.heap.size, 0, none⟩), .pointer (some ⟨w.heap.size + 1, 0, none⟩), .pointer (some ⟨w2.heap.size, 0, none⟩), .pointer (some ⟨w2.heap.size + 1 + 1, 0, none⟩)]] 114) := ⟨_, rfl⟩
 have hsz3 : W3.heap.size = w2.heap.size + 3 := by rw [hW3]; simp
 have hb3 : Below w2.heap.size w2 W3 := by rw [hW3]; exact (((Below.refl _ w2).alloc (Nat.le_refl _) _).alloc (by simp) _).alloc (by simp; omega) _
 have hbv : W3.heap[w2.heap.size]? = some (.cells #[.int .i64 v] 3 (0, 0)) := by
  rw [hW3]
  exact ((Below.heap_alloc _ _ _ (by simp; omega)).trans (Below.heap_alloc _ _ _ (by simp))).trans (heap_alloc_new w2 _)
 have hbp : W3.heap[w2.heap.size + 1]? = some (.cells #[.int .i64 v, .slice none 0 0] 44 (0, 0)) := by
  have h_ := heap_alloc_new (w2.alloc (.cells #[.int .i64 v] 3)) (.cells #[.int .i64 v, .slice none 0 0] 44)
  rw [World.size_alloc] at h_
  rw [hW3]
  exact (Below.heap_alloc _ _ _ (by simp)).trans h_
 have hbg : W3.heap[w2.heap.size + 2]? = some (.cells #[.func (.func 62) #[] #[.pointer (some ⟨w2.heap.size + 1, 0, none⟩), .pointer (some ⟨w.heap.size, 0, none⟩), .pointer (some ⟨w.heap.size + 1, 0, none⟩), .pointer (some ⟨w2.heap.size, 0, none⟩), .pointer (some ⟨w2.heap.size + 1 + 1, 0, none⟩)]] 114 (0, 0)) := by
  have h_ := heap_alloc_new ((w2.alloc (.cells #[.int .i64 v] 3)).alloc (.cells #[.int .i64 v, .slice none 0 0] 44)) (.cells #[.func (.func 62) #[] #[.pointer (some ⟨w2.heap.size + 1, 0, none⟩), .pointer (some ⟨w.heap.size, 0, none⟩), .pointer (some ⟨w.heap.size + 1, 0, none⟩), .pointer (some ⟨w2.heap.size, 0, none⟩), .pointer (some ⟨w2.heap.size + 1 + 1, 0, none⟩)]] 114)
  rw [World.size_alloc, World.size_alloc] at h_
  rw [hW3]
  exact h_
 obtain ⟨s, hs⟩ : ∃ s : MCx, s = ⟨n, l, v, A1, c1, w, W3, w2.heap.size + 1, w.heap.size, w.heap.size + 1, w2.heap.size, w2.heap.size + 1 + 1, D⟩ := ⟨_, rfl⟩
 have hB3 := Hb2.out.trans (hb3.mono Hb2.out.size)
 have hz2 := Hsz2.out
 have ok : MOk s := by
  rw [hs]
  exact ⟨Hr1.out, hl10, Hy.out.n1, Hy.out.n8, Hy.out.bids, hB3, ⟨by show w.heap.size ≤ w2.heap.size + 1; omega, by show w2.heap.size + 1 < W3.heap.size; omega⟩, blk_below Hbn2.out hb3, blk_below Hbl2.out hb3, hbv, hbg, ⟨by show w.heap.size ≠ w2.heap.size + 1; omega, by show w.heap.size + 1 ≠ w2.heap.size + 1; omega, by show w2.heap.size ≠ w2.heap.size + 1; omega, by show w2.heap.size + 1 + 1 ≠ w2.heap.size + 1; omega⟩, Hy.out.dlen, Hy.out.dset, Hy.out.dstop⟩
 have hst : MSt s W3 (.slice none 0 0) [] := by
  rw [hs]
  exact ⟨rfl, rfl, rfl, Nat.le_refl _, fun _ _ _ => rfl, hbp, Kd.N_nil _ _ _ _ _⟩
 have Hs := Aside0.mk hs
 have Ok := Aside0.mk ok
 have Hst := Aside0.mk hst
 have Hsz3 := Aside0.mk hsz3
 have HB3 := Aside0.mk hB3
 have Hbr3 := Aside0.mk (blk_below Hbr2.out hb3)
 have hmk := print_make (P := Try.prog) 22 3 .i64 8 Try.underlying22 infoW (by decide) l.length (by omega)
 rw [made_zerosW] at hmk
 have Hkeep : Aside0 (∀ w', Below W3.heap.size W3 w' → w'.cell? ⟨w2.heap.size + 1 + 1, 0, none⟩ = some (.func (.func 62) #[] #[.pointer (some ⟨w2.heap.size + 1, 0, none⟩), .pointer (some ⟨w.heap.size, 0, none⟩), .pointer (some ⟨w.heap.size + 1, 0, none⟩), .pointer (some ⟨w2.heap.size, 0, none⟩), .pointer (some ⟨w2.heap.size + 1 + 1, 0, none⟩)]) ∧ w'.cell? ⟨w.heap.size + 1, 0, none⟩ = some (.slice A1 l.length c1)) := ⟨fun w' hb => ⟨(blk_cell (blk_below hbg hb) 0).trans rfl, (blk_cell (blk_below (blk_below Hbl2.out hb3) hb) 0).trans rfl⟩⟩
 rw [← hW3]
 clear hW3 hsz3 hb3 hbv hbp hbg hs hB3 hz2 ok hst Hbn2 Hbl2 Hbr2 Hb2
 refine wp_region_held_drew (S := fun w' => w'.cell? ⟨w2.heap.size + 1 + 1, 0, none⟩ = some (.func (.func 62) #[] #[.pointer (some ⟨w2.heap.size + 1, 0, none⟩), .pointer (some ⟨w.heap.size, 0, none⟩), .pointer (some ⟨w.heap.size + 1, 0, none⟩), .pointer (some ⟨w2.heap.size, 0, none⟩), .pointer (some ⟨w2.heap.size + 1 + 1, 0, none⟩)]) ∧ w'.cell? ⟨w.heap.size + 1, 0, none⟩ = some (.slice A1 l.length c1)) (by kernel_rfl) (Hkeep.out W3.drew (below_drew1 (Below.refl _ _))) ?_
 intro hS0
 refine wpAnyH_take (i := 0) (v := ?_) rfl (by kernel_rfl) (by kernel_rfl) (by kernel_rfl) (fun _ _ _ h => h) (Or.inl ⟨by rfl, ?_⟩) (by assumption) ?_
 rotate_left
 ·(intro w_ hSw_; (try dsimp only at hSw_); go_simp; try with_reducible rfl)
 try simp only [Act.put, List.getElem_toArray, List.getElem_cons_zero, List.getElem_cons_succ, List.setIfInBounds_toArray, List.set_cons_zero, List.set_cons_succ]
 refine wpAnyH_take (i := 1) (v := ?_) rfl (by kernel_rfl) (by kernel_rfl) (by kernel_rfl) (fun _ _ _ h => h) (Or.inl ⟨by rfl, ?_⟩) (by assumption) ?_
 rotate_left
 ·(intro w_ hSw_; (try dsimp only at hSw_); go_simp; try with_reducible rfl)
 try simp only [Act.put, List.getElem_toArray, List.getElem_cons_zero, List.getElem_cons_succ, List.setIfInBounds_toArray, List.set_cons_zero, List.set_cons_succ]
 refine wpAnyH_take (i := 2) (v := ?_) rfl (by kernel_rfl) (by kernel_rfl) (by kernel_rfl) (fun _ _ _ h => h) (Or.inl ⟨by rfl, ?_⟩) (by assumption) ?_
 rotate_left
 ·(intro w_ hSw_; (try dsimp only at hSw_); go_simp; try with_reducible rfl)
 try simp only [Act.put, List.getElem_toArray, List.getElem_cons_zero, List.getElem_cons_succ, List.setIfInBounds_toArray, List.set_cons_zero, List.set_cons_succ]
 refine wpAnyH_ready (rs := [3]) (by kernel_rfl) (by simp) ?_
 refine AllReadyH.cons rfl (fun K hK => ?_) AllReadyH.nil
 go_simp
 obtain ⟨W5, hW5⟩ : ∃ W5, W5 = (W3.alloc (.cells (Array.replicate l.length (Value.int .i64 0)) 3)).drew := ⟨_, rfl⟩
 have hb5 : Below W3.heap.size W3 W5 := by rw [hW5]; exact below_drew1 ((Below.refl _ W3).alloc (Nat.le_refl _) _)
 have hD5 : W5.heap[W3.heap.size]? = some (.cells ((List.replicate l.length (0 : Int)).map (Value.int .i64)).toArray 3 (0, 0)) := by
  rw [hW5, List.map_replicate, List.toArray_replicate]
  exact blk_drew (heap_alloc_new W3 _)
 have hst5 := Hst.out.step hb5 Ok.out
 have hsl : s.l = l := by rw [Hs.out]
 have hgr := mgrow s Ok.out l.length (List.replicate l.length 0) W3.heap.size [] (.slice none 0 0) W5 (by rw [Hs.out]; exact Hy.out.d0) (by rw [List.count_replicate_self]; exact Nat.le_refl _) hst5 hD5 (by rw [Hs.out]; show W3.heap.size ≠ w2.heap.size + 1; have := Hsz3.out; omega) (by intro e; cases e) (by
  have h1 : 2 ^ (l.length + 1) ≤ 2 ^ 11 := Nat.pow_le_pow_right (by omega) (by omega)
  show 0 + 2 ^ (l.length + 1) ≤ 100000
  omega)
 rw [List.length_replicate, Hs.out] at hgr
 rw [Hs.out] at hst5
 have Hgr := Aside0.mk hgr
 rw [← hW5]
 refine hK.out _ _ (Hkeep.out _ hb5) (fun hSn_ => ?_)
 clear hK K
 try simp only [Act.put, List.getElem_toArray, List.getElem_cons_zero, List.getElem_cons_succ, List.setIfInBounds_toArray, List.set_cons_zero, List.set_cons_succ]
 clear hW5 hb5 hD5 hst5 hgr hmk Hst Hkeep
 refine wpAnyH_ready (rs := [4]) (by kernel_rfl) (by simp) ?_
 refine AllReadyH.cons rfl (fun K hK => ?_) AllReadyH.nil
 go_simp
 refine Hgr.out.mono ?_
 rintro e w6 ⟨vs, more, rfl, hst6, htree, hmore, hkeep⟩
 rw [List.nil_append] at hst6 htree
 obtain ⟨As, cs_, es⟩ := Kd.N_slice hst6.hN
 subst es
 have hok2 : MOk ⟨n, l, v, A1, c1, w, W3, w2.heap.size + 1, w.heap.size, w.heap.size + 1, w2.heap.size, w2.heap.size + 1 + 1, D⟩ := by have := Ok.out; rw [Hs.out] at this; exact this
 have hB6 : Below w.heap.size w w6 := hst6.below hok2
 have hbr6 : w6.heap[w.heap.size + 2]? = some (.cells #[.int .i64 0, .slice none 0 0] 44 (0, 0)) := (hst6.fix (w.heap.size + 2) (by show w.heap.size + 2 < W3.heap.size; have := Hsz3.out; have := Hsz2.out; omega) (by show w.heap.size + 2 ≠ w2.heap.size + 1; have := Hsz2.out; omega)).trans Hbr3.out
 obtain ⟨hbN, hbL, hbV, hbG⟩ := hst6.boxes hok2
 obtain ⟨hp0, hp1, hpf0, hpf1⟩ := hst6.cells
 refine hK.out _ _ (⟨hbG, hbL⟩) (fun hSn_ => ?_)
 clear hK K
 try simp only [Act.put, List.getElem_toArray, List.getElem_cons_zero, List.getElem_cons_succ, List.setIfInBounds_toArray, List.set_cons_zero, List.set_cons_succ]
 refine wpAnyH_done (by kernel_rfl) ?_ _
 have hN6 := hst6.hN
 have hr0 : w6.cell? ⟨w.heap.size + 1 + 1, 0, none⟩ = some (.int .i64 0) := (blk_cell hbr6 0).trans rfl
 have hr1 : w6.cell? ⟨w.heap.size + 1 + 1, 1, none⟩ = some (.slice none 0 0) := (blk_cell hbr6 1).trans rfl
 have hrf0 : w6.frozen? ⟨w.heap.size + 1 + 1, 0, none⟩ = false := blk_frozen hbr6 0
 have hrf1 : w6.frozen? ⟨w.heap.size + 1 + 1, 1, none⟩ = false := blk_frozen hbr6 1
 have HN6 := Aside0.mk hN6
 have Htree := Aside0.mk htree
 have Hmore := Aside0.mk hmore
 have HB6 := Aside0.mk hB6
 have Hbr6 := Aside0.mk hbr6
 dsimp only at hp0 hp1 hpf0 hpf1
 clear hN6 htree hmore hB6 hbr6 hst6 hkeep hok2 hbN hbL hbV hbG hS0 hSn_ Hgr Ok Hs
 go_wp2_with fail
 obtain ⟨W7, hW7⟩ : ∃ W7, W7 = (w6.setCell ⟨w.heap.size + 1 + 1, 0, none⟩ (.int .i64 v)).setCell ⟨w.heap.size + 1 + 1, 1, none⟩ (.slice As more.length cs_) := ⟨_, rfl⟩
 have hb7 : W7.heap[w.heap.size + 1 + 1]? = some (.cells #[.int .i64 v, .slice As more.length cs_] 44 (0, 0)) := by
  rw [hW7]
  exact blk_put (cs := #[.int .i64 v, .slice none 0 0]) (blk_put Hbr6.out 0 _ rfl) 1 _ rfl
 have hlt3 : w.heap.size + 2 < W3.heap.size := by have := Hsz3.out; have := Hsz2.out; omega
 have hN7 : Kd.N k55 55 W7 w.heap.size (fun k => w.heap.size ≤ k) (.slice As more.length cs_) more := by
  rw [hW7]
  refine Kd.N_mono (Kd.N_lower (Kd.N_far (p := ⟨w.heap.size + 1 + 1, 1, none⟩) (Kd.N_far (p := ⟨w.heap.size + 1 + 1, 0, none⟩) HN6.out ?_ _) ?_ _) ?_) ?_
  ·intro k hk
   have hk : W3.heap.size ≤ k := hk
   show k ≠ w.heap.size + 1 + 1
   omega
  ·intro k hk
   have hk : W3.heap.size ≤ k := hk
   show k ≠ w.heap.size + 1 + 1
   omega
  ·show w.heap.size ≤ W3.heap.size
   omega
  ·intro k hk
   have hk : W3.heap.size ≤ k := hk
   omega
 have hB7 : Below w.heap.size w W7 := by rw [hW7]; exact below_set (below_set HB6.out (by show w.heap.size ≤ w.heap.size + 1 + 1; omega)) (by show w.heap.size ≤ w.heap.size + 1 + 1; omega)
 rw [← hW7]
 refine bodyPost_ret (results_ct rfl _ _ (w.heap.size + 1 + 1) 44 #[.int .i64 v, .slice As more.length cs_] (0, 0) _ rfl hb7 Try.underlying44 rfl (by kernel_rfl)) rfl ?_
 exact ⟨_, rfl, more, hN7, Htree.out, Hmore.out, hB7⟩
set_option maxHeartbeats 4000000 in
set_option maxRecDepth 100000 in
theorem make_err (a0 : Int) (A1 : Option Addr) (c1 : Nat) (l : List S82) (win : List Int) (v e : Int) (w : World) (hr1 : Kd.C k82 w A1 l.length l) (hc1 : l.length ≤ c1) (h : clear_Best.f a0 l = some (win, v, e)) (he : e ≠ 0) :
  Calls Try.prog 37 #[.int .i64 a0, .slice A1 l.length c1] w fun x w' => x = .returned (.tuple #[.agg #[.int .i64 0, .slice none 0 0], .int .i64 e]) ∧ Below w.heap.size w w' := by
 have Hbest := Aside0.mk (fun w' (hb : Below w.heap.size w w') => clear_Best.calls a0 A1 c1 l win v e w' (Kd.C_below hr1 hb) hc1 h)
 have hne : (e != 0) = true := by simpa using he
 clear hr1 h
 go_enter Try.func37, Try.ntmps37
 go_upto_region 1 with (fail)
 obtain ⟨W1, hW1⟩ : ∃ W1, W1 = ((w.alloc (.cells #[.int .i64 a0] 3)).alloc (.cells #[.slice A1 l.length c1] 40)).alloc (.cells #[.int .i64 0, .slice none 0 0] 44) := ⟨_, rfl⟩
 have hb1 : Below w.heap.size w W1 := by rw [hW1]; exact (((Below.refl _ w).alloc (Nat.le_refl _) _).alloc (by simp) _).alloc (by simp; omega) _
 have hbn : W1.heap[w.heap.size]? = some (.cells #[.int .i64 a0] 3 (0, 0)) := by
  rw [hW1]
  exact ((Below.heap_alloc _ _ _ (by simp; omega)).trans (Below.heap_alloc _ _ _ (by simp))).trans (heap_alloc_new w _)
 have hbl : W1.heap[w.heap.size + 1]? = some (.cells #[.slice A1 l.length c1] 40 (0, 0)) := by
  have h_ := heap_alloc_new (w.alloc (.cells #[.int .i64 a0] 3)) (.cells #[.slice A1 l.length c1] 40)
  rw [World.size_alloc] at h_
  rw [hW1]
  exact (Below.heap_alloc _ _ _ (by simp)).trans h_
 have hbr : W1.heap[w.heap.size + 2]? = some (.cells #[.int .i64 0, .slice none 0 0] 44 (0, 0)) := by
  have h_ := heap_alloc_new ((w.alloc (.cells #[.int .i64 a0] 3)).alloc (.cells #[.slice A1 l.length c1] 40)) (.cells #[.int .i64 0, .slice none 0 0] 44)
  rw [World.size_alloc, World.size_alloc] at h_
  rw [hW1]
  exact h_
 rw [← hW1]
 have hz0 : W1.cell? ⟨w.heap.size, 0, none⟩ = some (.int .i64 a0) := (blk_cell hbn 0).trans rfl
 have hz1 : W1.cell? ⟨w.heap.size + 1, 0, none⟩ = some (.slice A1 l.length c1) := (blk_cell hbl 0).trans rfl
 have Hb1 := Aside0.mk hb1
 have Hbr := Aside0.mk hbr
 clear hW1 hb1 hbn hbl hbr
 go_wp2_with fail
 refine (Hbest.out W1 Hb1.out).mono ?_
 rintro x w2 ⟨v0_, rfl, hR2, hb2⟩
 have Hb2 := Aside0.mk (Hb1.out.trans (hb2.mono Hb1.out.size))
 have Hbr2 := Aside0.mk (blk_below Hbr.out hb2)
 clear hb2 hR2 Hbest Hbr Hb1 hz0 hz1
 go_upto_region 3 with (fail)
 obtain ⟨W3, hW3⟩ : ∃ W3, W3 = w2.alloc (.cells #[.int .i64 v] 3) := ⟨_, rfl⟩
 have hb3 : Below w2.heap.size w2 W3 := by rw [hW3]; exact (Below.refl _ w2).alloc (Nat.le_refl _) _
 have HB3 := Aside0.mk (Hb2.out.trans (hb3.mono Hb2.out.size))
 have hbr3 := blk_below Hbr2.out hb3
 have hr0 : W3.cell? ⟨w.heap.size + 1 + 1, 0, none⟩ = some (.int .i64 0) := (blk_cell hbr3 0).trans rfl
 have hr1 : W3.cell? ⟨w.heap.size + 1 + 1, 1, none⟩ = some (.slice none 0 0) := (blk_cell hbr3 1).trans rfl
 have hrf0 : W3.frozen? ⟨w.heap.size + 1 + 1, 0, none⟩ = false := blk_frozen hbr3 0
 have hrf1 : W3.frozen? ⟨w.heap.size + 1 + 1, 1, none⟩ = false := blk_frozen hbr3 1
 have Hbr3 := Aside0.mk hbr3
 rw [← hW3]
 clear hW3 hb3 hbr3 Hb2 Hbr2
 go_wp2_with fail
 obtain ⟨W7, hW7⟩ : ∃ W7, W7 = (W3.setCell ⟨w.heap.size + 1 + 1, 0, none⟩ (.int .i64 0)).setCell ⟨w.heap.size + 1 + 1, 1, none⟩ (.slice none 0 0) := ⟨_, rfl⟩
 have hb7 : W7.heap[w.heap.size + 1 + 1]? = some (.cells #[.int .i64 0, .slice none 0 0] 44 (0, 0)) := by
  rw [hW7]
  exact blk_put (cs := #[.int .i64 0, .slice none 0 0]) (blk_put Hbr3.out 0 _ rfl) 1 _ rfl
 have hB7 : Below w.heap.size w W7 := by rw [hW7]; exact below_set (below_set HB3.out (by show w.heap.size ≤ w.heap.size + 1 + 1; omega)) (by show w.heap.size ≤ w.heap.size + 1 + 1; omega)
 rw [← hW7]
 refine bodyPost_ret (results_ct rfl _ _ (w.heap.size + 1 + 1) 44 #[.int .i64 0, .slice none 0 0] (0, 0) _ rfl hb7 Try.underlying44 rfl (by kernel_rfl)) rfl ?_
 exact ⟨rfl, hB7⟩
end Go.Proofs.Ytdamibblnjeooaa.H
