/- Texts of this claim, one behind the other. -/
import Derived.Test.YtdamibblnjeooaaMProofSoundb
import Derived.Test.YtdamibblnjeooaaMProofSoundf
import Derived.Test.YtdamibblnjeooaaMProofSoundc
import Derived.Test.YtdamibblnjeooaaMProofSoundg
import Derived.Test.YtdamibblnjeooaaMProofSounde
import Derived.BigRegion

/- ProofSound's law function: its calls give true (walked by hand). -/
namespace Go.Proofs.Ytdamibblnjeooaa.H
open Go.RowKit Go.Proofs.YtdamibblnjeooaaW.PrintWords Go.Proofs.YtdamibblnjeooaaW.PrintLast Go.Proofs.YtdamibblnjeooaaW.PrintMore
set_option linter.unusedVariables false
set_option linter.unusedSimpArgs false
def worldmintlaw29_ProofSound.f (k : Nat) (a0 : Int) (l1 l2 : List Int) (a3 a4 a5 a6 : Int) : Option Bool :=
 if ((Lit.int .i64 a0).wf && l1.all (fun x => (Lit.int .i64 x).wf) && l2.all (fun x => (Lit.int .i64 x).wf) && (Lit.int .i64 a3).wf && (Lit.int .i64 a4).wf && (Lit.int .i64 a5).wf) = true then some true else none
def leafS (ps : List Int) : S34 := ⟨-1, 0, 0, ps⟩
theorem gtree_f3 {n : Nat} {l : List S82} {v : Int} {ns : List S55} {i j : Nat} {dec : List Int} (h : GTree n l v ns i j dec) : ∀ k, i ≤ k → k < j → ∀ x, ns[k]? = some x → x.f3.length ≤ n := by
 induction h with
 | leaf i dec ps h hl hr hb =>
  intro k h1 h2 x hx
  obtain rfl : k = i := by omega
  rw [h] at hx
  obtain rfl := Option.some.inj hx
  show ps.length ≤ n
  omega
 | node i m j b dec h hb hp h1 h2 ih1 ih2 =>
  intro k a c x hx
  by_cases e : k = i
  ·subst e
   rw [h] at hx
   obtain rfl := Option.some.inj hx
   exact Nat.zero_le _
  ·by_cases e2 : k < m
   ·exact ih1 k (by omega) e2 x hx
   ·exact ih2 k (by omega) c x hx
theorem best_max (n : Int) (l : List S82) (hV : validP n l = 0) (c : List Int) (hc : feasP l [] c = true) : valP l c ≤ (searchP (fun _ => true) l).2 := by
 obtain ⟨_, _, _, hbb⟩ := validP_bids n l hV
 obtain ⟨p, hib, hse⟩ := search_best (fun _ => true) l (fun b hb => (hbb b hb).1.1)
 obtain ⟨hcr, hcp, _⟩ := feasP_facts l c [] hc
 obtain ⟨q, hq⟩ : ∃ q : Nat → Bool, q = fun (k : Nat) => decide ((k : Int) ∈ c) := ⟨_, rfl⟩
 have hcs : c = sel q l.length 0 := by rw [hq]; exact sel_of l.length c hcr hcp
 have hok : okS (fun _ => true) l [] c = true := by
  rw [← feas_ok l c [] hcr hcp (by simp)]
  exact hc
 rw [hcs] at hok
 have := hib.max q ((ok_sel (fun _ => true) l q).1 hok)
 rw [hse, hcs, valB_sel]
 exact this
theorem check_value {n : Int} {l : List S82} {win : List Int} {v : Int} {ns : List S55} (h : checkP n l win v ns = 0) : v = valP l win := by
 unfold checkP at h
 split at h
 ·rename_i h1; exact absurd h h1
 ·split at h
  ·cases h
  ·split at h
   ·cases h
   ·split at h
    ·cases h
    ·rename_i h4
     by_cases e : v = valP l win
     ·exact e
     ·exact absurd (.inr e) h4
/-- The rows and boxes that the law has made. -/
structure SE (g : List S82) (Ag : Option Addr) (win : List Int) (Aw : Option Addr) (v : Int) (ns : List S55) (An : Option Addr) (cn : Nat) (lf : List S34) (Al : Option Addr) (cl : Nat) (NS : List S34) (AN : Option Addr) (cN : Nat) (g20 g22 g23 : Nat) (X : World) : Prop where
 hg : Kd.C k82 X Ag g.length g
 hw : Kd.C (Kd.int .i64) X Aw win.length win
 hn : Kd.V k55 55 X 0 (fun _ => True) (.slice An ns.length cn) ns
 hl : Kd.V k34 34 X 0 (fun _ => True) (.slice Al lf.length cl) lf
 hN : Kd.V k34 34 X 0 (fun _ => True) (.slice AN NS.length cN) NS
 b20 : X.heap[g20]? = some (.cells #[.int .i64 v, .slice An ns.length cn] 44 (0, 0))
 b22 : X.heap[g22]? = some (.cells #[.int .i64 v, .slice Al lf.length cl] 30 (0, 0))
 b23 : X.heap[g23]? = some (.cells #[.int .i64 v, .slice AN NS.length cN] 30 (0, 0))
section
variable {g : List S82} {Ag : Option Addr} {win : List Int} {Aw : Option Addr} {v : Int} {ns : List S55} {An : Option Addr} {cn : Nat} {lf : List S34} {Al : Option Addr} {cl : Nat} {NS : List S34} {AN : Option Addr} {cN g20 g22 g23 : Nat} {X X1 : World}
theorem SE.step (h : SE g Ag win Aw v ns An cn lf Al cl NS AN cN g20 g22 g23 X) (hb : Below X.heap.size X X1) : SE g Ag win Aw v ns An cn lf Al cl NS AN cN g20 g22 g23 X1 :=
 ⟨Kd.C_below h.hg hb, Kd.C_below h.hw hb, Kd.V_below h.hn hb, Kd.V_below h.hl hb, Kd.V_below h.hN hb, blk_below h.b20 hb, blk_below h.b22 hb, blk_below h.b23 hb⟩
theorem SE.cells (h : SE g Ag win Aw v ns An cn lf Al cl NS AN cN g20 g22 g23 X) :
  X.cell? ⟨g20, 0, none⟩ = some (.int .i64 v) ∧ X.cell? ⟨g20, 1, none⟩ = some (.slice An ns.length cn) ∧ X.cell? ⟨g22, 0, none⟩ = some (.int .i64 v) ∧ X.cell? ⟨g22, 1, none⟩ = some (.slice Al lf.length cl) ∧ X.cell? ⟨g23, 0, none⟩ = some (.int .i64 v) ∧ X.cell? ⟨g23, 1, none⟩ = some (.slice AN NS.length cN) :=
 ⟨(blk_cell h.b20 0).trans rfl, (blk_cell h.b20 1).trans rfl, (blk_cell h.b22 0).trans rfl, (blk_cell h.b22 1).trans rfl, (blk_cell h.b23 0).trans rfl, (blk_cell h.b23 1).trans rfl⟩
end
set_option maxHeartbeats 8000000 in
set_option maxRecDepth 100000 in
theorem worldmintlaw29_ProofSound.calls (k : Nat) (a0 : Int) (A1 : Option Addr) (c1 : Nat) (l1 : List Int) (A2 : Option Addr) (c2 : Nat) (l2 : List Int) (a3 a4 a5 a6 : Int) (r : Bool) (w : World) (hr1 : Kd.C (Kd.int .i64) w A1 l1.length l1) (hc1 : l1.length ≤ c1) (hr2 : Kd.C (Kd.int .i64) w A2 l2.length l2) (hc2 : l2.length ≤ c2) (h : worldmintlaw29_ProofSound.f k a0 l1 l2 a3 a4 a5 a6 = some r) :
  Calls Try.prog 8 #[.int .i64 a0, .slice A1 l1.length c1, .slice A2 l2.length c2, .int .i64 a3, .int .i64 a4, .int .i64 a5, .int .i64 a6] w fun e w' => e = .returned (.bool r) ∧ Below w.heap.size w w' := by
 unfold worldmintlaw29_ProofSound.f at h
 by_cases hw : ((Lit.int .i64 a0).wf && l1.all (fun x => (Lit.int .i64 x).wf) && l2.all (fun x => (Lit.int .i64 x).wf) && (Lit.int .i64 a3).wf && (Lit.int .i64 a4).wf && (Lit.int .i64 a5).wf) = true
 case neg => rw [if_neg hw] at h; cases h
 rw [if_pos hw] at h
 obtain rfl := Option.some.inj h
 simp only [Bool.and_eq_true, List.all_eq_true] at hw
 obtain ⟨⟨⟨⟨⟨w0, w1⟩, wl2⟩, w3⟩, w4⟩, w5⟩ := hw
 obtain ⟨t, ht, ht0, ht1⟩ := lots_ok a0 w0
 obtain ⟨n, rfl⟩ := Int.eq_ofNat_of_zero_le (show 0 ≤ t by omega)
 obtain ⟨L, hL, hLl, hLg⟩ := bids_ok (n : Int) l1 w1 6 ht0 ht1 (by omega) (by omega)
 obtain ⟨ps, hps, hpl, hpr⟩ := rlots_ok (n : Int) l2 wl2 (by omega) ht1
 have hLl : L.length ≤ 6 := by omega
 obtain ⟨k1, h2⟩ := hL.ex
 obtain ⟨k2, h3⟩ := (given_ok L (by omega)).ex
 obtain ⟨k3, h4⟩ := hps.ex
 have hfine : ∀ b ∈ L.map cv, Fine (n : Int) b := fun b hb => by
  obtain ⟨y, hy, rfl⟩ := List.mem_map.1 hb
  obtain ⟨g1, g2, g3, g4, g5, g6, g7⟩ := hLg y hy
  exact ⟨g1, by show y.f0 ≤ _; omega, g3, by show y.f1 ≤ _; omega, g5, g6⟩
 have hV : validP (n : Int) (L.map cv) = 0 := fine_valid (n : Int) _ ht0 ht1 (by rw [List.length_map]; omega) hfine
 obtain ⟨win, hwin, hfe⟩ := win_ok (n : Int) L (by omega) (fun b hb => by have := (hLg b hb).2.2.2.2.2.2; omega) (fun b hb => by obtain ⟨g1, g2, g3, g4, g5, g6, g7⟩ := hLg b hb; exact ⟨g3, by omega⟩) (fun b hb => by obtain ⟨g1, g2, g3, g4, g5, g6, g7⟩ := hLg b hb; omega) hV a3 w3
 obtain ⟨k4, h5⟩ := hwin.ex
 obtain ⟨hr, _, _⟩ := feasP_facts (L.map cv) win [] hfe
 have hwl := feas_len (L.map cv) win hfe
 rw [List.length_map] at hwl
 obtain ⟨k5, h6⟩ := (value_ok (L.map cv) win hr (by omega) (fun b hb => by obtain ⟨g1, g2, g3, g4, g5, g6⟩ := hfine b hb; omega)).ex
 obtain ⟨hF, hFl⟩ := full_ok (n : Int) L (valP (L.map cv) win) (by omega) ht1 (by omega) (fun b hb => (hLg b hb).2.2.2.2.2.2)
 have hF3 := growP_f3 (L.map cv) ((n : Int)).toNat (L.length + 1) [] [] [] (fun x hx => by cases hx)
 generalize growP (L.map cv) ((n : Int)).toNat (L.length + 1) [] [] [] = NS at *
 obtain ⟨g, hg⟩ : ∃ g, g = L.map cv := ⟨_, rfl⟩
 have hgl : g.length = L.length := by rw [hg, List.length_map]
 rw [← hg] at h3 hfine hV hfe hr h6 hF
 obtain ⟨v, hv⟩ : ∃ v, v = valP g win := ⟨_, rfl⟩
 rw [← hv] at h6 hF
 obtain ⟨o1, ho1, ho1l, ho1f⟩ := spoilt9_ok v NS a4 a5 a6 w4 w5 (by omega) 8 (by omega) (fun x hx => by have := hF3 x hx; omega)
 obtain ⟨k6, h7⟩ := (cert_ok v [leafS ps] (by simp)).ex
 obtain ⟨k7, h8⟩ := (cert_ok v NS (by omega)).ex
 obtain ⟨k8, h9⟩ := (cert_ok o1.1 o1.2 (by omega)).ex
 generalize NS.map cn = CF at h8
 generalize o1.2.map cn = C1 at h9
 have hsound : ∀ (pv : Int) (pn : List S55), checkP (n : Int) g win pv pn = 0 → v = (searchP (fun _ => true) g).2 ∧ ∀ c, feasP g [] c = true → valP g c ≤ v := fun pv pn hc => by
  have e := check_value hc
  have hs := check_sound n g win pv pn (fun b hb => by
   obtain ⟨_, _, _, _, _, q6⟩ := hfine b hb
   exact ⟨lotsOk_nodup _ _ _ q6, fun y hy => by have := (lotsOk_len _ _ _ q6).2 y hy; omega⟩) hc
  rw [e, ← hv] at hs
  obtain ⟨bf1, bf2⟩ := best_feas (n : Int) g hV
  refine ⟨Int.le_antisymm ?_ ?_, hs⟩
  ·rw [hv]; exact best_max (n : Int) g hV win hfe
  ·rw [bf2]; exact hs _ bf1
 have hvalc : ∀ c, feasP g [] c = true → ∃ k, bids_Value.f k g c = some (valP g c) := fun c hc => (value_ok g c (feasP_facts g c [] hc).1 (by have := feas_len g c hc; omega) (fun b hb => by obtain ⟨g1, g2, g3, g4, g5, g6⟩ := hfine b hb; omega)).ex
 have hbf := best_f (n : Int) g hV
 have hmh := mhyp_ok n g hV
 generalize hbw : (searchP (fun _ => true) g).1 = bwin at hbf
 generalize hbv : (searchP (fun _ => true) g).2 = bv at hbf hmh hsound
 have H1 := Aside0.mk ht
 have H2 := Aside0.mk h2
 have H3 := Aside0.mk h3
 have H4 := Aside0.mk h4
 have H5 := Aside0.mk h5
 have H6 := Aside0.mk h6
 have HF := Aside0.mk hF
 have HO1 := Aside0.mk ho1
 have H7 := Aside0.mk h7
 have H8 := Aside0.mk h8
 have H9 := Aside0.mk h9
 have Hsound := Aside0.mk hsound
 have Hvalc := Aside0.mk hvalc
 have Hbf := Aside0.mk hbf
 have Hmh := Aside0.mk hmh
 have Hgl := Aside0.mk hgl
 have HL6 := Aside0.mk hLl
 have Hw45 : Aside0 ((Lit.int .i64 a4).wf = true ∧ (Lit.int .i64 a5).wf = true) := ⟨⟨w4, w5⟩⟩
 have Hr1 := Aside0.mk hr1
 have Hr2 := Aside0.mk hr2
 have Hn8 : Aside0 (n ≤ 8) := ⟨by omega⟩
 clear ht h2 h3 h4 h5 h6 hF ho1 h7 h8 h9 hsound hvalc hbf hmh hgl hLl w0 w1 wl2 w3 w4 w5 hr1 hr2 hL hLg hps hpl hpr hfine hV hwin hfe hr hwl hFl hF3 hg hv ho1l ho1f h hbw hbv ht0 ht1
 go_enter Try.func8, Try.ntmps8
 go_wp2_with fail
 refine (worldmintref27_Lots.calls a0 (n : Int) _ H1.out).mono ?_
 rintro e w1 ⟨rfl, hd1⟩
 have hb1 := hd1.below
 clear hd1
 go_wp2_with fail
 refine (worldmintref27_Bids.calls k1 (n : Int) _ _ l1 6 L _ (Kd.C_below Hr1.out hb1) hc1 H2.out).mono ?_
 rintro e w2 ⟨vb, rfl, ho2, hb2⟩
 have HB2 := Aside0.mk (hb1.trans (hb2.mono hb1.size))
 obtain ⟨Ab, cb, eb⟩ := Kd.S_slice ho2
 subst eb
 have V2 := Aside0.mk (Kd.S_V (base' := 0) ho2)
 have hcb := (Kd.S_reads' ho2).2.1
 have M2 := Aside0.mk (Kd.C_below Hr2.out HB2.out)
 clear ho2 hb1 hb2 Hr1 Hr2
 go_wp2_with fail
 refine (worldmintlaw29_given.calls k2 (fun _ => True) Ab cb L g w2 V2.out H3.out).mono ?_
 rintro e w3 ⟨vg, rfl, ho3, hb3⟩
 obtain ⟨Ag, cg, eg⟩ := Kd.N_slice ho3
 subst eg
 have HB3 := Aside0.mk (HB2.out.trans (hb3.mono HB2.out.size))
 have V3 := Aside0.mk (Kd.V_below V2.out hb3)
 have M3 := Aside0.mk (Kd.C_below M2.out hb3)
 have G3 := Aside0.mk (Kd.N_reads' ho3).2.2
 have hcg := (Kd.N_reads' ho3).2.1
 clear ho3 hb3 V2 HB2 M2
 go_wp2_with fail
 refine (worldmintref29_Win.calls k4 (n : Int) Ab cb L a3 win w3 (Kd.V_reads' V3.out).2.2 hcb H5.out).mono ?_
 rintro e w4 ⟨vw, rfl, ho4, hb4⟩
 obtain ⟨Aw, cw, ew⟩ := Kd.R_slice ho4
 subst ew
 have hcw := (Kd.R_reads' ho4).2.1
 have W4 := Aside0.mk (Kd.R_reads' ho4).2.2
 have HB4 := Aside0.mk (HB3.out.trans (hb4.mono HB3.out.size))
 have V4 := Aside0.mk (Kd.V_below V3.out hb4)
 have M4 := Aside0.mk (Kd.C_below M3.out hb4)
 have G4 := Aside0.mk (Kd.C_below G3.out hb4)
 clear ho4 hb4 HB3 V3 M3 G3
 go_wp2_with fail
 refine (bids_Value.calls k5 Ag cg g Aw cw win v w4 G4.out hcg W4.out hcw H6.out).mono ?_
 rintro e w5 ⟨rfl, hd5⟩
 have hb5 := hd5.below
 have HB5 := Aside0.mk (HB4.out.trans (hb5.mono HB4.out.size))
 have V5 := Aside0.mk (Kd.V_below V4.out hb5)
 have M5 := Aside0.mk (Kd.C_below M4.out hb5)
 have G5 := Aside0.mk (Kd.C_below G4.out hb5)
 have W5 := Aside0.mk (Kd.C_below W4.out hb5)
 clear hd5 hb5 HB4 V4 M4 G4 W4
 go_wp2_with fail
 refine (make_ok n Ag cg g bwin bv (DIn g) w5 G5.out hcg Hbf.out Hmh.out).mono ?_
 rintro e w6 ⟨vs, ns, rfl, ho6, htree, hnl, hb6⟩
 obtain ⟨An, cn0, en⟩ := Kd.N_slice ho6
 subst en
 have HB6 := Aside0.mk (HB5.out.trans (hb6.mono HB5.out.size))
 have V6 := Aside0.mk (Kd.V_below V5.out hb6)
 have M6 := Aside0.mk (Kd.C_below M5.out hb6)
 have G6 := Aside0.mk (Kd.C_below G5.out hb6)
 have W6 := Aside0.mk (Kd.C_below W5.out hb6)
 have N6 : Aside0 (Kd.V k55 55 w6 0 (fun _ => True) (.slice An ns.length cn0) ns) := ⟨Kd.V_mono (Kd.N_V (base' := 0) ho6) (fun _ _ => trivial)⟩
 have hcn := (Kd.N_reads' ho6).2.1
 have hns : ns.length ≤ 1023 := by
  have h1 : 2 ^ (g.length + 1) ≤ 2 ^ 10 := Nat.pow_le_pow_right (by omega) (by have := Hgl.out; have := HL6.out; omega)
  omega
 obtain ⟨NT, hNT⟩ : ∃ NT, NT = ns.map nc := ⟨_, rfl⟩
 have hNTl : NT.length = ns.length := by rw [hNT, List.length_map]
 have hNTf : ∀ x ∈ NT, x.f3.length ≤ 8 := fun x hx => by
  rw [hNT] at hx
  obtain ⟨y, hy, rfl⟩ := List.mem_map.1 hx
  obtain ⟨j, hj, he⟩ := List.mem_iff_getElem.1 hy
  have := gtree_f3 htree j (Nat.zero_le _) hj y (by rw [List.getElem?_eq_getElem hj, he])
  have := Hn8.out
  show y.f3.length ≤ 8
  omega
 obtain ⟨k9, h10⟩ := (taken_ok v ns (by omega)).ex
 rw [← hNT] at h10
 obtain ⟨o2, ho2, ho2l, ho2f⟩ := spoilt9_ok v NT a4 a5 a6 Hw45.out.1 Hw45.out.2 (by omega) 8 (by omega) hNTf
 obtain ⟨k10, h11⟩ := (cert_ok o2.1 o2.2 (by omega)).ex
 generalize o2.2.map cn = C2 at h11
 have H10 := Aside0.mk h10
 have HO2 := Aside0.mk ho2
 have H11 := Aside0.mk h11
 clear ho6 hb6 HB5 V5 M5 G5 W5 htree hnl hns hNT hNTl hNTf h10 ho2 ho2l ho2f h11
 go_upto_region 7 with (fail)
 obtain ⟨W7, hW7⟩ : ∃ W7, W7 = w6.alloc (.cells #[.int .i64 bv, .slice An ns.length cn0] 44) := ⟨_, rfl⟩
 obtain ⟨g20, hg20⟩ : ∃ g20, g20 = w6.heap.size := ⟨_, rfl⟩
 have hbk7 : W7.heap[g20]? = some (.cells #[.int .i64 bv, .slice An ns.length cn0] 44 (0, 0)) := by rw [hW7, hg20]; exact heap_alloc_new w6 _
 have hb7 : Below w6.heap.size w6 W7 := by rw [hW7]; exact (Below.refl _ w6).alloc (Nat.le_refl _) _
 have hy0 : W7.cell? ⟨g20, 0, none⟩ = some (.int .i64 bv) := (blk_cell hbk7 0).trans rfl
 have hyf : W7.frozen? ⟨g20, 0, none⟩ = false := blk_frozen hbk7 0
 have Hbk7 := Aside0.mk hbk7
 have Hb7 := Aside0.mk hb7
 have Hg20 := Aside0.mk hg20
 rw [← hW7]
 rw [← hg20]
 clear hW7 hbk7 hb7 hg20
 go_upto_region 8 with (fail)
 obtain ⟨W8, hW8⟩ : ∃ W8, W8 = W7.setCell ⟨g20, 0, none⟩ (.int .i64 v) := ⟨_, rfl⟩
 have hb8 : Below w6.heap.size w6 W8 := by rw [hW8]; exact below_set Hb7.out (by show w6.heap.size ≤ g20; exact Nat.le_of_eq Hg20.out.symm)
 have hbk8 : W8.heap[g20]? = some (.cells #[.int .i64 v, .slice An ns.length cn0] 44 (0, 0)) := by rw [hW8]; exact blk_put Hbk7.out 0 _ rfl
 have HB8 := Aside0.mk (HB6.out.trans (hb8.mono HB6.out.size))
 have V8 := Aside0.mk (Kd.V_below V6.out hb8)
 have M8 := Aside0.mk (Kd.C_below M6.out hb8)
 have G8 := Aside0.mk (Kd.C_below G6.out hb8)
 have W8c := Aside0.mk (Kd.C_below W6.out hb8)
 have N8 := Aside0.mk (Kd.V_below N6.out hb8)
 have Hbk8 := Aside0.mk hbk8
 rw [← hW8]
 clear hW8 hb8 hbk8 hy0 hyf Hbk7 Hb7 Hg20 HB6 V6 M6 G6 W6 N6
 go_wp2_with fail
 refine (worldmintref28_Lots.calls k3 (n : Int) A2 c2 l2 ps W8 M8.out hc2 H4.out).mono ?_
 rintro e w9 ⟨vp, rfl, ho9, hb9⟩
 obtain ⟨Ap, cp, ep⟩ := Kd.R_slice ho9
 subst ep
 have hcp := (Kd.R_reads' ho9).2.1
 have F9 := Aside0.mk (Kd.F_mono (Kd.R_F ho9) (fun _ _ => trivial) : Kd.F (Kd.int .i64) w9 (fun _ => True) Ap ps.length ps)
 have HB9 := Aside0.mk (HB8.out.trans (hb9.mono HB8.out.size))
 have V9 := Aside0.mk (Kd.V_below V8.out hb9)
 have G9 := Aside0.mk (Kd.C_below G8.out hb9)
 have W9c := Aside0.mk (Kd.C_below W8c.out hb9)
 have N9 := Aside0.mk (Kd.V_below N8.out hb9)
 have Hbk9 := Aside0.mk (blk_below Hbk8.out hb9)
 clear ho9 hb9 HB8 V8 M8 G8 W8c N8 Hbk8
 go_upto_region 9 with ((with_reducible refine gate_dst (N := 58) rfl ?_); refine Kd.N_lit k34 (w0 := w9) w9.heap.size 34 ?hg (N' := 58) ?hd (xs := [leafS ps]) (inner := [.int .i64 (-1), .int .i64 0, .int .i64 0, .slice Ap ps.length cp]) (ok := fun _ => True) (okp := fun _ => True) ?hr ?hp (fun _ hk => hk) trivial (Below.refl _ _) (Nat.le_refl _) (by simp) ?_; (case hd => rfl); (case hg => rfl); (case hr => first | (go_simp; done) | (go_simp; rfl)); (case hp => exact (Reps.c4 (show Kd.FK k34 _ _ (leafS ps) [.int .i64 (-1), .int .i64 0, .int .i64 0, .slice Ap ps.length cp] from k34_mkF _ _ (leafS ps) hcp F9.out) (Reps.none _ _))); intro v8 w8 ho8 hb8 hg8 hat8; clear hg8 hat8; obtain ⟨Al, cl, el⟩ := Kd.N_slice ho8; subst el; have Ho8 := Aside0.mk ho8; have Hb8 := Aside0.mk hb8; clear ho8 hb8)
 obtain ⟨W10, hW10⟩ : ∃ W10, W10 = w8.alloc (.cells #[.int .i64 v, .slice Al 1 cl] 30) := ⟨_, rfl⟩
 obtain ⟨g22, hg22⟩ : ∃ g22, g22 = w8.heap.size := ⟨_, rfl⟩
 have hbk10 : W10.heap[g22]? = some (.cells #[.int .i64 v, .slice Al [leafS ps].length cl] 30 (0, 0)) := by rw [hW10, hg22]; exact heap_alloc_new w8 _
 have hb10' : Below w8.heap.size w8 W10 := by rw [hW10]; exact (Below.refl _ w8).alloc (Nat.le_refl _) _
 have hb10 : Below w9.heap.size w9 W10 := Hb8.out.trans (hb10'.mono Hb8.out.size)
 have L10 : Aside0 (Kd.V k34 34 W10 0 (fun _ => True) (.slice Al [leafS ps].length cl) [leafS ps]) := ⟨Kd.V_below (Kd.V_mono (Kd.N_V (base' := 0) Ho8.out) (fun _ _ => trivial)) hb10'⟩
 have HB10 := Aside0.mk (HB9.out.trans (hb10.mono HB9.out.size))
 have V10 := Aside0.mk (Kd.V_below V9.out hb10)
 have G10 := Aside0.mk (Kd.C_below G9.out hb10)
 have W10c := Aside0.mk (Kd.C_below W9c.out hb10)
 have N10 := Aside0.mk (Kd.V_below N9.out hb10)
 have Hbk10 := Aside0.mk (blk_below Hbk9.out hb10)
 have Hbl10 := Aside0.mk hbk10
 rw [← hW10]
 rw [← hg22]
 clear hW10 hg22 hbk10 hb10' hb10 HB9 V9 G9 W9c N9 Hbk9 F9 Ho8 Hb8
 go_wp2_with fail
 refine (worldmintref29_Full.calls (n : Int) Ab cb L v v NS W10 (Kd.V_reads' V10.out).2.2 hcb HF.out).mono ?_
 rintro e w11 ⟨vn, rfl, ho11, hb11⟩
 obtain ⟨AN, cN, en⟩ := Kd.N_slice ho11
 subst en
 have HB11 := Aside0.mk (HB10.out.trans (hb11.mono HB10.out.size))
 have F11 : Aside0 (Kd.V k34 34 w11 0 (fun _ => True) (.slice AN NS.length cN) NS) := ⟨Kd.V_mono (Kd.N_V (base' := 0) ho11) (fun _ _ => trivial)⟩
 have L11 := Aside0.mk (Kd.V_below L10.out hb11)
 have G11 := Aside0.mk (Kd.C_below G10.out hb11)
 have W11c := Aside0.mk (Kd.C_below W10c.out hb11)
 have N11 := Aside0.mk (Kd.V_below N10.out hb11)
 have Hbk11 := Aside0.mk (blk_below Hbk10.out hb11)
 have Hbl11 := Aside0.mk (blk_below Hbl10.out hb11)
 clear ho11 hb11 HB10 V10 L10 G10 W10c N10 Hbk10 Hbl10
 go_upto_region 10 with (fail)
 obtain ⟨W12, hW12⟩ : ∃ W12, W12 = w11.alloc (.cells #[.int .i64 v, .slice AN NS.length cN] 30) := ⟨_, rfl⟩
 obtain ⟨g23, hg23⟩ : ∃ g23, g23 = w11.heap.size := ⟨_, rfl⟩
 have hb12 : Below w11.heap.size w11 W12 := by rw [hW12]; exact (Below.refl _ w11).alloc (Nat.le_refl _) _
 have hse : SE g Ag win Aw v ns An cn0 [leafS ps] Al cl NS AN cN g20 g22 g23 W12 :=
  ⟨Kd.C_below G11.out hb12, Kd.C_below W11c.out hb12, Kd.V_below N11.out hb12, Kd.V_below L11.out hb12, Kd.V_below F11.out hb12, blk_below Hbk11.out hb12, blk_below Hbl11.out hb12, by rw [hW12, hg23]; exact heap_alloc_new w11 _⟩
 have HB12 := Aside0.mk (HB11.out.trans (hb12.mono HB11.out.size))
 have Hse := Aside0.mk hse
 rw [← hW12]
 rw [← hg23]
 clear hW12 hg23 hb12 hse HB11 F11 L11 G11 W11c N11 Hbk11 Hbl11
 have Hkeep : Aside0 (∀ w', Below W12.heap.size W12 w' → w'.cell? ⟨g20, 0, none⟩ = some (.int .i64 v) ∧ w'.cell? ⟨g20, 1, none⟩ = some (.slice An ns.length cn0) ∧ w'.cell? ⟨g22, 0, none⟩ = some (.int .i64 v) ∧ w'.cell? ⟨g22, 1, none⟩ = some (.slice Al [leafS ps].length cl) ∧ w'.cell? ⟨g23, 0, none⟩ = some (.int .i64 v) ∧ w'.cell? ⟨g23, 1, none⟩ = some (.slice AN NS.length cN)) := ⟨fun w' hb => (Hse.out.step hb).cells⟩
 refine wp_region_held_drew (S := fun w' => w'.cell? ⟨g20, 0, none⟩ = some (.int .i64 v) ∧ w'.cell? ⟨g20, 1, none⟩ = some (.slice An ns.length cn0) ∧ w'.cell? ⟨g22, 0, none⟩ = some (.int .i64 v) ∧ w'.cell? ⟨g22, 1, none⟩ = some (.slice Al [leafS ps].length cl) ∧ w'.cell? ⟨g23, 0, none⟩ = some (.int .i64 v) ∧ w'.cell? ⟨g23, 1, none⟩ = some (.slice AN NS.length cN)) (by kernel_rfl) (Hkeep.out W12.drew (below_drew1 (Below.refl _ _))) ?_
 intro hS0
 refine wpAnyH_take (i := 0) (v := ?_) rfl (by kernel_rfl) (by kernel_rfl) (by kernel_rfl) (fun _ _ _ h => h) (Or.inl ⟨by rfl, ?_⟩) (by assumption) ?_
 rotate_left
 ·(intro w_ hSw_; (try dsimp only at hSw_); go_simp; try with_reducible rfl)
 try simp only [Act.put, List.getElem_toArray, List.getElem_cons_zero, List.getElem_cons_succ, List.setIfInBounds_toArray, List.set_cons_zero, List.set_cons_succ]
 refine wpAnyH_take (i := 1) (v := ?_) rfl (by kernel_rfl) (by kernel_rfl) (by kernel_rfl) (fun _ _ _ h => h) (Or.inl ⟨by rfl, ?_⟩) (by assumption) ?_
 rotate_left
 ·(intro w_ hSw_; (try dsimp only at hSw_); go_simp; try with_reducible rfl)
 try simp only [Act.put, List.getElem_toArray, List.getElem_cons_zero, List.getElem_cons_succ, List.setIfInBounds_toArray, List.set_cons_zero, List.set_cons_succ]
 refine wpAnyH_take (i := 3) (v := ?_) rfl (by kernel_rfl) (by kernel_rfl) (by kernel_rfl) (fun _ _ _ h => h) (Or.inl ⟨by rfl, ?_⟩) (by assumption) ?_
 rotate_left
 ·(intro w_ hSw_; (try dsimp only at hSw_); go_simp; try with_reducible rfl)
 try simp only [Act.put, List.getElem_toArray, List.getElem_cons_zero, List.getElem_cons_succ, List.setIfInBounds_toArray, List.set_cons_zero, List.set_cons_succ]
 refine wpAnyH_take (i := 5) (v := ?_) rfl (by kernel_rfl) (by kernel_rfl) (by kernel_rfl) (fun _ _ _ h => h) (Or.inl ⟨by rfl, ?_⟩) (by assumption) ?_
 rotate_left
 ·(intro w_ hSw_; (try dsimp only at hSw_); go_simp; try with_reducible rfl)
 try simp only [Act.put, List.getElem_toArray, List.getElem_cons_zero, List.getElem_cons_succ, List.setIfInBounds_toArray, List.set_cons_zero, List.set_cons_succ]
 refine wpAnyH_take (i := 6) (v := ?_) rfl (by kernel_rfl) (by kernel_rfl) (by kernel_rfl) (fun _ _ _ h => h) (Or.inl ⟨by rfl, ?_⟩) (by assumption) ?_
 rotate_left
 ·(intro w_ hSw_; (try dsimp only at hSw_); go_simp; try with_reducible rfl)
 try simp only [Act.put, List.getElem_toArray, List.getElem_cons_zero, List.getElem_cons_succ, List.setIfInBounds_toArray, List.set_cons_zero, List.set_cons_succ]
 refine wpAnyH_take (i := 7) (v := ?_) rfl (by kernel_rfl) (by kernel_rfl) (by kernel_rfl) (fun _ _ _ h => h) (Or.inl ⟨by rfl, ?_⟩) (by assumption) ?_
 rotate_left
 ·(intro w_ hSw_; (try dsimp only at hSw_); go_simp; try with_reducible rfl)
 try simp only [Act.put, List.getElem_toArray, List.getElem_cons_zero, List.getElem_cons_succ, List.setIfInBounds_toArray, List.set_cons_zero, List.set_cons_succ]
 refine wpAnyH_take (i := 8) (v := ?_) rfl (by kernel_rfl) (by kernel_rfl) (by kernel_rfl) (fun _ _ _ h => h) (Or.inl ⟨by rfl, ?_⟩) (by assumption) ?_
 rotate_left
 ·(intro w_ hSw_; (try dsimp only at hSw_); go_simp; try with_reducible rfl)
 try simp only [Act.put, List.getElem_toArray, List.getElem_cons_zero, List.getElem_cons_succ, List.setIfInBounds_toArray, List.set_cons_zero, List.set_cons_succ]
 refine wpAnyH_take (i := 11) (v := ?_) rfl (by kernel_rfl) (by kernel_rfl) (by kernel_rfl) (fun _ _ _ h => h) (Or.inl ⟨by rfl, ?_⟩) (by assumption) ?_
 rotate_left
 ·(intro w_ hSw_; (try dsimp only at hSw_); go_simp; try with_reducible rfl)
 try simp only [Act.put, List.getElem_toArray, List.getElem_cons_zero, List.getElem_cons_succ, List.setIfInBounds_toArray, List.set_cons_zero, List.set_cons_succ]
 refine wpAnyH_take (i := 13) (v := ?_) rfl (by kernel_rfl) (by kernel_rfl) (by kernel_rfl) (fun _ _ _ h => h) (Or.inl ⟨by rfl, ?_⟩) (by assumption) ?_
 rotate_left
 ·(intro w_ hSw_; (try dsimp only at hSw_); go_simp; try with_reducible rfl)
 try simp only [Act.put, List.getElem_toArray, List.getElem_cons_zero, List.getElem_cons_succ, List.setIfInBounds_toArray, List.set_cons_zero, List.set_cons_succ]
 refine wpAnyH_take (i := 14) (v := ?_) rfl (by kernel_rfl) (by kernel_rfl) (by kernel_rfl) (fun _ _ _ h => h) (Or.inl ⟨by rfl, ?_⟩) (by assumption) ?_
 rotate_left
 ·(intro w_ hSw_; (try dsimp only at hSw_); go_simp; try with_reducible rfl)
 try simp only [Act.put, List.getElem_toArray, List.getElem_cons_zero, List.getElem_cons_succ, List.setIfInBounds_toArray, List.set_cons_zero, List.set_cons_succ]
 refine wpAnyH_take (i := 15) (v := ?_) rfl (by kernel_rfl) (by kernel_rfl) (by kernel_rfl) (fun _ _ _ h => h) (Or.inl ⟨by rfl, ?_⟩) (by assumption) ?_
 rotate_left
 ·(intro w_ hSw_; (try dsimp only at hSw_); go_simp; try with_reducible rfl)
 try simp only [Act.put, List.getElem_toArray, List.getElem_cons_zero, List.getElem_cons_succ, List.setIfInBounds_toArray, List.set_cons_zero, List.set_cons_succ]
 refine wpAnyH_ready (rs := [2]) (by kernel_rfl) (by simp) ?_
 refine AllReadyH.cons rfl (fun K hK => ?_) AllReadyH.nil
 go_simp
 have hd := below_drew1 (Below.refl W12.heap.size W12)
 refine (worldmintlaw29_certificate.calls k6 v (fun _ => True) Al cl [leafS ps] v [cn (leafS ps)] W12.drew (Kd.V_below Hse.out.hl hd) H7.out).mono ?_
 rintro e w13 ⟨vt, rfl, ho13, hb13⟩
 obtain ⟨Ac1, cc1, ec1⟩ := Kd.N_slice ho13
 subst ec1
 have HB13 : Aside0 (Below W12.heap.size W12 w13) := ⟨hd.trans (hb13.mono hd.size)⟩
 have X13 : Aside0 (Kd.V k55 55 w13 0 (fun _ => True) (.slice Ac1 [cn (leafS ps)].length cc1) [cn (leafS ps)]) := ⟨Kd.V_mono (Kd.N_V (base' := 0) ho13) (fun _ _ => trivial)⟩
 refine hK.out _ _ (Hkeep.out _ HB13.out) (fun hSn_ => ?_)
 clear hK K
 try simp only [Act.put, List.getElem_toArray, List.getElem_cons_zero, List.getElem_cons_succ, List.setIfInBounds_toArray, List.set_cons_zero, List.set_cons_succ]
 clear ho13 hb13 hd
 refine wpAnyH_ready (rs := [4]) (by kernel_rfl) (by simp) ?_
 refine AllReadyH.cons rfl (fun K hK => ?_) AllReadyH.nil
 go_simp
 refine (worldmintlaw29_certificate.calls k7 v (fun _ => True) AN cN NS v CF w13 (Kd.V_below Hse.out.hN HB13.out) H8.out).mono ?_
 rintro e w14 ⟨vt, rfl, ho14, hb14⟩
 obtain ⟨Ac2, cc2, ec2⟩ := Kd.N_slice ho14
 subst ec2
 have HB14 := Aside0.mk (HB13.out.trans (hb14.mono HB13.out.size))
 have X14 := Aside0.mk (Kd.V_below X13.out hb14)
 have Y14 : Aside0 (Kd.V k55 55 w14 0 (fun _ => True) (.slice Ac2 CF.length cc2) CF) := ⟨Kd.V_mono (Kd.N_V (base' := 0) ho14) (fun _ _ => trivial)⟩
 refine hK.out _ _ (Hkeep.out _ HB14.out) (fun hSn_ => ?_)
 clear hK K
 try simp only [Act.put, List.getElem_toArray, List.getElem_cons_zero, List.getElem_cons_succ, List.setIfInBounds_toArray, List.set_cons_zero, List.set_cons_succ]
 clear ho14 hb14 HB13 X13
 refine wpAnyH_ready (rs := [9]) (by kernel_rfl) (by simp) ?_
 refine AllReadyH.cons rfl (fun K hK => ?_) AllReadyH.nil
 go_simp
 refine (worldmintref29_Spoilt.calls v (fun _ => True) AN cN NS a4 a5 a6 o1.1 o1.2 w14 (Kd.V_below Hse.out.hN HB14.out) HO1.out).mono ?_
 rintro e w15 ⟨vt, rfl, ho15, hb15⟩
 obtain ⟨As1, cs1, es1⟩ := Kd.N_slice ho15
 subst es1
 have HB15 := Aside0.mk (HB14.out.trans (hb15.mono HB14.out.size))
 have X15 := Aside0.mk (Kd.V_below X14.out hb15)
 have Y15 := Aside0.mk (Kd.V_below Y14.out hb15)
 have S15 : Aside0 (Kd.V k34 34 w15 0 (fun _ => True) (.slice As1 o1.2.length cs1) o1.2) := ⟨Kd.V_mono (Kd.N_V (base' := 0) ho15) (fun _ _ => trivial)⟩
 refine hK.out _ _ (Hkeep.out _ HB15.out) (fun hSn_ => ?_)
 clear hK K
 try simp only [Act.put, List.getElem_toArray, List.getElem_cons_zero, List.getElem_cons_succ, List.setIfInBounds_toArray, List.set_cons_zero, List.set_cons_succ]
 clear ho15 hb15 HB14 X14 Y14
 refine wpAnyH_ready (rs := [10]) (by kernel_rfl) (by simp) ?_
 refine AllReadyH.cons rfl (fun K hK => ?_) AllReadyH.nil
 go_simp
 refine (worldmintlaw29_certificate.calls k8 o1.1 (fun _ => True) As1 cs1 o1.2 o1.1 C1 w15 S15.out H9.out).mono ?_
 rintro e w16 ⟨vt, rfl, ho16, hb16⟩
 obtain ⟨Ac3, cc3, ec3⟩ := Kd.N_slice ho16
 subst ec3
 have HB16 := Aside0.mk (HB15.out.trans (hb16.mono HB15.out.size))
 have X16 := Aside0.mk (Kd.V_below X15.out hb16)
 have Y16 := Aside0.mk (Kd.V_below Y15.out hb16)
 have Z16 : Aside0 (Kd.V k55 55 w16 0 (fun _ => True) (.slice Ac3 C1.length cc3) C1) := ⟨Kd.V_mono (Kd.N_V (base' := 0) ho16) (fun _ _ => trivial)⟩
 refine hK.out _ _ (Hkeep.out _ HB16.out) (fun hSn_ => ?_)
 clear hK K
 try simp only [Act.put, List.getElem_toArray, List.getElem_cons_zero, List.getElem_cons_succ, List.setIfInBounds_toArray, List.set_cons_zero, List.set_cons_succ]
 clear ho16 hb16 HB15 X15 Y15 S15
 refine wpAnyH_ready (rs := [12]) (by kernel_rfl) (by simp) ?_
 refine AllReadyH.cons rfl (fun K hK => ?_) AllReadyH.nil
 go_simp
 refine (worldmintlaw29_taken.calls k9 v (fun _ => True) An cn0 ns v NT w16 (Kd.V_below Hse.out.hn HB16.out) H10.out).mono ?_
 rintro e w17 ⟨vt, rfl, ho17, hb17⟩
 obtain ⟨At, ct, et⟩ := Kd.N_slice ho17
 subst et
 have HB17 := Aside0.mk (HB16.out.trans (hb17.mono HB16.out.size))
 have X17 := Aside0.mk (Kd.V_below X16.out hb17)
 have Y17 := Aside0.mk (Kd.V_below Y16.out hb17)
 have Z17 := Aside0.mk (Kd.V_below Z16.out hb17)
 have S17 : Aside0 (Kd.V k34 34 w17 0 (fun _ => True) (.slice At NT.length ct) NT) := ⟨Kd.V_mono (Kd.N_V (base' := 0) ho17) (fun _ _ => trivial)⟩
 refine hK.out _ _ (Hkeep.out _ HB17.out) (fun hSn_ => ?_)
 clear hK K
 try simp only [Act.put, List.getElem_toArray, List.getElem_cons_zero, List.getElem_cons_succ, List.setIfInBounds_toArray, List.set_cons_zero, List.set_cons_succ]
 clear ho17 hb17 HB16 X16 Y16 Z16
 refine wpAnyH_ready (rs := [16]) (by kernel_rfl) (by simp) ?_
 refine AllReadyH.cons rfl (fun K hK => ?_) AllReadyH.nil
 go_simp
 refine (worldmintref29_Spoilt.calls v (fun _ => True) At ct NT a4 a5 a6 o2.1 o2.2 w17 S17.out HO2.out).mono ?_
 rintro e w18 ⟨vt, rfl, ho18, hb18⟩
 obtain ⟨As2, cs2, es2⟩ := Kd.N_slice ho18
 subst es2
 have HB18 := Aside0.mk (HB17.out.trans (hb18.mono HB17.out.size))
 have X18 := Aside0.mk (Kd.V_below X17.out hb18)
 have Y18 := Aside0.mk (Kd.V_below Y17.out hb18)
 have Z18 := Aside0.mk (Kd.V_below Z17.out hb18)
 have S18 : Aside0 (Kd.V k34 34 w18 0 (fun _ => True) (.slice As2 o2.2.length cs2) o2.2) := ⟨Kd.V_mono (Kd.N_V (base' := 0) ho18) (fun _ _ => trivial)⟩
 refine hK.out _ _ (Hkeep.out _ HB18.out) (fun hSn_ => ?_)
 clear hK K
 try simp only [Act.put, List.getElem_toArray, List.getElem_cons_zero, List.getElem_cons_succ, List.setIfInBounds_toArray, List.set_cons_zero, List.set_cons_succ]
 clear ho18 hb18 HB17 X17 Y17 Z17 S17
 refine wpAnyH_ready (rs := [17]) (by kernel_rfl) (by simp) ?_
 refine AllReadyH.cons rfl (fun K hK => ?_) AllReadyH.nil
 go_simp
 refine (worldmintlaw29_certificate.calls k10 o2.1 (fun _ => True) As2 cs2 o2.2 o2.1 C2 w18 S18.out H11.out).mono ?_
 rintro e w19 ⟨vt, rfl, ho19, hb19⟩
 obtain ⟨Ac4, cc4, ec4⟩ := Kd.N_slice ho19
 subst ec4
 have HB19 := Aside0.mk (HB18.out.trans (hb19.mono HB18.out.size))
 have X19 := Aside0.mk (Kd.V_below X18.out hb19)
 have Y19 := Aside0.mk (Kd.V_below Y18.out hb19)
 have Z19 := Aside0.mk (Kd.V_below Z18.out hb19)
 have U19 : Aside0 (Kd.V k55 55 w19 0 (fun _ => True) (.slice Ac4 C2.length cc4) C2) := ⟨Kd.V_mono (Kd.N_V (base' := 0) ho19) (fun _ _ => trivial)⟩
 refine hK.out _ _ (Hkeep.out _ HB19.out) (fun hSn_ => ?_)
 clear hK K
 try simp only [Act.put, List.getElem_toArray, List.getElem_cons_zero, List.getElem_cons_succ, List.setIfInBounds_toArray, List.set_cons_zero, List.set_cons_succ]
 clear ho19 hb19 HB18 X18 Y18 Z18 S18
 refine wpAnyH_ready (rs := [18]) (by kernel_rfl) (by simp) ?_
 refine AllReadyH.cons rfl (fun K hK => ?_) AllReadyH.nil
 go_simp
 obtain ⟨W20, hW20⟩ : ∃ W20, W20 = w19.alloc (.cells #[.int .i64 v, .slice An ns.length cn0, .int .i64 v, .slice Ac1 1 cc1, .int .i64 v, .slice Ac2 CF.length cc2, .int .i64 o1.1, .slice Ac3 C1.length cc3, .int .i64 o2.1, .slice Ac4 C2.length cc4] 44) := ⟨_, rfl⟩
 rw [← hW20]
 have hb20 : Below w19.heap.size w19 W20 := by rw [hW20]; exact (Below.refl _ w19).alloc (Nat.le_refl _) _
 have hbk : W20.heap[w19.heap.size]? = some (.cells #[.int .i64 v, .slice An ns.length cn0, .int .i64 v, .slice Ac1 1 cc1, .int .i64 v, .slice Ac2 CF.length cc2, .int .i64 o1.1, .slice Ac3 C1.length cc3, .int .i64 o2.1, .slice Ac4 C2.length cc4] 44 (0, 0)) := by rw [hW20]; exact heap_alloc_new w19 _
 have HB20 := Aside0.mk (HB19.out.trans (hb20.mono HB19.out.size))
 have hse20 := Hse.out.step HB20.out
 have hx20 := Kd.V_below X19.out hb20
 have hy20 := Kd.V_below Y19.out hb20
 have hz20 := Kd.V_below Z19.out hb20
 have hu20 := Kd.V_below U19.out hb20
 have hent : ∀ i, i < 5 → ∃ (pv : Int) (pn : List S55) (A : Option Addr) (c : Nat), (∀ w', Below W20.heap.size W20 w' → w'.cell? ⟨w19.heap.size, i * 2, none⟩ = some (.int .i64 pv) ∧ w'.cell? ⟨w19.heap.size, i * 2 + 1, none⟩ = some (.slice A pn.length c)) ∧ Kd.V k55 55 W20 0 (fun _ => True) (.slice A pn.length c) pn := by
  intro i hi
  have hc := fun w' (hb : Below W20.heap.size W20 w') => blk_below hbk hb
  rcases (by omega : i = 0 ∨ i = 1 ∨ i = 2 ∨ i = 3 ∨ i = 4) with rfl | rfl | rfl | rfl | rfl
  ·exact ⟨v, ns, An, cn0, fun w' hb => ⟨(blk_cell (hc w' hb) 0).trans rfl, (blk_cell (hc w' hb) 1).trans rfl⟩, hse20.hn⟩
  ·exact ⟨v, [cn (leafS ps)], Ac1, cc1, fun w' hb => ⟨(blk_cell (hc w' hb) 2).trans rfl, (blk_cell (hc w' hb) 3).trans rfl⟩, hx20⟩
  ·exact ⟨v, CF, Ac2, cc2, fun w' hb => ⟨(blk_cell (hc w' hb) 4).trans rfl, (blk_cell (hc w' hb) 5).trans rfl⟩, hy20⟩
  ·exact ⟨o1.1, C1, Ac3, cc3, fun w' hb => ⟨(blk_cell (hc w' hb) 6).trans rfl, (blk_cell (hc w' hb) 7).trans rfl⟩, hz20⟩
  ·exact ⟨o2.1, C2, Ac4, cc4, fun w' hb => ⟨(blk_cell (hc w' hb) 8).trans rfl, (blk_cell (hc w' hb) 9).trans rfl⟩, hu20⟩
 have Hent := Aside0.mk hent
 have CG := Aside0.mk hse20.hg
 have CW := Aside0.mk hse20.hw
 have HBW := Aside0.mk (HB12.out.trans (HB20.out.mono HB12.out.size))
 refine hK.out _ _ (Hkeep.out _ HB20.out) (fun hSn_ => ?_)
 clear hK K
 try simp only [Act.put, List.getElem_toArray, List.getElem_cons_zero, List.getElem_cons_succ, List.setIfInBounds_toArray, List.set_cons_zero, List.set_cons_succ]
 refine wpAnyH_take (i := 19) (v := ?_) rfl (by kernel_rfl) (by kernel_rfl) (by kernel_rfl) (fun _ _ _ h => h) (Or.inl ⟨by rfl, ?_⟩) (by assumption) ?_
 rotate_left
 ·(intro w_ hSw_; (try dsimp only at hSw_); go_simp; try with_reducible rfl)
 try simp only [Act.put, List.getElem_toArray, List.getElem_cons_zero, List.getElem_cons_succ, List.setIfInBounds_toArray, List.set_cons_zero, List.set_cons_succ]
 refine wpAnyH_done (by kernel_rfl) ?_ _
 clear hW20 hb20 hbk hse20 hx20 hy20 hz20 hu20 hent hS0 hSn_ Hkeep HB20 HB19 X19 Y19 Z19 U19 Hse HB12 H1 H2 H3 H4 H5 H6 HF HO1 H7 H8 H9 H10 HO2 H11 Hmh
 go_wp2_with fail
 refine (clear_Best.calls (n : Int) Ag cg g bwin bv 0 W20 CG.out hcg Hbf.out).mono ?_
 rintro e w21 ⟨vw, rfl, ho21, hb21⟩
 have Hb21 := Aside0.mk hb21
 clear ho21 hb21
 go_wp2
 go_loopw [28] (fun a wr => ∃ m : Nat, m ≤ 5 ∧ a = .int .i64 m ∧ Aside0 (Below W20.heap.size W20 wr)) (fun a _ => 5 - (intOf a).toNat)
 case atStart => exact ⟨0, by omega, rfl, Hb21⟩
 case round =>
  clear Hb21
  obtain ⟨m, hm, rfl, HBr⟩ := hrel
  by_cases hlt : m < 5
  ·have d1 : decide ((m : Int) < 5) = true := decide_eq_true (by omega)
   have d2 : decide (m < 5) = true := decide_eq_true hlt
   have hmI : (m : Int) < 5 := by omega
   obtain ⟨pv, pn, A, c, hcell, hvp⟩ := Hent.out m hlt
   have hnc := (Kd.V_reads' hvp).2.1
   obtain ⟨hx0, hx1⟩ := hcell wr HBr.out
   have hwm : IntKind.i64.wrap ((m : Int) + 1) = (m : Int) + 1 := IntWalk.i64_in _ (by omega)
   have Hq1 := Aside0.mk (proof_Check.calls (n : Int) Ag cg g Aw cw win pv A c pn _ wr (Kd.C_below CG.out HBr.out) hcg (Kd.C_below CW.out HBr.out) hcw (Kd.V_reads' (Kd.V_below hvp HBr.out)).2.2 hnc rfl)
   obtain ⟨ec, hec⟩ : ∃ ec, ec = checkP (n : Int) g win pv pn := ⟨_, rfl⟩
   rw [← hec] at Hq1
   have Hec := Aside0.mk hec
   clear hcell hvp hec
   go_wp2_with fail
   refine Hq1.out.mono ?_
   rintro e w22 ⟨rfl, hb22⟩
   have HB22 := Aside0.mk (HBr.out.trans (hb22.mono HBr.out.size))
   clear hb22 Hq1 HBr hx0 hx1
   by_cases hz : ec = 0
   ·obtain ⟨hvb, hsn⟩ := Hsound.out pv pn (by rw [← Hec.out]; exact hz)
    subst hz
    have Hsn := Aside0.mk hsn
    have hvv : (v != bv) = false := by simpa using hvb
    clear hsn hvb Hec
    go_wp2
    have hwmm := hwm
    go_loopw [29] (fun b wr => ∃ q : Nat, q ≤ 64 ∧ b = .int .i64 q ∧ Aside0 (Below W20.heap.size W20 wr)) (fun b _ => 64 - (intOf b).toNat)
    case atStart => exact ⟨0, by omega, rfl, HB22⟩
    case round =>
     clear HB22
     obtain ⟨q, hq, rfl, HBq⟩ := hrel
     by_cases hlq : q < 64
     ·have e1 : decide ((q : Int) < 64) = true := decide_eq_true (by omega)
      have e2 : decide (q < 64) = true := decide_eq_true hlq
      have hwq : IntKind.i64.wrap ((q : Int) + 1) = (q : Int) + 1 := IntWalk.i64_in _ (by omega)
      have hch := choice_ok g.length (by have := Hgl.out; have := HL6.out; omega) g.length 0 q [] (Nat.sub_zero _) (Nat.zero_le _) (Nat.le_refl _) (by omega)
      rw [List.nil_append] at hch
      obtain ⟨kc, hkc⟩ := hch.ex
      have Hkc : Aside0 (worldmintref27_Choice.f kc (q : Int) (g.length : Int) = some (choiceP g.length q 0)) := ⟨hkc⟩
      generalize choiceP g.length q 0 = ch at Hkc
      clear hch hkc
      go_wp2_with fail
      refine (worldmintref27_Choice.calls kc (q : Int) (g.length : Int) ch _ Hkc.out).mono ?_
      rintro e w30 ⟨vc, rfl, ho30, hb30⟩
      obtain ⟨Ac, cc, ec2⟩ := Kd.R_slice ho30
      subst ec2
      have hcc := (Kd.R_reads' ho30).2.1
      have C30 := Aside0.mk (Kd.R_reads' ho30).2.2
      have HB30 := Aside0.mk (HBq.out.trans (hb30.mono HBq.out.size))
      clear ho30 hb30 HBq Hkc
      obtain ⟨fb, hfb⟩ : ∃ fb, fb = feasP g [] ch := ⟨_, rfl⟩
      have hfc := bids_Feasible.calls Ag cg g Ac cc ch (feasP g [] ch) w30 (Kd.C_below CG.out HB30.out) hcg C30.out hcc rfl
      rw [← hfb] at hfc
      have Hfc := Aside0.mk hfc
      have Hfb := Aside0.mk hfb
      clear hfc hfb
      go_wp2_with fail
      refine Hfc.out.mono ?_
      rintro e w31 ⟨rfl, hb31⟩
      have HB31 := Aside0.mk (HB30.out.trans (hb31.mono HB30.out.size))
      have C31 := Aside0.mk (Kd.C_below C30.out hb31)
      clear hb31 HB30 C30 Hfc
      cases fb
      ·go_wp2
       go_roundw
       case rel => exact ⟨q + 1, by omega, by go_num, HB31⟩
       case measure => simp [intOf]; omega
      ·have hle := Hsn.out ch Hfb.out.symm
       obtain ⟨kv, hkv⟩ := Hvalc.out ch Hfb.out.symm
       generalize valP g ch = vv at hle hkv
       have e3 : decide (v < vv) = false := decide_eq_false (by omega)
       have Hkv := Aside0.mk hkv
       clear hkv hle
       go_wp2_with fail
       refine (bids_Value.calls kv Ag cg g Ac cc ch vv _ (Kd.C_below CG.out HB31.out) hcg C31.out hcc Hkv.out).mono ?_
       rintro e w32 ⟨rfl, hd32⟩
       have HB32 := Aside0.mk (HB31.out.trans (hd32.below.mono HB31.out.size))
       clear hd32 HB31 C31
       go_wp2
       go_roundw
       case rel => exact ⟨q + 1, by omega, by go_num, HB32⟩
       case measure => simp [intOf]; omega
     ·obtain rfl : q = 64 := by omega
      go_wp2
      go_roundw
      case rel => exact ⟨m + 1, by omega, by go_num, HBq⟩
      case measure => simp [intOf]; omega
   ·have hzz : (ec != 0) = true := by simpa using hz
    clear Hec hz
    go_wp2
    go_roundw
    case rel => exact ⟨m + 1, by omega, by go_num, HB22⟩
    case measure => simp [intOf]; omega
  ·obtain rfl : m = 5 := by omega
   have hlv := worldmintlaw29_lives.calls true wr rfl
   have Hlv := Aside0.mk hlv
   clear hlv
   go_wp2_with fail
   refine Hlv.out.mono ?_
   rintro e w40 ⟨rfl, hb40⟩
   have hfin := HBW.out.trans ((HBr.out.trans (hb40.mono HBr.out.size)).mono HBW.out.size)
   go_wp2
   go_ret
   exact ⟨rfl, hfin⟩
end Go.Proofs.Ytdamibblnjeooaa.H

/- Written by a program of this session over the kit's printer: what the functions named below compute, and that the machine's calls compute it. Not trusted: Lean checks it. -/
namespace Go.Proofs.Ytdamibblnjeooaa.H
open Go.RowKit Go.Proofs.YtdamibblnjeooaaW.PrintWords Go.Proofs.YtdamibblnjeooaaW.PrintLast Go.Proofs.YtdamibblnjeooaaW.PrintMore
attribute [local go_sem] max2_int min2_int max_two min_two max_three min_three max_four min_four   -- for this text's walks alone
set_option linter.unusedVariables false
set_option linter.unusedSimpArgs false

/-! ### worldmintlaw29_ProofSound: function 8 -/
/-- THE ONE PURE STATEMENT of worldmintlaw29_ProofSound: yours. -/
def worldmintlaw29_ProofSound.Pure : Prop := ∀ (a0 : Int) (l1 : List Int) (l2 : List Int) (a3 : Int) (a4 : Int) (a5 : Int) (a6 : Int), (Lit.int .i64 a0).wf = true → l1.length ≤ maxLen → l1.length * 8 ≤ 140737488351232 → (∀ x ∈ l1, (Lit.int .i64 x).wf = true) → l2.length ≤ maxLen → l2.length * 8 ≤ 140737488351232 → (∀ x ∈ l2, (Lit.int .i64 x).wf = true) → (Lit.int .i64 a3).wf = true → (Lit.int .i64 a4).wf = true → (Lit.int .i64 a5).wf = true → (Lit.int .i64 a6).wf = true → ∃ k, worldmintlaw29_ProofSound.f k a0 l1 l2 a3 a4 a5 a6 = some true
theorem worldmintlaw29_ProofSound.walk (P : worldmintlaw29_ProofSound.Pure) (a0 : Int) (a1 : Option Addr) (len1 cap1 : Nat) (z1 : List Int) (a2 : Option Addr) (len2 cap2 : Nat) (z2 : List Int) (a3 : Int) (a4 : Int) (a5 : Int) (a6 : Int) (w : World) (w0 : (Lit.int .i64 a0).wf = true) (w1 : (a1 = none ∧ len1 = 0 ∧ cap1 = 0 ∧ z1 = []) ∨ ∃ x, a1 = some x ∧ len1 ≤ cap1 ∧ cap1 ≤ maxLen ∧ z1.length = cap1 ∧ (∀ i, i < z1.length → w.cell? (x.add i) = some (.int .i64 (z1.getD i 0))) ∧ ∀ n ∈ z1, (Lit.int .i64 n).wf = true) (y1 : len1 * 8 ≤ 140737488351232) (w2 : (a2 = none ∧ len2 = 0 ∧ cap2 = 0 ∧ z2 = []) ∨ ∃ x, a2 = some x ∧ len2 ≤ cap2 ∧ cap2 ≤ maxLen ∧ z2.length = cap2 ∧ (∀ i, i < z2.length → w.cell? (x.add i) = some (.int .i64 (z2.getD i 0))) ∧ ∀ n ∈ z2, (Lit.int .i64 n).wf = true) (y2 : len2 * 8 ≤ 140737488351232) (w3 : (Lit.int .i64 a3).wf = true) (w4 : (Lit.int .i64 a4).wf = true) (w5 : (Lit.int .i64 a5).wf = true) (w6 : (Lit.int .i64 a6).wf = true) :
  Calls Try.prog 8 #[.int .i64 a0, .slice a1 len1 cap1, .slice a2 len2 cap2, .int .i64 a3, .int .i64 a4, .int .i64 a5, .int .i64 a6] w fun e w' => e = .returned (.bool true) ∧ Below w.heap.size w w' := by
 obtain ⟨l1, rfl, hr1, hm1, hw1, hc1⟩ := ReadsInt.ofRowC w1
 obtain ⟨l2, rfl, hr2, hm2, hw2, hc2⟩ := ReadsInt.ofRowC w2
 obtain ⟨k, h⟩ := P a0 l1 l2 a3 a4 a5 a6 w0 hm1 y1 hw1 hm2 y2 hw2 w3 w4 w5 w6
 refine (worldmintlaw29_ProofSound.calls k a0 _ _ l1 _ _ l2 a3 a4 a5 a6 true w (Kd.C_of_reads (d := (0 : Int)) (h1 := fun _ => rfl) hr1) hc1 (Kd.C_of_reads (d := (0 : Int)) (h1 := fun _ => rfl) hr2) hc2 h).mono ?_
 rintro e w' ⟨rfl, hd⟩
 exact ⟨rfl, hd⟩

end Go.Proofs.Ytdamibblnjeooaa.H

/- ProofSound: the plain statement. -/
namespace Go.Proofs.Ytdamibblnjeooaa.H
open Go.RowKit Go.Proofs.YtdamibblnjeooaaW.PrintWords Go.Proofs.YtdamibblnjeooaaW.PrintLast
theorem ProofSound_pure : worldmintlaw29_ProofSound.Pure := by
 intro a0 l1 l2 a3 a4 a5 a6 w0 _ _ w1 _ _ w2 w3 w4 w5 w6
 refine ⟨0, if_pos ?_⟩
 simp only [Bool.and_eq_true, List.all_eq_true]
 exact ⟨⟨⟨⟨⟨w0, w1⟩, w2⟩, w3⟩, w4⟩, w5⟩
end Go.Proofs.Ytdamibblnjeooaa.H
namespace Go.Proofs.Ytdamibblnjeooaa.Pure
theorem ProofSound : H.worldmintlaw29_ProofSound.Pure := H.ProofSound_pure
end Go.Proofs.Ytdamibblnjeooaa.Pure
