/- Texts of this claim, one behind the other. -/
import Derived.Test.YtdamibblnjeooaaMProofSoundd
import Derived.BigRegion
import Derived.Test.YtdamibblnjeooaaMProofSoundb
import Derived.Test.YtdamibblnjeooaaMProofSoundc

/- proof.Make: the recursion that grows the certificate. -/
namespace Go.Proofs.Ytdamibblnjeooaa.H
open Go.RowKit Go.Proofs.YtdamibblnjeooaaW.PrintWords Go.Proofs.YtdamibblnjeooaaW.PrintLast Go.Proofs.YtdamibblnjeooaaW.PrintMore
set_option linter.unusedVariables false
set_option linter.unusedSimpArgs false
/-- A tree of nodes stands in places i to j - 1 of a certificate, from decisions dec on. -/
inductive GTree (n : Nat) (l : List S82) (v : Int) (ns : List S55) : Nat → Nat → List Int → Prop
 | leaf (i : Nat) (dec ps : List Int) (h : ns[i]? = some ⟨-1, 0, 0, ps⟩) (hl : ps.length = n) (hr : ∀ x ∈ ps, 0 ≤ x ∧ x ≤ 1099511627776) (hb : boundD l dec ps ≤ v) : GTree n l v ns i (i + 1) dec
 | node (i m j b : Nat) (dec : List Int) (h : ns[i]? = some ⟨(b : Int), (i : Int) + 1, (m : Int), []⟩) (hb : b < l.length) (hp : possP l dec b = true) (h1 : GTree n l v ns (i + 1) m (dec.set b 1)) (h2 : GTree n l v ns m j (dec.set b 2)) : GTree n l v ns i j dec
theorem GTree.lt {n : Nat} {l : List S82} {v : Int} {ns : List S55} {i j : Nat} {dec : List Int} (h : GTree n l v ns i j dec) : i < j := by
 induction h with
 | leaf => omega
 | node => omega
theorem GTree.congr {n : Nat} {l : List S82} {v : Int} {ns ns' : List S55} {i j : Nat} {dec : List Int} (h : GTree n l v ns i j dec) : (∀ k, i ≤ k → k < j → ns'[k]? = ns[k]?) → GTree n l v ns' i j dec := by
 induction h with
 | leaf i dec ps h hl hr hb => exact fun he => .leaf i dec ps ((he i (Nat.le_refl _) (by omega)).trans h) hl hr hb
 | node i m j b dec h hb hp h1 h2 ih1 ih2 =>
  intro he
  have := h1.lt
  have := h2.lt
  exact .node i m j b dec ((he i (Nat.le_refl _) (by omega)).trans h) hb hp (ih1 (fun k a c => he k (by omega) (by omega))) (ih2 (fun k a c => he k (by omega) c))
theorem poss_zero {l : List S82} {dec : List Int} {b : Nat} (h : possP l dec b = true) : dec.getD b 0 = 0 := by
 unfold possP at h
 simp only [Bool.and_eq_true, decide_eq_true_eq] at h
 exact h.1
theorem count_set0 (d : Int) (hd : d ≠ 0) : ∀ (dec : List Int) (b : Nat), b < dec.length → dec.getD b 0 = 0 → (dec.set b d).count 0 + 1 = dec.count 0
 | [], b, h, _ => absurd h (by simp)
 | x :: dec, 0, _, h0 => by
  have : x = 0 := h0
  subst this
  rw [List.set_cons_zero, List.count_cons_self, List.count_cons_of_ne (by simpa using hd)]
 | x :: dec, b + 1, h, h0 => by
  have ih := count_set0 d hd dec b (by simpa using h) (by simpa using h0)
  rw [List.set_cons_succ]
  by_cases hx : x = 0
  ·subst hx
   rw [List.count_cons_self, List.count_cons_self]
   omega
  ·rw [List.count_cons_of_ne (by simpa using hx), List.count_cons_of_ne (by simpa using hx)]
   exact ih
theorem set_mid (ns more : List S55) (y z : S55) : (ns ++ [y] ++ more).set ns.length z = ns ++ [z] ++ more := by
 rw [List.append_assoc, List.set_append_right _ _ (Nat.le_refl _), Nat.sub_self, List.append_assoc]
 rfl
theorem tree_join {n : Nat} {l : List S82} {v : Int} {dec : List Int} {b : Nat} (ns more1 more2 : List S55) (y z : S55) (hb : b < l.length) (hp : possP l dec b = true)
  (hz : z = ⟨(b : Int), (ns.length : Int) + 1, ((ns ++ [y] ++ more1).length : Int), []⟩)
  (h1 : GTree n l v (ns ++ [y] ++ more1) (ns ++ [y]).length (ns ++ [y] ++ more1).length (dec.set b 1)) (h2 : GTree n l v (ns ++ [y] ++ more1 ++ more2) (ns ++ [y] ++ more1).length (ns ++ [y] ++ more1 ++ more2).length (dec.set b 2)) :
  GTree n l v (ns ++ (z :: (more1 ++ more2))) ns.length (ns ++ (z :: (more1 ++ more2))).length dec := by
 have e : ns ++ (z :: (more1 ++ more2)) = ns ++ [z] ++ more1 ++ more2 := by simp
 have e2 : ns ++ [y] ++ more1 ++ more2 = (ns ++ [y]) ++ (more1 ++ more2) := by simp
 have e3 : ns ++ (z :: (more1 ++ more2)) = (ns ++ [z]) ++ (more1 ++ more2) := by simp
 have hl : (ns ++ (z :: (more1 ++ more2))).length = (ns ++ [y] ++ more1 ++ more2).length := by rw [e2, e3]; simp
 have hg : ∀ k, ns.length + 1 ≤ k → (ns ++ (z :: (more1 ++ more2)))[k]? = (ns ++ [y] ++ more1 ++ more2)[k]? := fun k hk => by
  have a1 : (ns ++ [z]).length = ns.length + 1 := by simp
  have a2 : (ns ++ [y]).length = ns.length + 1 := by simp
  rw [e2, e3]
  exact (List.getElem?_append_right (by omega)).trans (by rw [a1, ← a2]; exact (List.getElem?_append_right (by omega)).symm)
 rw [hl]
 refine .node ns.length (ns ++ [y] ++ more1).length _ b dec ?_ hb hp ?_ ?_
 ·rw [List.getElem?_append_right (Nat.le_refl _), Nat.sub_self, hz]
  rfl
 ·rw [show (ns ++ [y]).length = ns.length + 1 by simp] at h1
  refine h1.congr (fun k a c => ?_)
  rw [hg k a, List.getElem?_append_left c]
 ·refine h2.congr (fun k a c => hg k ?_)
  simp only [List.length_append, List.length_singleton] at a
  omega
/-- A call of Make: what does not change. W1: the world in which the closure is called first. -/
structure MCx where
 n : Nat
 l : List S82
 v : Int
 A : Option Addr
 c : Nat
 w0 : World
 W1 : World
 Pb : Nat
 Nb : Nat
 Lb : Nat
 Vb : Nat
 Gb : Nat
 D : List Int → Prop
structure MOk (s : MCx) : Prop where
 read : Kd.C k82 s.w0 s.A s.l.length s.l
 l10 : s.l.length ≤ 10
 n1 : 1 ≤ s.n
 n8 : s.n ≤ 8
 bids : ∀ b ∈ s.l, (1 ≤ b.f1 ∧ b.f1 ≤ 1099511627776) ∧ b.f2.length ≤ 8 ∧ ∀ k ∈ b.f2, 0 ≤ k ∧ k < (s.n : Int)
 below : Below s.w0.heap.size s.w0 s.W1
 oP : s.w0.heap.size ≤ s.Pb ∧ s.Pb < s.W1.heap.size
 hN : s.W1.heap[s.Nb]? = some (.cells #[.int .i64 (s.n : Int)] 3 (0, 0))
 hL : s.W1.heap[s.Lb]? = some (.cells #[.slice s.A s.l.length s.c] 40 (0, 0))
 hV : s.W1.heap[s.Vb]? = some (.cells #[.int .i64 s.v] 3 (0, 0))
 hG : s.W1.heap[s.Gb]? = some (.cells #[.func (.func 62) #[] #[.pointer (some ⟨s.Pb, 0, none⟩), .pointer (some ⟨s.Nb, 0, none⟩), .pointer (some ⟨s.Lb, 0, none⟩), .pointer (some ⟨s.Vb, 0, none⟩), .pointer (some ⟨s.Gb, 0, none⟩)]] 114 (0, 0))
 ne : s.Nb ≠ s.Pb ∧ s.Lb ≠ s.Pb ∧ s.Vb ≠ s.Pb ∧ s.Gb ≠ s.Pb
 dlen : ∀ dec, s.D dec → dec.length = s.l.length
 dset : ∀ dec b, s.D dec → b < s.l.length → possP s.l dec b = true → s.D (dec.set b 1) ∧ s.D (dec.set b 2)
 dstop : ∀ dec, s.D dec → (∀ b, b < s.l.length → possP s.l dec b = false) → boundD s.l dec (List.replicate s.n 0) ≤ s.v
/-- How the certificate stands in W. -/
structure MSt (s : MCx) (W : World) (vs : Value) (ns : List S55) : Prop where
 os : W.os = s.W1.os
 tape : W.tape = s.W1.tape
 output : W.output = s.W1.output
 size : s.W1.heap.size ≤ W.heap.size
 fix : ∀ k, k < s.W1.heap.size → k ≠ s.Pb → W.heap[k]? = s.W1.heap[k]?
 hP : W.heap[s.Pb]? = some (.cells #[.int .i64 s.v, vs] 44 (0, 0))
 hN : Kd.N k55 55 W s.W1.heap.size (fun k => s.W1.heap.size ≤ k) vs ns
/-- The p-box and the list's own block alone have turned. -/
structure MKeep (s : MCx) (w : World) (vs : Value) (w' : World) (vs' : Value) : Prop where
 size : w.heap.size ≤ w'.heap.size
 block : ∀ k, k < w.heap.size → k ≠ s.Pb → some k ≠ vs.ownBlock → w'.heap[k]? = w.heap[k]?
 at_ : vs'.ownBlock = vs.ownBlock ∨ ∃ b, vs'.ownBlock = some b ∧ w.heap.size ≤ b
section
variable {s : MCx} {W W' : World} {vs v1 : Value} {ns ns1 : List S55}
theorem MKeep.refl (s : MCx) (W : World) (vs : Value) : MKeep s W vs W vs := ⟨Nat.le_refl _, fun _ _ _ _ => rfl, .inl rfl⟩
theorem MKeep.of_below (hb : Below W.heap.size W W') : MKeep s W vs W' vs := ⟨hb.size, fun k hk _ _ => hb.block k hk, .inl rfl⟩
theorem MKeep.trans {w w1 w2 : World} {v0 v1 v2 : Value} (h : MKeep s w v0 w1 v1) (h2 : MKeep s w1 v1 w2 v2) : MKeep s w v0 w2 v2 := by
 have hs := h.size
 refine ⟨Nat.le_trans h.size h2.size, fun k hk hp hn => ?_, ?_⟩
 ·refine (h2.block k (by omega) hp ?_).trans (h.block k hk hp hn)
  rcases h.at_ with e | ⟨b, e, hb⟩
  ·rw [e]; exact hn
  ·rw [e]; intro e2; injection e2 with e2; omega
 ·rcases h2.at_ with e | ⟨b, e, hb⟩
  ·rw [e]; exact h.at_
  ·exact .inr ⟨b, e, by omega⟩
theorem MKeep.keeps {w w1 : World} {v0 v1 : Value} (h : MKeep s w v0 w1 v1) {k : Nat} {o : Obj} (ho : w.heap[k]? = some o) (hp : k ≠ s.Pb) (hn : some k ≠ v0.ownBlock) : w1.heap[k]? = some o ∧ some k ≠ v1.ownBlock := by
 have hk := (Array.getElem?_eq_some_iff.1 ho).1
 refine ⟨(h.block k hk hp hn).trans ho, ?_⟩
 rcases h.at_ with e | ⟨b, e, hb⟩
 ·rw [e]; exact hn
 ·rw [e]; intro e2; injection e2 with e2; omega
theorem MSt.step (h : MSt s W vs ns) (hb : Below W.heap.size W W') (ok : MOk s) : MSt s W' vs ns := by
 have hz := h.size
 have hp := ok.oP.2
 exact ⟨hb.os.trans h.os, hb.tape.trans h.tape, hb.output.trans h.output, Nat.le_trans h.size hb.size, fun k hk hn => (hb.block k (by omega)).trans (h.fix k hk hn), (hb.block _ (by omega)).trans h.hP, Kd.N_below h.hN hb⟩
theorem MSt.below (h : MSt s W vs ns) (ok : MOk s) : Below s.w0.heap.size s.w0 W := by
 have hp := ok.oP
 have hz := ok.below.size
 exact ⟨h.os.trans ok.below.os, h.tape.trans ok.below.tape, h.output.trans ok.below.output, Nat.le_trans ok.below.size h.size, fun k hk => (h.fix k (by omega) (by omega)).trans (ok.below.block k hk)⟩
theorem MSt.cells (h : MSt s W vs ns) : W.cell? ⟨s.Pb, 0, none⟩ = some (.int .i64 s.v) ∧ W.cell? ⟨s.Pb, 1, none⟩ = some vs ∧ W.frozen? ⟨s.Pb, 0, none⟩ = false ∧ W.frozen? ⟨s.Pb, 1, none⟩ = false :=
 ⟨(blk_cell h.hP 0).trans rfl, (blk_cell h.hP 1).trans rfl, blk_frozen h.hP 0, blk_frozen h.hP 1⟩
theorem MSt.boxes (h : MSt s W vs ns) (ok : MOk s) : W.cell? ⟨s.Nb, 0, none⟩ = some (.int .i64 (s.n : Int)) ∧ W.cell? ⟨s.Lb, 0, none⟩ = some (.slice s.A s.l.length s.c) ∧ W.cell? ⟨s.Vb, 0, none⟩ = some (.int .i64 s.v) ∧ W.cell? ⟨s.Gb, 0, none⟩ = some (.func (.func 62) #[] #[.pointer (some ⟨s.Pb, 0, none⟩), .pointer (some ⟨s.Nb, 0, none⟩), .pointer (some ⟨s.Lb, 0, none⟩), .pointer (some ⟨s.Vb, 0, none⟩), .pointer (some ⟨s.Gb, 0, none⟩)]) := by
 obtain ⟨n1, n2, n3, n4⟩ := ok.ne
 have a1 := (h.fix _ (Array.getElem?_eq_some_iff.1 ok.hN).1 n1).trans ok.hN
 have a2 := (h.fix _ (Array.getElem?_eq_some_iff.1 ok.hL).1 n2).trans ok.hL
 have a3 := (h.fix _ (Array.getElem?_eq_some_iff.1 ok.hV).1 n3).trans ok.hV
 have a4 := (h.fix _ (Array.getElem?_eq_some_iff.1 ok.hG).1 n4).trans ok.hG
 exact ⟨(blk_cell a1 0).trans rfl, (blk_cell a2 0).trans rfl, (blk_cell a3 0).trans rfl, (blk_cell a4 0).trans rfl⟩
theorem MSt.grown (h : MSt s W vs ns) (ok : MOk s) (hg : W.grownBy W' vs.ownBlock) : W'.cell? ⟨s.Pb, 0, none⟩ = some (.int .i64 s.v) ∧ W'.cell? ⟨s.Pb, 1, none⟩ = some vs ∧ W'.frozen? ⟨s.Pb, 0, none⟩ = false ∧ W'.frozen? ⟨s.Pb, 1, none⟩ = false := by
 have hp := ok.oP.2
 have hz := h.size
 have h9 := (hg.block s.Pb (by omega) (fun e => by have := Kd.N_base h.hN _ e.symm; omega)).trans h.hP
 exact ⟨(blk_cell h9 0).trans rfl, (blk_cell h9 1).trans rfl, blk_frozen h9 0, blk_frozen h9 1⟩
/-- The list has been written and stored. -/
theorem MSt.mv (h : MSt s W vs ns) (ok : MOk s) (hg : W.grownBy W' vs.ownBlock) (hN : Kd.N k55 55 W' s.W1.heap.size (fun k => s.W1.heap.size ≤ k) v1 ns1) (hat : v1.ownBlock = vs.ownBlock ∨ ∃ b, v1.ownBlock = some b ∧ W.heap.size ≤ b) :
  MSt s (W'.setCell ⟨s.Pb, 1, none⟩ v1) v1 ns1 ∧ MKeep s W vs (W'.setCell ⟨s.Pb, 1, none⟩ v1) v1 := by
 have hp := ok.oP.2
 have hz := h.size
 have hgs := hg.size
 have hne : ∀ k, k < s.W1.heap.size → some k ≠ vs.ownBlock := fun k hk e => by have := Kd.N_base h.hN k e.symm; omega
 have h9 := (hg.block s.Pb (by omega) (hne _ hp)).trans h.hP
 have hf : ∀ k, k ≠ s.Pb → (W'.setCell ⟨s.Pb, 1, none⟩ v1).heap[k]? = W'.heap[k]? := fun k hk => Below.heap_setCell W' ⟨s.Pb, 1, none⟩ v1 k hk
 have hB : Below s.Pb W' (W'.setCell ⟨s.Pb, 1, none⟩ v1) := (Below.refl _ W').setCell (p := ⟨s.Pb, 1, none⟩) (Nat.le_refl _) _
 refine ⟨⟨hB.os.trans (hg.os.trans h.os), hB.tape.trans (hg.tape.trans h.tape), hB.output.trans (hg.output.trans h.output), by have := hB.size; omega, fun k hk hn => (hf k hn).trans ((hg.block k (by omega) (hne k hk)).trans (h.fix k hk hn)), blk_put h9 1 _ rfl, Kd.N_far hN (p := ⟨s.Pb, 1, none⟩) (fun k hk => by show k ≠ s.Pb; omega) _⟩, ⟨by have := hB.size; omega, fun k hk hn ho => (hf k hn).trans (hg.block k hk ho), hat⟩⟩
/-- A part of a node has been stored. -/
theorem MSt.seg (h : MSt s W vs ns) (ok : MOk s) {W2 : World} (hg : W.grownBy W2 vs.ownBlock) (hN : Kd.N k55 55 W2 s.W1.heap.size (fun k => s.W1.heap.size ≤ k) vs ns1) : MSt s W2 vs ns1 ∧ MKeep s W vs W2 vs := by
 have hp := ok.oP.2
 have hz := h.size
 have hgs := hg.size
 have hne : ∀ k, k < s.W1.heap.size → some k ≠ vs.ownBlock := fun k hk e => by have := Kd.N_base h.hN k e.symm; omega
 exact ⟨⟨hg.os.trans h.os, hg.tape.trans h.tape, hg.output.trans h.output, by omega, fun k hk hn => (hg.block k (by omega) (hne k hk)).trans (h.fix k hk hn), (hg.block s.Pb (by omega) (hne _ hp)).trans h.hP, hN⟩, ⟨hgs, fun k hk hn ho => hg.block k hk ho, .inl rfl⟩⟩
end
/-- What the closure does. -/
def MGrow (s : MCx) (f : Nat) : Prop := ∀ (dec : List Int) (db : Nat) (ns : List S55) (vs : Value) (w : World), s.D dec → dec.count 0 ≤ f → MSt s w vs ns →
 w.heap[db]? = some (.cells (dec.map (Value.int .i64)).toArray 3 (0, 0)) → db ≠ s.Pb → some db ≠ vs.ownBlock → ns.length + 2 ^ (f + 1) ≤ 100000 →
 Calls Try.prog 62 #[.slice (some ⟨db, 0, none⟩) dec.length dec.length, .pointer (some ⟨s.Pb, 0, none⟩), .pointer (some ⟨s.Nb, 0, none⟩), .pointer (some ⟨s.Lb, 0, none⟩), .pointer (some ⟨s.Vb, 0, none⟩), .pointer (some ⟨s.Gb, 0, none⟩)] w
  (fun e w' => ∃ (vs' : Value) (more : List S55), e = .returned (.int .i64 (ns.length : Int)) ∧ MSt s w' vs' (ns ++ more) ∧ GTree s.n s.l s.v (ns ++ more) ns.length (ns ++ more).length dec ∧ more.length + 1 ≤ 2 ^ (f + 1) ∧ MKeep s w vs w' vs')
set_option maxHeartbeats 8000000 in
set_option maxRecDepth 100000 in
theorem make1_calls (s : MCx) (ok : MOk s) (f : Nat) (IH : ∀ f', f' < f → MGrow s f') : MGrow s f := by
 intro dec db ns vs w hD hcnt hst hdb hdbP hdbO hlen
 have hdl := ok.dlen dec hD
 have hl10 := ok.l10
 have hn1 := ok.n1
 have hn8 := ok.n8
 have hf11 : f ≤ f := Nat.le_refl _
 have hpw := Nat.two_pow_pos (f + 1)
 obtain ⟨Av, cv_, ev⟩ := Kd.N_slice hst.hN
 subst ev
 have Ok := Aside0.mk ok
 have Ih := Aside0.mk IH
 have HD := Aside0.mk hD
 have Hcnt := Aside0.mk hcnt
 have Hst := Aside0.mk hst
 have Hdb := Aside0.mk hdb
 have HdbP := Aside0.mk hdbP
 have HdbO := Aside0.mk hdbO
 have Hlen := Aside0.mk hlen
 have Hdl := Aside0.mk hdl
 have Hpw := Aside0.mk hpw
 obtain ⟨hp0, hp1, hpf0, hpf1⟩ := hst.cells
 obtain ⟨hbN, hbL, hbV, hbG⟩ := hst.boxes ok
 have hns : ns.length ≤ 100000 := by omega
 clear ok IH hD hcnt hst hdb hdbP hdbO hlen hf11 hdl hpw
 obtain ⟨x, hx⟩ : ∃ x : S55, x = ⟨-1, 0, 0, []⟩ := ⟨_, rfl⟩
 have hFK : ∀ W : World, Kd.FK k55 W (fun _ => False) x [.int .i64 (-1), .int .i64 0, .int .i64 0, .slice none 0 0] := fun W => by
  rw [hx]
  exact k55_mkF W (fun _ => False) ⟨-1, 0, 0, []⟩ (Nat.le_refl _) (Kd.F_nil _ W _)
 go_enter Try.func62, Try.ntmps62
 go_upto_region 3 with ((with_reducible refine gate_builtin (b := .append) (xs := #[.tmp 20, .tmp 22]) rfl ?_); at_builtin; refine Kd.N_append k55 (w0 := w) s.W1.heap.size rfl (.tmp 20) (.tmp 22) 42 55 _ 48 rfl Try.underlying42 info55 rfl (by decide) (by omega) (.slice Av ns.length cv_) ns x [.int .i64 (-1), .int .i64 0, .int .i64 0, .slice none 0 0] (fun k => s.W1.heap.size ≤ k) (fun _ => False) rfl rfl (hFK _) (fun _ hk => hk.elim) ?aF Hst.out.hN ?aB ?aS ?aL ?_; (case aF => exact fun k hk => Nat.le_trans Hst.out.size hk); (case aB => exact Below.refl _ _); (case aS => exact Hst.out.size); (case aL => omega); intro v7 w7 ho7 hb7 hg7 hat7; have Hmv := Aside0.mk (Hst.out.mv Ok.out hg7 ho7 hat7); have Hc7 := Hst.out.grown Ok.out hg7; obtain ⟨A7, c7, ev7⟩ := Kd.N_slice ho7; rw [List.length_append, List.length_singleton] at ev7; subst ev7; clear ho7 hb7 hg7 hat7 hp0 hp1 hpf0 hpf1; obtain ⟨hp0, hp1, hpf0, hpf1⟩ := Hc7)
 obtain ⟨w8, hw8⟩ : ∃ w8, w8 = w7.setCell ⟨s.Pb, 1, none⟩ (.slice A7 (ns.length + 1) c7) := ⟨_, rfl⟩
 rw [← hw8] at Hmv
 rw [← hw8]
 have Hst8 := Aside0.mk Hmv.out.1
 have Hk8 := Aside0.mk Hmv.out.2
 have hdb8 := Hk8.out.keeps Hdb.out HdbP.out HdbO.out
 have Hdb8 := Aside0.mk hdb8.1
 have HdbO8 := Aside0.mk hdb8.2
 clear hw8 Hmv hdb8 hp0 hp1 hpf0 hpf1 hbN hbL hbV hbG hFK Hst Hdb HdbO
 obtain ⟨hbN, hbL, hbV, hbG⟩ := Hst8.out.boxes Ok.out
 have Hcall := Aside0.mk (search9_calls s.A s.c s.l (some ⟨db, 0, none⟩) dec.length dec s.n s.v w8 (Kd.C_below Ok.out.read (Hst8.out.below Ok.out)) (C_blk Hdb8.out (by have := Hdl.out; omega)) hl10 Hdl.out hn1 hn8 Ok.out.bids)
 go_wp2_with fail
 refine Hcall.out.mono ?_
 rintro e w9 ⟨vp, ps, okb, rfl, hpl, hpr, hok, hz, hR, hb9⟩
 obtain ⟨Ap, cp, ep⟩ := Kd.R_slice hR
 subst ep
 have Hst9 := Aside0.mk (Hst8.out.step hb9 Ok.out)
 have Hk9 := Aside0.mk (Hk8.out.trans (MKeep.of_below hb9))
 have Hdb9 := Aside0.mk (blk_below Hdb8.out hb9)
 have HR := Aside0.mk hR
 have Hsz : Aside0 (w8.heap.size ≤ w9.heap.size) := ⟨hb9.size⟩
 have Hps : Aside0 (ps.length = s.n ∧ ∀ x ∈ ps, 0 ≤ x ∧ x ≤ 1099511627776) := ⟨⟨hpl, hpr⟩⟩
 have Hok := Aside0.mk hok
 have Hz := Aside0.mk hz
 clear hb9 hR hpl hpr hok hz Hcall Hk8 Hdb8 hbN hbL hbV hbG
 obtain ⟨g, cap, eA, hg0, hg1, cells9, hcells9⟩ := Kd.N_form Hst9.out.hN (by simp)
 injection eA with eA elen ecap
 subst eA
 subst ecap
 clear elen cells9 hcells9
 obtain ⟨hbN, hbL, hbV, hbG⟩ := Hst9.out.boxes Ok.out
 obtain ⟨hp0, hp1, hpf0, hpf1⟩ := Hst9.out.cells
 have hiI : (ns.length : Int) < (ns.length : Int) + 1 := by omega
 have hlx : (ns ++ [x]).length = ns.length + 1 := by simp
 cases okb
 ·have Hno : Aside0 (¬ ∀ b, b < s.l.length → possP s.l dec b = false) := ⟨fun h => by have := Hz.out (Ok.out.dstop dec HD.out h); cases this⟩
  clear Hz Hok HR Hps
  have HB9 := Aside0.mk (Hst9.out.below Ok.out)
  clear hp0 hp1 hpf0 hpf1 hbN hbV hbG
  go_upto_region 9 with (fail)
  go_loopw [11, 43] (fun bv kv wr => ∃ (bi : Int) (k : Nat), k ≤ s.l.length ∧ bv = .int .i64 bi ∧ kv = .int .i64 k ∧ Aside0 (Below w9.heap.size w9 wr) ∧ (-1 ≤ bi ∧ bi < (s.l.length : Int)) ∧ Aside0 ((bi = -1 → ∀ b, b < k → possP s.l dec b = false) ∧ (0 ≤ bi → possP s.l dec bi.toNat = true))) (fun _ kv _ => s.l.length - (intOf kv).toNat)
  case atStart => exact ⟨-1, 0, by omega, rfl, rfl, ⟨Below.refl _ _⟩, by omega, ⟨fun _ b hb => by omega, fun h => by omega⟩⟩
  case round =>
   clear hbL
   obtain ⟨bi, k, hk, rfl, rfl, HB, hbi, Hbi⟩ := hrel
   have hbxL : ∀ w', Below w9.heap.size w9 w' → w'.cell? ⟨s.Lb, 0, none⟩ = some (.slice s.A s.l.length s.c) := fun w' hb => ((Hst9.out.step hb Ok.out).boxes Ok.out).2.1
   have HbxL := Aside0.mk hbxL
   clear hbxL
   by_cases hlt : k < s.l.length
   ·have t1 : decide ((k : Int) < (s.l.length : Int)) = true := decide_eq_true (by omega)
    have t2 : decide (k < s.l.length) = true := decide_eq_true hlt
    have hkI : (k : Int) < (s.l.length : Int) := by omega
    obtain ⟨ad, A3, c3, e, g0, g1, g2, gl2, gk2⟩ := at_T82 (Kd.C_below (Kd.C_below Ok.out.read HB9.out) HB.out) (k : Int) (by omega) (by omega)
    rw [Int.toNat_natCast] at g0 g1 g2
    have Hadr := Aside0.mk e
    rw [e]
    rw [e] at HbxL
    generalize rd_T82 s.l (k : Int) = xb at *
    have hwk : IntKind.i64.wrap ((k : Int) + 1) = (k : Int) + 1 := IntWalk.i64_in _ (by omega)
    clear e
    go_upto_region 11 with (fail)
    obtain ⟨W5, hW5⟩ : ∃ W5, W5 = wr.alloc (.cells #[.int .i64 xb.f0, .int .i64 xb.f1, .slice A3 xb.f2.length c3] 82) := ⟨_, rfl⟩
    obtain ⟨gx, hgx⟩ : ∃ gx, gx = wr.heap.size := ⟨_, rfl⟩
    have hbk5 : W5.heap[gx]? = some (.cells #[.int .i64 xb.f0, .int .i64 xb.f1, .slice A3 xb.f2.length c3] 82 (0, 0)) := by rw [hW5, hgx]; exact heap_alloc_new wr _
    have hb5 : Below wr.heap.size wr W5 := by rw [hW5]; exact (Below.refl _ wr).alloc (Nat.le_refl _) _
    have HB5 := Aside0.mk (HB.out.trans (hb5.mono HB.out.size))
    have Hbk5 := Aside0.mk hbk5
    rw [← hW5]
    rw [← hgx]
    clear hW5 hgx hbk5 hb5 g0 g1 g2 gl2 gk2 HB
    have Hps := Aside0.mk (poss_calls s.A s.c s.l (some ⟨db, 0, none⟩) dec.length dec k W5.drew (Kd.C_below Ok.out.read (HB9.out.trans ((below_drew1 HB5.out).mono HB9.out.size))) (Kd.C_below (C_blk Hdb9.out (by have := Hdl.out; omega)) (below_drew1 HB5.out)) Hdl.out (by omega) hlt)
    rw [Hadr.out] at Hps
    have hkeep : ∀ w', Below W5.heap.size W5 w' → w'.cell? ⟨s.Lb, 0, none⟩ = some (.slice (some ad) s.l.length s.c) ∧ w'.cell? ⟨gx, 1, none⟩ = some (.int .i64 xb.f1) := fun w' hb => ⟨HbxL.out w' (HB5.out.trans (hb.mono HB5.out.size)), (blk_cell (blk_below Hbk5.out hb) 1).trans rfl⟩
    have Hkeep := Aside0.mk hkeep
    clear hkeep
    cases hp : possP s.l dec k
    ·rw [hp] at Hps
     have Hp := Aside0.mk hp
     clear hp
     refine wp_region_held_drew (S := fun w' => w'.cell? ⟨s.Lb, 0, none⟩ = some (.slice (some ad) s.l.length s.c) ∧ w'.cell? ⟨gx, 1, none⟩ = some (.int .i64 xb.f1)) (by kernel_rfl) (Hkeep.out W5.drew (below_drew1 (Below.refl _ _))) ?_
     intro hS0
     refine wpAnyH_take (i := 0) (v := ?_) rfl (by kernel_rfl) (by kernel_rfl) (by kernel_rfl) (fun _ _ _ h => h) (Or.inl ⟨by rfl, ?_⟩) (by assumption) ?_
     rotate_left
     ·(intro w_ hSw_; (try dsimp only at hSw_); go_simp; try with_reducible rfl)
     try simp only [Act.put, List.getElem_toArray, List.getElem_cons_zero, List.getElem_cons_succ, List.setIfInBounds_toArray, List.set_cons_zero, List.set_cons_succ]
     refine wpAnyH_take (i := 1) (v := ?_) rfl (by kernel_rfl) (by kernel_rfl) (by kernel_rfl) (fun _ _ _ h => h) (Or.inl ⟨by rfl, ?_⟩) (by assumption) ?_
     rotate_left
     ·(intro w_ hSw_; (try dsimp only at hSw_); go_simp; try with_reducible rfl)
     try simp only [Act.put, List.getElem_toArray, List.getElem_cons_zero, List.getElem_cons_succ, List.setIfInBounds_toArray, List.set_cons_zero, List.set_cons_succ]
     refine wpAnyH_take (i := 2) (v := ?_) rfl (by kernel_rfl) (by kernel_rfl) (by kernel_rfl) (fun _ _ _ h => h) (Or.inl ⟨by rfl, ?_⟩) (by assumption) ?_
     rotate_left
     ·(intro w_ hSw_; (try dsimp only at hSw_); go_simp; try with_reducible rfl)
     try simp only [Act.put, List.getElem_toArray, List.getElem_cons_zero, List.getElem_cons_succ, List.setIfInBounds_toArray, List.set_cons_zero, List.set_cons_succ]
     refine wpAnyH_ready (rs := [3]) (by kernel_rfl) (by simp) ?_
     refine AllReadyH.cons rfl (fun K hK => ?_) AllReadyH.nil
     go_simp
     refine Hps.out.mono ?_
     rintro e w6 ⟨rfl, hb6⟩
     have hb6' : Below W5.heap.size W5 w6 := (below_drew1 (Below.refl _ _)).trans (hb6.mono (below_drew1 (Below.refl W5.heap.size W5)).size)
     have HB6 := Aside0.mk (HB5.out.trans (hb6'.mono HB5.out.size))
     refine hK.out _ _ (Hkeep.out _ hb6') (fun hSn_ => ?_)
     clear hK K
     try simp only [Act.put, List.getElem_toArray, List.getElem_cons_zero, List.getElem_cons_succ, List.setIfInBounds_toArray, List.set_cons_zero, List.set_cons_succ]
     clear hb6 hb6' Hps
     refine wpAnyH_take (i := 4) (v := ?_) rfl (by kernel_rfl) (by kernel_rfl) (by kernel_rfl) (fun _ _ _ h => h) (Or.inl ⟨by rfl, ?_⟩) (by assumption) ?_
     rotate_left
     ·(intro w_ hSw_; (try dsimp only at hSw_); go_simp; try with_reducible rfl)
     try simp only [Act.put, List.getElem_toArray, List.getElem_cons_zero, List.getElem_cons_succ, List.setIfInBounds_toArray, List.set_cons_zero, List.set_cons_succ]
     refine wpAnyH_take (i := 5) rfl (by kernel_rfl) (by kernel_rfl) (by kernel_rfl) (fun _ _ _ h => h) (Or.inr ⟨by rfl, rfl⟩) (by assumption) ?_
     try simp only [Act.put, List.getElem_toArray, List.getElem_cons_zero, List.getElem_cons_succ, List.setIfInBounds_toArray, List.set_cons_zero, List.set_cons_succ]
     refine wpAnyH_take (i := 6) rfl (by kernel_rfl) (by kernel_rfl) (by kernel_rfl) (fun _ _ _ h => h) (Or.inr ⟨by rfl, rfl⟩) (by assumption) ?_
     try simp only [Act.put, List.getElem_toArray, List.getElem_cons_zero, List.getElem_cons_succ, List.setIfInBounds_toArray, List.set_cons_zero, List.set_cons_succ]
     refine wpAnyH_take (i := 7) rfl (by kernel_rfl) (by kernel_rfl) (by kernel_rfl) (fun _ _ _ h => h) (Or.inr ⟨by rfl, rfl⟩) (by assumption) ?_
     try simp only [Act.put, List.getElem_toArray, List.getElem_cons_zero, List.getElem_cons_succ, List.setIfInBounds_toArray, List.set_cons_zero, List.set_cons_succ]
     refine wpAnyH_take (i := 8) rfl (by kernel_rfl) (by kernel_rfl) (by kernel_rfl) (fun _ _ _ h => h) (Or.inr ⟨by rfl, rfl⟩) (by assumption) ?_
     try simp only [Act.put, List.getElem_toArray, List.getElem_cons_zero, List.getElem_cons_succ, List.setIfInBounds_toArray, List.set_cons_zero, List.set_cons_succ]
     refine wpAnyH_take (i := 9) rfl (by kernel_rfl) (by kernel_rfl) (by kernel_rfl) (fun _ _ _ h => h) (Or.inr ⟨by rfl, rfl⟩) (by assumption) ?_
     try simp only [Act.put, List.getElem_toArray, List.getElem_cons_zero, List.getElem_cons_succ, List.setIfInBounds_toArray, List.set_cons_zero, List.set_cons_succ]
     refine wpAnyH_take (i := 10) rfl (by kernel_rfl) (by kernel_rfl) (by kernel_rfl) (fun _ _ _ h => h) (Or.inr ⟨by rfl, rfl⟩) (by assumption) ?_
     try simp only [Act.put, List.getElem_toArray, List.getElem_cons_zero, List.getElem_cons_succ, List.setIfInBounds_toArray, List.set_cons_zero, List.set_cons_succ]
     refine wpAnyH_take (i := 11) rfl (by kernel_rfl) (by kernel_rfl) (by kernel_rfl) (fun _ _ _ h => h) (Or.inr ⟨by rfl, rfl⟩) (by assumption) ?_
     try simp only [Act.put, List.getElem_toArray, List.getElem_cons_zero, List.getElem_cons_succ, List.setIfInBounds_toArray, List.set_cons_zero, List.set_cons_succ]
     refine wpAnyH_take (i := 12) rfl (by kernel_rfl) (by kernel_rfl) (by kernel_rfl) (fun _ _ _ h => h) (Or.inr ⟨by rfl, rfl⟩) (by assumption) ?_
     try simp only [Act.put, List.getElem_toArray, List.getElem_cons_zero, List.getElem_cons_succ, List.setIfInBounds_toArray, List.set_cons_zero, List.set_cons_succ]
     refine wpAnyH_take (i := 13) rfl (by kernel_rfl) (by kernel_rfl) (by kernel_rfl) (fun _ _ _ h => h) (Or.inr ⟨by rfl, rfl⟩) (by assumption) ?_
     try simp only [Act.put, List.getElem_toArray, List.getElem_cons_zero, List.getElem_cons_succ, List.setIfInBounds_toArray, List.set_cons_zero, List.set_cons_succ]
     refine wpAnyH_take (i := 14) rfl (by kernel_rfl) (by kernel_rfl) (by kernel_rfl) (fun _ _ _ h => h) (Or.inr ⟨by rfl, rfl⟩) (by assumption) ?_
     try simp only [Act.put, List.getElem_toArray, List.getElem_cons_zero, List.getElem_cons_succ, List.setIfInBounds_toArray, List.set_cons_zero, List.set_cons_succ]
     refine wpAnyH_take (i := 15) rfl (by kernel_rfl) (by kernel_rfl) (by kernel_rfl) (fun _ _ _ h => h) (Or.inr ⟨by rfl, rfl⟩) (by assumption) ?_
     try simp only [Act.put, List.getElem_toArray, List.getElem_cons_zero, List.getElem_cons_succ, List.setIfInBounds_toArray, List.set_cons_zero, List.set_cons_succ]
     refine wpAnyH_take (i := 16) rfl (by kernel_rfl) (by kernel_rfl) (by kernel_rfl) (fun _ _ _ h => h) (Or.inr ⟨by rfl, rfl⟩) (by assumption) ?_
     try simp only [Act.put, List.getElem_toArray, List.getElem_cons_zero, List.getElem_cons_succ, List.setIfInBounds_toArray, List.set_cons_zero, List.set_cons_succ]
     refine wpAnyH_take (i := 17) (v := ?_) rfl (by kernel_rfl) (by kernel_rfl) (by kernel_rfl) (fun _ _ _ h => h) (Or.inl ⟨by rfl, ?_⟩) (by assumption) ?_
     rotate_left
     ·(intro w_ hSw_; (try dsimp only at hSw_); go_simp; try with_reducible rfl)
     try simp only [Act.put, List.getElem_toArray, List.getElem_cons_zero, List.getElem_cons_succ, List.setIfInBounds_toArray, List.set_cons_zero, List.set_cons_succ]
     refine wpAnyH_done (by kernel_rfl) ?_ _
     clear hS0 hSn_ Hkeep
     go_wp2
     go_roundw
     case rel => exact ⟨bi, k + 1, by omega, rfl, by go_num, HB6, hbi, ⟨fun h b hb => by
      by_cases e : b = k
      ·subst e; exact Hp.out
      ·exact Hbi.out.1 h b (by omega), Hbi.out.2⟩⟩
     case measure => simp [intOf]; omega
    ·rw [hp] at Hps
     have Hp := Aside0.mk hp
     clear hp
     by_cases hb0 : bi < 0
     ·have d1 : decide (bi < 0) = true := decide_eq_true hb0
      refine wp_region_held_drew (S := fun w' => w'.cell? ⟨s.Lb, 0, none⟩ = some (.slice (some ad) s.l.length s.c) ∧ w'.cell? ⟨gx, 1, none⟩ = some (.int .i64 xb.f1)) (by kernel_rfl) (Hkeep.out W5.drew (below_drew1 (Below.refl _ _))) ?_
      intro hS0
      refine wpAnyH_take (i := 0) (v := ?_) rfl (by kernel_rfl) (by kernel_rfl) (by kernel_rfl) (fun _ _ _ h => h) (Or.inl ⟨by rfl, ?_⟩) (by assumption) ?_
      rotate_left
      ·(intro w_ hSw_; (try dsimp only at hSw_); go_simp; try with_reducible rfl)
      try simp only [Act.put, List.getElem_toArray, List.getElem_cons_zero, List.getElem_cons_succ, List.setIfInBounds_toArray, List.set_cons_zero, List.set_cons_succ]
      refine wpAnyH_take (i := 1) (v := ?_) rfl (by kernel_rfl) (by kernel_rfl) (by kernel_rfl) (fun _ _ _ h => h) (Or.inl ⟨by rfl, ?_⟩) (by assumption) ?_
      rotate_left
      ·(intro w_ hSw_; (try dsimp only at hSw_); go_simp; try with_reducible rfl)
      try simp only [Act.put, List.getElem_toArray, List.getElem_cons_zero, List.getElem_cons_succ, List.setIfInBounds_toArray, List.set_cons_zero, List.set_cons_succ]
      refine wpAnyH_take (i := 2) (v := ?_) rfl (by kernel_rfl) (by kernel_rfl) (by kernel_rfl) (fun _ _ _ h => h) (Or.inl ⟨by rfl, ?_⟩) (by assumption) ?_
      rotate_left
      ·(intro w_ hSw_; (try dsimp only at hSw_); go_simp; try with_reducible rfl)
      try simp only [Act.put, List.getElem_toArray, List.getElem_cons_zero, List.getElem_cons_succ, List.setIfInBounds_toArray, List.set_cons_zero, List.set_cons_succ]
      refine wpAnyH_ready (rs := [3]) (by kernel_rfl) (by simp) ?_
      refine AllReadyH.cons rfl (fun K hK => ?_) AllReadyH.nil
      go_simp
      refine Hps.out.mono ?_
      rintro e w6 ⟨rfl, hb6⟩
      have hb6' : Below W5.heap.size W5 w6 := (below_drew1 (Below.refl _ _)).trans (hb6.mono (below_drew1 (Below.refl W5.heap.size W5)).size)
      have HB6 := Aside0.mk (HB5.out.trans (hb6'.mono HB5.out.size))
      refine hK.out _ _ (Hkeep.out _ hb6') (fun hSn_ => ?_)
      clear hK K
      try simp only [Act.put, List.getElem_toArray, List.getElem_cons_zero, List.getElem_cons_succ, List.setIfInBounds_toArray, List.set_cons_zero, List.set_cons_succ]
      clear hb6 hb6' Hps
      refine wpAnyH_take (i := 4) (v := ?_) rfl (by kernel_rfl) (by kernel_rfl) (by kernel_rfl) (fun _ _ _ h => h) (Or.inl ⟨by rfl, ?_⟩) (by assumption) ?_
      rotate_left
      ·(intro w_ hSw_; (try dsimp only at hSw_); go_simp; try with_reducible rfl)
      try simp only [Act.put, List.getElem_toArray, List.getElem_cons_zero, List.getElem_cons_succ, List.setIfInBounds_toArray, List.set_cons_zero, List.set_cons_succ]
      refine wpAnyH_take (i := 5) (v := ?_) rfl (by kernel_rfl) (by kernel_rfl) (by kernel_rfl) (fun _ _ _ h => h) (Or.inl ⟨by rfl, ?_⟩) (by assumption) ?_
      rotate_left
      ·(intro w_ hSw_; (try dsimp only at hSw_); go_simp; try with_reducible rfl)
      try simp only [Act.put, List.getElem_toArray, List.getElem_cons_zero, List.getElem_cons_succ, List.setIfInBounds_toArray, List.set_cons_zero, List.set_cons_succ]
      refine wpAnyH_take (i := 6) (v := ?_) rfl (by kernel_rfl) (by kernel_rfl) (by kernel_rfl) (fun _ _ _ h => h) (Or.inl ⟨by rfl, ?_⟩) (by assumption) ?_
      rotate_left
      ·(intro w_ hSw_; (try dsimp only at hSw_); go_simp; try with_reducible rfl)
      try simp only [Act.put, List.getElem_toArray, List.getElem_cons_zero, List.getElem_cons_succ, List.setIfInBounds_toArray, List.set_cons_zero, List.set_cons_succ]
      refine wpAnyH_take (i := 7) (v := ?_) rfl (by kernel_rfl) (by kernel_rfl) (by kernel_rfl) (fun _ _ _ h => h) (Or.inl ⟨by rfl, ?_⟩) (by assumption) ?_
      rotate_left
      ·(intro w_ hSw_; (try dsimp only at hSw_); go_simp; try with_reducible rfl)
      try simp only [Act.put, List.getElem_toArray, List.getElem_cons_zero, List.getElem_cons_succ, List.setIfInBounds_toArray, List.set_cons_zero, List.set_cons_succ]
      refine wpAnyH_take (i := 8) rfl (by kernel_rfl) (by kernel_rfl) (by kernel_rfl) (fun _ _ _ h => h) (Or.inr ⟨by rfl, rfl⟩) (by assumption) ?_
      try simp only [Act.put, List.getElem_toArray, List.getElem_cons_zero, List.getElem_cons_succ, List.setIfInBounds_toArray, List.set_cons_zero, List.set_cons_succ]
      refine wpAnyH_take (i := 9) rfl (by kernel_rfl) (by kernel_rfl) (by kernel_rfl) (fun _ _ _ h => h) (Or.inr ⟨by rfl, rfl⟩) (by assumption) ?_
      try simp only [Act.put, List.getElem_toArray, List.getElem_cons_zero, List.getElem_cons_succ, List.setIfInBounds_toArray, List.set_cons_zero, List.set_cons_succ]
      refine wpAnyH_take (i := 10) rfl (by kernel_rfl) (by kernel_rfl) (by kernel_rfl) (fun _ _ _ h => h) (Or.inr ⟨by rfl, rfl⟩) (by assumption) ?_
      try simp only [Act.put, List.getElem_toArray, List.getElem_cons_zero, List.getElem_cons_succ, List.setIfInBounds_toArray, List.set_cons_zero, List.set_cons_succ]
      refine wpAnyH_take (i := 11) rfl (by kernel_rfl) (by kernel_rfl) (by kernel_rfl) (fun _ _ _ h => h) (Or.inr ⟨by rfl, rfl⟩) (by assumption) ?_
      try simp only [Act.put, List.getElem_toArray, List.getElem_cons_zero, List.getElem_cons_succ, List.setIfInBounds_toArray, List.set_cons_zero, List.set_cons_succ]
      refine wpAnyH_take (i := 12) rfl (by kernel_rfl) (by kernel_rfl) (by kernel_rfl) (fun _ _ _ h => h) (Or.inr ⟨by rfl, rfl⟩) (by assumption) ?_
      try simp only [Act.put, List.getElem_toArray, List.getElem_cons_zero, List.getElem_cons_succ, List.setIfInBounds_toArray, List.set_cons_zero, List.set_cons_succ]
      refine wpAnyH_take (i := 13) rfl (by kernel_rfl) (by kernel_rfl) (by kernel_rfl) (fun _ _ _ h => h) (Or.inr ⟨by rfl, rfl⟩) (by assumption) ?_
      try simp only [Act.put, List.getElem_toArray, List.getElem_cons_zero, List.getElem_cons_succ, List.setIfInBounds_toArray, List.set_cons_zero, List.set_cons_succ]
      refine wpAnyH_take (i := 14) rfl (by kernel_rfl) (by kernel_rfl) (by kernel_rfl) (fun _ _ _ h => h) (Or.inr ⟨by rfl, rfl⟩) (by assumption) ?_
      try simp only [Act.put, List.getElem_toArray, List.getElem_cons_zero, List.getElem_cons_succ, List.setIfInBounds_toArray, List.set_cons_zero, List.set_cons_succ]
      refine wpAnyH_take (i := 15) rfl (by kernel_rfl) (by kernel_rfl) (by kernel_rfl) (fun _ _ _ h => h) (Or.inr ⟨by rfl, rfl⟩) (by assumption) ?_
      try simp only [Act.put, List.getElem_toArray, List.getElem_cons_zero, List.getElem_cons_succ, List.setIfInBounds_toArray, List.set_cons_zero, List.set_cons_succ]
      refine wpAnyH_take (i := 16) (v := ?_) rfl (by kernel_rfl) (by kernel_rfl) (by kernel_rfl) (fun _ _ _ h => h) (Or.inl ⟨by rfl, ?_⟩) (by assumption) ?_
      rotate_left
      ·(intro w_ hSw_; (try dsimp only at hSw_); go_simp; try with_reducible rfl)
      try simp only [Act.put, List.getElem_toArray, List.getElem_cons_zero, List.getElem_cons_succ, List.setIfInBounds_toArray, List.set_cons_zero, List.set_cons_succ]
      refine wpAnyH_take (i := 17) (v := ?_) rfl (by kernel_rfl) (by kernel_rfl) (by kernel_rfl) (fun _ _ _ h => h) (Or.inl ⟨by rfl, ?_⟩) (by assumption) ?_
      rotate_left
      ·(intro w_ hSw_; (try dsimp only at hSw_); go_simp; try with_reducible rfl)
      try simp only [Act.put, List.getElem_toArray, List.getElem_cons_zero, List.getElem_cons_succ, List.setIfInBounds_toArray, List.set_cons_zero, List.set_cons_succ]
      refine wpAnyH_done (by kernel_rfl) ?_ _
      clear hS0 hSn_ Hkeep
      go_wp2
      go_roundw
      case rel => exact ⟨(k : Int), k + 1, by omega, rfl, by go_num, HB6, by omega, ⟨fun h => by omega, fun _ => by rw [Int.toNat_natCast]; exact Hp.out⟩⟩
      case measure => simp [intOf]; omega
     ·have d1 : decide (bi < 0) = false := decide_eq_false hb0
      obtain ⟨bn, hbn⟩ : ∃ bn : Nat, bi = (bn : Int) := ⟨bi.toNat, by omega⟩
      subst hbn
      have hbnI : (bn : Int) < (s.l.length : Int) := hbi.2
      have hbnN : bn < s.l.length := by omega
      have hpb : possP s.l dec bn = true := Hbi.out.2 (by omega)
      have Hpb := Aside0.mk hpb
      clear hpb
      obtain ⟨ad2, A4, c4, e2, g0, g1, g2, gl2, gk2⟩ := at_T82 (Kd.C_below (Kd.C_below Ok.out.read HB9.out) HB5.out) (bn : Int) (by omega) (by omega)
      rw [Hadr.out] at e2
      injection e2 with e2
      subst e2
      rw [Int.toNat_natCast] at g0 g1 g2
      generalize rd_T82 s.l (bn : Int) = yb at *
      have Hkeep2 : Aside0 (∀ w', Below W5.heap.size W5 w' → (w'.cell? ⟨s.Lb, 0, none⟩ = some (.slice (some ad) s.l.length s.c) ∧ w'.cell? ⟨gx, 1, none⟩ = some (.int .i64 xb.f1)) ∧ w'.cell? ⟨(ad.add (bn * 3)).block, (ad.add (bn * 3)).off + 1, none⟩ = some (.int .i64 yb.f1)) := ⟨fun w' hb => ⟨Hkeep.out w' hb, (hb.cell (World.block_lt_of_cell? W5 _ g1)).trans g1⟩⟩
      clear g0 g1 g2 gl2 gk2
      have Hkeep := Hkeep2
      clear Hkeep2
      by_cases hpr : yb.f1 < xb.f1
      ·have d2 : decide (yb.f1 < xb.f1) = true := decide_eq_true hpr
       refine wp_region_held_drew (S := fun w' => (w'.cell? ⟨s.Lb, 0, none⟩ = some (.slice (some ad) s.l.length s.c) ∧ w'.cell? ⟨gx, 1, none⟩ = some (.int .i64 xb.f1)) ∧ w'.cell? ⟨(ad.add (bn * 3)).block, (ad.add (bn * 3)).off + 1, none⟩ = some (.int .i64 yb.f1)) (by kernel_rfl) (Hkeep.out W5.drew (below_drew1 (Below.refl _ _))) ?_
       intro hS0
       refine wpAnyH_take (i := 0) (v := ?_) rfl (by kernel_rfl) (by kernel_rfl) (by kernel_rfl) (fun _ _ _ h => h) (Or.inl ⟨by rfl, ?_⟩) (by assumption) ?_
       rotate_left
       ·(intro w_ hSw_; (try dsimp only at hSw_); go_simp; try with_reducible rfl)
       try simp only [Act.put, List.getElem_toArray, List.getElem_cons_zero, List.getElem_cons_succ, List.setIfInBounds_toArray, List.set_cons_zero, List.set_cons_succ]
       refine wpAnyH_take (i := 1) (v := ?_) rfl (by kernel_rfl) (by kernel_rfl) (by kernel_rfl) (fun _ _ _ h => h) (Or.inl ⟨by rfl, ?_⟩) (by assumption) ?_
       rotate_left
       ·(intro w_ hSw_; (try dsimp only at hSw_); go_simp; try with_reducible rfl)
       try simp only [Act.put, List.getElem_toArray, List.getElem_cons_zero, List.getElem_cons_succ, List.setIfInBounds_toArray, List.set_cons_zero, List.set_cons_succ]
       refine wpAnyH_take (i := 2) (v := ?_) rfl (by kernel_rfl) (by kernel_rfl) (by kernel_rfl) (fun _ _ _ h => h) (Or.inl ⟨by rfl, ?_⟩) (by assumption) ?_
       rotate_left
       ·(intro w_ hSw_; (try dsimp only at hSw_); go_simp; try with_reducible rfl)
       try simp only [Act.put, List.getElem_toArray, List.getElem_cons_zero, List.getElem_cons_succ, List.setIfInBounds_toArray, List.set_cons_zero, List.set_cons_succ]
       refine wpAnyH_ready (rs := [3]) (by kernel_rfl) (by simp) ?_
       refine AllReadyH.cons rfl (fun K hK => ?_) AllReadyH.nil
       go_simp
       refine Hps.out.mono ?_
       rintro e w6 ⟨rfl, hb6⟩
       have hb6' : Below W5.heap.size W5 w6 := (below_drew1 (Below.refl _ _)).trans (hb6.mono (below_drew1 (Below.refl W5.heap.size W5)).size)
       have HB6 := Aside0.mk (HB5.out.trans (hb6'.mono HB5.out.size))
       refine hK.out _ _ (Hkeep.out _ hb6') (fun hSn_ => ?_)
       clear hK K
       try simp only [Act.put, List.getElem_toArray, List.getElem_cons_zero, List.getElem_cons_succ, List.setIfInBounds_toArray, List.set_cons_zero, List.set_cons_succ]
       clear hb6 hb6' Hps
       refine wpAnyH_take (i := 4) (v := ?_) rfl (by kernel_rfl) (by kernel_rfl) (by kernel_rfl) (fun _ _ _ h => h) (Or.inl ⟨by rfl, ?_⟩) (by assumption) ?_
       rotate_left
       ·(intro w_ hSw_; (try dsimp only at hSw_); go_simp; try with_reducible rfl)
       try simp only [Act.put, List.getElem_toArray, List.getElem_cons_zero, List.getElem_cons_succ, List.setIfInBounds_toArray, List.set_cons_zero, List.set_cons_succ]
       refine wpAnyH_take (i := 5) (v := ?_) rfl (by kernel_rfl) (by kernel_rfl) (by kernel_rfl) (fun _ _ _ h => h) (Or.inl ⟨by rfl, ?_⟩) (by assumption) ?_
       rotate_left
       ·(intro w_ hSw_; (try dsimp only at hSw_); go_simp; try with_reducible rfl)
       try simp only [Act.put, List.getElem_toArray, List.getElem_cons_zero, List.getElem_cons_succ, List.setIfInBounds_toArray, List.set_cons_zero, List.set_cons_succ]
       refine wpAnyH_take (i := 6) (v := ?_) rfl (by kernel_rfl) (by kernel_rfl) (by kernel_rfl) (fun _ _ _ h => h) (Or.inl ⟨by rfl, ?_⟩) (by assumption) ?_
       rotate_left
       ·(intro w_ hSw_; (try dsimp only at hSw_); go_simp; try with_reducible rfl)
       try simp only [Act.put, List.getElem_toArray, List.getElem_cons_zero, List.getElem_cons_succ, List.setIfInBounds_toArray, List.set_cons_zero, List.set_cons_succ]
       refine wpAnyH_take (i := 7) (v := ?_) rfl (by kernel_rfl) (by kernel_rfl) (by kernel_rfl) (fun _ _ _ h => h) (Or.inl ⟨by rfl, ?_⟩) (by assumption) ?_
       rotate_left
       ·(intro w_ hSw_; (try dsimp only at hSw_); go_simp; try with_reducible rfl)
       try simp only [Act.put, List.getElem_toArray, List.getElem_cons_zero, List.getElem_cons_succ, List.setIfInBounds_toArray, List.set_cons_zero, List.set_cons_succ]
       refine wpAnyH_take (i := 8) (v := ?_) rfl (by kernel_rfl) (by kernel_rfl) (by kernel_rfl) (fun _ _ _ h => h) (Or.inl ⟨by rfl, ?_⟩) (by assumption) ?_
       rotate_left
       ·(intro w_ hSw_; (try dsimp only at hSw_); go_simp; try with_reducible rfl)
       try simp only [Act.put, List.getElem_toArray, List.getElem_cons_zero, List.getElem_cons_succ, List.setIfInBounds_toArray, List.set_cons_zero, List.set_cons_succ]
       refine wpAnyH_take (i := 9) (v := ?_) rfl (by kernel_rfl) (by kernel_rfl) (by kernel_rfl) (fun _ _ _ h => h) (Or.inl ⟨by rfl, ?_⟩) (by assumption) ?_
       rotate_left
       ·(intro w_ hSw_; (try dsimp only at hSw_); go_simp; try with_reducible rfl)
       try simp only [Act.put, List.getElem_toArray, List.getElem_cons_zero, List.getElem_cons_succ, List.setIfInBounds_toArray, List.set_cons_zero, List.set_cons_succ]
       refine wpAnyH_take (i := 10) (v := ?_) rfl (by kernel_rfl) (by kernel_rfl) (by kernel_rfl) (fun _ _ _ h => h) (Or.inl ⟨by rfl, ?_⟩) (by assumption) ?_
       rotate_left
       ·(intro w_ hSw_; (try dsimp only at hSw_); go_simp; try with_reducible rfl)
       try simp only [Act.put, List.getElem_toArray, List.getElem_cons_zero, List.getElem_cons_succ, List.setIfInBounds_toArray, List.set_cons_zero, List.set_cons_succ]
       refine wpAnyH_take (i := 11) (v := ?_) rfl (by kernel_rfl) (by kernel_rfl) (by kernel_rfl) (fun _ _ _ h => h) (Or.inl ⟨by rfl, ?_⟩) (by assumption) ?_
       rotate_left
       ·(intro w_ hSw_; (try dsimp only at hSw_); go_simp; try with_reducible rfl)
       try simp only [Act.put, List.getElem_toArray, List.getElem_cons_zero, List.getElem_cons_succ, List.setIfInBounds_toArray, List.set_cons_zero, List.set_cons_succ]
       refine wpAnyH_take (i := 12) (v := ?_) rfl (by kernel_rfl) (by kernel_rfl) (by kernel_rfl) (fun _ _ _ h => h) (Or.inl ⟨by rfl, ?_⟩) (by assumption) ?_
       rotate_left
       ·(intro w_ hSw_; (try dsimp only at hSw_); go_simp; try with_reducible rfl)
       try simp only [Act.put, List.getElem_toArray, List.getElem_cons_zero, List.getElem_cons_succ, List.setIfInBounds_toArray, List.set_cons_zero, List.set_cons_succ]
       refine wpAnyH_take (i := 13) (v := ?_) rfl (by kernel_rfl) (by kernel_rfl) (by kernel_rfl) (fun _ _ _ h => h) (Or.inl ⟨by rfl, ?_⟩) (by assumption) ?_
       rotate_left
       ·(intro w_ hSw_; (try dsimp only at hSw_); go_simp; try with_reducible rfl)
       try simp only [Act.put, List.getElem_toArray, List.getElem_cons_zero, List.getElem_cons_succ, List.setIfInBounds_toArray, List.set_cons_zero, List.set_cons_succ]
       refine wpAnyH_take (i := 14) (v := ?_) rfl (by kernel_rfl) (by kernel_rfl) (by kernel_rfl) (fun _ _ _ h => h) (Or.inl ⟨by rfl, ?_⟩) (by assumption) ?_
       rotate_left
       ·(intro w_ hSw_; (try dsimp only at hSw_); go_simp; try with_reducible rfl)
       try simp only [Act.put, List.getElem_toArray, List.getElem_cons_zero, List.getElem_cons_succ, List.setIfInBounds_toArray, List.set_cons_zero, List.set_cons_succ]
       refine wpAnyH_take (i := 15) (v := ?_) rfl (by kernel_rfl) (by kernel_rfl) (by kernel_rfl) (fun _ _ _ h => h) (Or.inl ⟨by rfl, ?_⟩) (by assumption) ?_
       rotate_left
       ·(intro w_ hSw_; (try dsimp only at hSw_); go_simp; try with_reducible rfl)
       try simp only [Act.put, List.getElem_toArray, List.getElem_cons_zero, List.getElem_cons_succ, List.setIfInBounds_toArray, List.set_cons_zero, List.set_cons_succ]
       refine wpAnyH_take (i := 16) (v := ?_) rfl (by kernel_rfl) (by kernel_rfl) (by kernel_rfl) (fun _ _ _ h => h) (Or.inl ⟨by rfl, ?_⟩) (by assumption) ?_
       rotate_left
       ·(intro w_ hSw_; (try dsimp only at hSw_); go_simp; try with_reducible rfl)
       try simp only [Act.put, List.getElem_toArray, List.getElem_cons_zero, List.getElem_cons_succ, List.setIfInBounds_toArray, List.set_cons_zero, List.set_cons_succ]
       refine wpAnyH_take (i := 17) (v := ?_) rfl (by kernel_rfl) (by kernel_rfl) (by kernel_rfl) (fun _ _ _ h => h) (Or.inl ⟨by rfl, ?_⟩) (by assumption) ?_
       rotate_left
       ·(intro w_ hSw_; (try dsimp only at hSw_); go_simp; try with_reducible rfl)
       try simp only [Act.put, List.getElem_toArray, List.getElem_cons_zero, List.getElem_cons_succ, List.setIfInBounds_toArray, List.set_cons_zero, List.set_cons_succ]
       refine wpAnyH_done (by kernel_rfl) ?_ _
       clear hS0 hSn_ Hkeep
       go_wp2
       go_roundw
       case rel => exact ⟨(k : Int), k + 1, by omega, rfl, by go_num, HB6, by omega, ⟨fun h => by omega, fun _ => by rw [Int.toNat_natCast]; exact Hp.out⟩⟩
       case measure => simp [intOf]; omega
      ·have d2 : decide (yb.f1 < xb.f1) = false := decide_eq_false hpr
       refine wp_region_held_drew (S := fun w' => (w'.cell? ⟨s.Lb, 0, none⟩ = some (.slice (some ad) s.l.length s.c) ∧ w'.cell? ⟨gx, 1, none⟩ = some (.int .i64 xb.f1)) ∧ w'.cell? ⟨(ad.add (bn * 3)).block, (ad.add (bn * 3)).off + 1, none⟩ = some (.int .i64 yb.f1)) (by kernel_rfl) (Hkeep.out W5.drew (below_drew1 (Below.refl _ _))) ?_
       intro hS0
       refine wpAnyH_take (i := 0) (v := ?_) rfl (by kernel_rfl) (by kernel_rfl) (by kernel_rfl) (fun _ _ _ h => h) (Or.inl ⟨by rfl, ?_⟩) (by assumption) ?_
       rotate_left
       ·(intro w_ hSw_; (try dsimp only at hSw_); go_simp; try with_reducible rfl)
       try simp only [Act.put, List.getElem_toArray, List.getElem_cons_zero, List.getElem_cons_succ, List.setIfInBounds_toArray, List.set_cons_zero, List.set_cons_succ]
       refine wpAnyH_take (i := 1) (v := ?_) rfl (by kernel_rfl) (by kernel_rfl) (by kernel_rfl) (fun _ _ _ h => h) (Or.inl ⟨by rfl, ?_⟩) (by assumption) ?_
       rotate_left
       ·(intro w_ hSw_; (try dsimp only at hSw_); go_simp; try with_reducible rfl)
       try simp only [Act.put, List.getElem_toArray, List.getElem_cons_zero, List.getElem_cons_succ, List.setIfInBounds_toArray, List.set_cons_zero, List.set_cons_succ]
       refine wpAnyH_take (i := 2) (v := ?_) rfl (by kernel_rfl) (by kernel_rfl) (by kernel_rfl) (fun _ _ _ h => h) (Or.inl ⟨by rfl, ?_⟩) (by assumption) ?_
       rotate_left
       ·(intro w_ hSw_; (try dsimp only at hSw_); go_simp; try with_reducible rfl)
       try simp only [Act.put, List.getElem_toArray, List.getElem_cons_zero, List.getElem_cons_succ, List.setIfInBounds_toArray, List.set_cons_zero, List.set_cons_succ]
       refine wpAnyH_ready (rs := [3]) (by kernel_rfl) (by simp) ?_
       refine AllReadyH.cons rfl (fun K hK => ?_) AllReadyH.nil
       go_simp
       refine Hps.out.mono ?_
       rintro e w6 ⟨rfl, hb6⟩
       have hb6' : Below W5.heap.size W5 w6 := (below_drew1 (Below.refl _ _)).trans (hb6.mono (below_drew1 (Below.refl W5.heap.size W5)).size)
       have HB6 := Aside0.mk (HB5.out.trans (hb6'.mono HB5.out.size))
       refine hK.out _ _ (Hkeep.out _ hb6') (fun hSn_ => ?_)
       clear hK K
       try simp only [Act.put, List.getElem_toArray, List.getElem_cons_zero, List.getElem_cons_succ, List.setIfInBounds_toArray, List.set_cons_zero, List.set_cons_succ]
       clear hb6 hb6' Hps
       refine wpAnyH_take (i := 4) (v := ?_) rfl (by kernel_rfl) (by kernel_rfl) (by kernel_rfl) (fun _ _ _ h => h) (Or.inl ⟨by rfl, ?_⟩) (by assumption) ?_
       rotate_left
       ·(intro w_ hSw_; (try dsimp only at hSw_); go_simp; try with_reducible rfl)
       try simp only [Act.put, List.getElem_toArray, List.getElem_cons_zero, List.getElem_cons_succ, List.setIfInBounds_toArray, List.set_cons_zero, List.set_cons_succ]
       refine wpAnyH_take (i := 5) (v := ?_) rfl (by kernel_rfl) (by kernel_rfl) (by kernel_rfl) (fun _ _ _ h => h) (Or.inl ⟨by rfl, ?_⟩) (by assumption) ?_
       rotate_left
       ·(intro w_ hSw_; (try dsimp only at hSw_); go_simp; try with_reducible rfl)
       try simp only [Act.put, List.getElem_toArray, List.getElem_cons_zero, List.getElem_cons_succ, List.setIfInBounds_toArray, List.set_cons_zero, List.set_cons_succ]
       refine wpAnyH_take (i := 6) (v := ?_) rfl (by kernel_rfl) (by kernel_rfl) (by kernel_rfl) (fun _ _ _ h => h) (Or.inl ⟨by rfl, ?_⟩) (by assumption) ?_
       rotate_left
       ·(intro w_ hSw_; (try dsimp only at hSw_); go_simp; try with_reducible rfl)
       try simp only [Act.put, List.getElem_toArray, List.getElem_cons_zero, List.getElem_cons_succ, List.setIfInBounds_toArray, List.set_cons_zero, List.set_cons_succ]
       refine wpAnyH_take (i := 7) (v := ?_) rfl (by kernel_rfl) (by kernel_rfl) (by kernel_rfl) (fun _ _ _ h => h) (Or.inl ⟨by rfl, ?_⟩) (by assumption) ?_
       rotate_left
       ·(intro w_ hSw_; (try dsimp only at hSw_); go_simp; try with_reducible rfl)
       try simp only [Act.put, List.getElem_toArray, List.getElem_cons_zero, List.getElem_cons_succ, List.setIfInBounds_toArray, List.set_cons_zero, List.set_cons_succ]
       refine wpAnyH_take (i := 8) (v := ?_) rfl (by kernel_rfl) (by kernel_rfl) (by kernel_rfl) (fun _ _ _ h => h) (Or.inl ⟨by rfl, ?_⟩) (by assumption) ?_
       rotate_left
       ·(intro w_ hSw_; (try dsimp only at hSw_); go_simp; try with_reducible rfl)
       try simp only [Act.put, List.getElem_toArray, List.getElem_cons_zero, List.getElem_cons_succ, List.setIfInBounds_toArray, List.set_cons_zero, List.set_cons_succ]
       refine wpAnyH_take (i := 9) (v := ?_) rfl (by kernel_rfl) (by kernel_rfl) (by kernel_rfl) (fun _ _ _ h => h) (Or.inl ⟨by rfl, ?_⟩) (by assumption) ?_
       rotate_left
       ·(intro w_ hSw_; (try dsimp only at hSw_); go_simp; try with_reducible rfl)
       try simp only [Act.put, List.getElem_toArray, List.getElem_cons_zero, List.getElem_cons_succ, List.setIfInBounds_toArray, List.set_cons_zero, List.set_cons_succ]
       refine wpAnyH_take (i := 10) (v := ?_) rfl (by kernel_rfl) (by kernel_rfl) (by kernel_rfl) (fun _ _ _ h => h) (Or.inl ⟨by rfl, ?_⟩) (by assumption) ?_
       rotate_left
       ·(intro w_ hSw_; (try dsimp only at hSw_); go_simp; try with_reducible rfl)
       try simp only [Act.put, List.getElem_toArray, List.getElem_cons_zero, List.getElem_cons_succ, List.setIfInBounds_toArray, List.set_cons_zero, List.set_cons_succ]
       refine wpAnyH_take (i := 11) (v := ?_) rfl (by kernel_rfl) (by kernel_rfl) (by kernel_rfl) (fun _ _ _ h => h) (Or.inl ⟨by rfl, ?_⟩) (by assumption) ?_
       rotate_left
       ·(intro w_ hSw_; (try dsimp only at hSw_); go_simp; try with_reducible rfl)
       try simp only [Act.put, List.getElem_toArray, List.getElem_cons_zero, List.getElem_cons_succ, List.setIfInBounds_toArray, List.set_cons_zero, List.set_cons_succ]
       refine wpAnyH_take (i := 12) (v := ?_) rfl (by kernel_rfl) (by kernel_rfl) (by kernel_rfl) (fun _ _ _ h => h) (Or.inl ⟨by rfl, ?_⟩) (by assumption) ?_
       rotate_left
       ·(intro w_ hSw_; (try dsimp only at hSw_); go_simp; try with_reducible rfl)
       try simp only [Act.put, List.getElem_toArray, List.getElem_cons_zero, List.getElem_cons_succ, List.setIfInBounds_toArray, List.set_cons_zero, List.set_cons_succ]
       refine wpAnyH_take (i := 13) (v := ?_) rfl (by kernel_rfl) (by kernel_rfl) (by kernel_rfl) (fun _ _ _ h => h) (Or.inl ⟨by rfl, ?_⟩) (by assumption) ?_
       rotate_left
       ·(intro w_ hSw_; (try dsimp only at hSw_); go_simp; try with_reducible rfl)
       try simp only [Act.put, List.getElem_toArray, List.getElem_cons_zero, List.getElem_cons_succ, List.setIfInBounds_toArray, List.set_cons_zero, List.set_cons_succ]
       refine wpAnyH_take (i := 14) (v := ?_) rfl (by kernel_rfl) (by kernel_rfl) (by kernel_rfl) (fun _ _ _ h => h) (Or.inl ⟨by rfl, ?_⟩) (by assumption) ?_
       rotate_left
       ·(intro w_ hSw_; (try dsimp only at hSw_); go_simp; try with_reducible rfl)
       try simp only [Act.put, List.getElem_toArray, List.getElem_cons_zero, List.getElem_cons_succ, List.setIfInBounds_toArray, List.set_cons_zero, List.set_cons_succ]
       refine wpAnyH_take (i := 15) (v := ?_) rfl (by kernel_rfl) (by kernel_rfl) (by kernel_rfl) (fun _ _ _ h => h) (Or.inl ⟨by rfl, ?_⟩) (by assumption) ?_
       rotate_left
       ·(intro w_ hSw_; (try dsimp only at hSw_); go_simp; try with_reducible rfl)
       try simp only [Act.put, List.getElem_toArray, List.getElem_cons_zero, List.getElem_cons_succ, List.setIfInBounds_toArray, List.set_cons_zero, List.set_cons_succ]
       refine wpAnyH_take (i := 16) (v := ?_) rfl (by kernel_rfl) (by kernel_rfl) (by kernel_rfl) (fun _ _ _ h => h) (Or.inl ⟨by rfl, ?_⟩) (by assumption) ?_
       rotate_left
       ·(intro w_ hSw_; (try dsimp only at hSw_); go_simp; try with_reducible rfl)
       try simp only [Act.put, List.getElem_toArray, List.getElem_cons_zero, List.getElem_cons_succ, List.setIfInBounds_toArray, List.set_cons_zero, List.set_cons_succ]
       refine wpAnyH_take (i := 17) (v := ?_) rfl (by kernel_rfl) (by kernel_rfl) (by kernel_rfl) (fun _ _ _ h => h) (Or.inl ⟨by rfl, ?_⟩) (by assumption) ?_
       rotate_left
       ·(intro w_ hSw_; (try dsimp only at hSw_); go_simp; try with_reducible rfl)
       try simp only [Act.put, List.getElem_toArray, List.getElem_cons_zero, List.getElem_cons_succ, List.setIfInBounds_toArray, List.set_cons_zero, List.set_cons_succ]
       refine wpAnyH_done (by kernel_rfl) ?_ _
       clear hS0 hSn_ Hkeep
       go_wp2
       go_roundw
       case rel => exact ⟨(bn : Int), k + 1, by omega, rfl, by go_num, HB6, by omega, ⟨fun h => by omega, fun _ => by rw [Int.toNat_natCast]; exact Hpb.out⟩⟩
       case measure => simp [intOf]; omega
   ·obtain rfl : k = s.l.length := by omega
    have t1 : decide ((s.l.length : Int) < (s.l.length : Int)) = false := decide_eq_false (by omega)
    have t2 : decide (s.l.length < s.l.length) = false := decide_eq_false (by omega)
    by_cases hbm : bi = -1
    ·exact absurd (Hbi.out.1 hbm) Hno.out
    obtain ⟨b, hb⟩ : ∃ b : Nat, bi = (b : Int) := ⟨bi.toNat, by omega⟩
    subst hb
    have hpb : possP s.l dec b = true := Hbi.out.2 (by omega)
    have hbl : b < s.l.length := by omega
    have Hpb := Aside0.mk hpb
    clear hpb hbm Hbi Hno HbxL hbi
    have Hstr := Aside0.mk (Hst9.out.step HB.out Ok.out)
    have Hkr := Aside0.mk (Hk9.out.trans (MKeep.of_below HB.out))
    have Hdbr := Aside0.mk (blk_below Hdb9.out HB.out)
    clear HB Hst9 Hk9 Hdb9 HB9
    have hcs := count_set0 1 (by omega) dec b (by have := Hdl.out; omega) (poss_zero Hpb.out)
    have hcs2 := count_set0 2 (by omega) dec b (by have := Hdl.out; omega) (poss_zero Hpb.out)
    have hc0 := Hcnt.out
    obtain ⟨f', rfl⟩ : ∃ f', f = f' + 1 := ⟨f - 1, by omega⟩
    have Hcs : Aside0 ((dec.set b 1).count 0 ≤ f' ∧ (dec.set b 2).count 0 ≤ f') := ⟨⟨by omega, by omega⟩⟩
    have hih := Ih.out f' (by omega)
    have Hih := Aside0.mk hih
    have hds := Ok.out.dset dec b HD.out hbl Hpb.out
    have Hds := Aside0.mk hds
    have Hlen2 : Aside0 (ns.length + 2 * 2 ^ (f' + 1) ≤ 100000 ∧ 0 < 2 ^ (f' + 1)) := ⟨by have h1 := Hlen.out; have h2 := Nat.two_pow_pos (f' + 1); rw [Nat.pow_succ] at h1; omega⟩
    clear hcs hcs2 hc0 hih hds Ih HD Hcnt Hlen Hpw
    obtain ⟨y, hy⟩ : ∃ y : S55, y = ⟨(b : Int), 0, 0, []⟩ := ⟨_, rfl⟩
    obtain ⟨cs, hcl, hFK, hcc, hfr⟩ := Kd.N_elem Hstr.out.hN z55 (ns.length : Int) (by omega) (by omega)
    rw [Int.toNat_natCast] at hFK hcc hfr
    rw [show (ns ++ [x]).getD ns.length z55 = x by simp [List.getD], hx] at hFK
    obtain ⟨A2, c2, ec, hl2, hF2⟩ := k55_openF hFK
    obtain ⟨hN10, hg10⟩ := Kd.N_seg Hstr.out.hN (ns.length : Int) (by omega) (by omega) (c := cs) (seg := [.int .i64 (b : Int)]) (j := 0) (okp := fun k => s.W1.heap.size ≤ k ∧ k ≠ g) hcl (by rw [Int.toNat_natCast]; exact hcc) (by show 0 + 1 ≤ 4; omega) (x' := ⟨(b : Int), 0, 0, []⟩) (by rw [ec]; exact k55_mkF _ _ ⟨(b : Int), 0, 0, []⟩ hl2 hF2) (fun _ hk => hk)
    rw [Int.toNat_natCast, show (ns ++ [x]).set ns.length ⟨(b : Int), 0, 0, []⟩ = ns ++ [(⟨(b : Int), 0, 0, []⟩ : S55)] by rw [List.set_append_right _ _ (Nat.le_refl _), Nat.sub_self]; rfl, ← hy] at hN10
    rw [Int.toNat_natCast] at hg10
    have hcz : wr.cell? ⟨g, ns.length * 4, none⟩ = some (.int .i64 (-1)) := hcc 0 _ (by rw [ec]; rfl)
    have hfz : wr.frozen? ⟨g, ns.length * 4, none⟩ = false := hfr 0
    have Hseg := Aside0.mk (Hstr.out.seg Ok.out hg10 hN10)
    obtain ⟨hp0, hp1, hpf0, hpf1⟩ := Hstr.out.cells
    have hbI : ¬ (b : Int) < 0 := by omega
    clear hN10 hg10 hcc hfr hFK hcl ec hl2 hF2
    go_upto_region 15 with (fail)
    obtain ⟨W11, hW11⟩ : ∃ W11, W11 = wr.setCell ⟨g, ns.length * 4, none⟩ (.int .i64 (b : Int)) := ⟨_, rfl⟩
    have Hst11 : Aside0 (MSt s W11 (.slice (some ⟨g, 0, none⟩) (ns.length + 1) c7) (ns ++ [y])) := ⟨by rw [hW11]; exact Hseg.out.1⟩
    have hk11 : MKeep s wr (.slice (some ⟨g, 0, none⟩) (ns.length + 1) c7) W11 (.slice (some ⟨g, 0, none⟩) (ns.length + 1) c7) := by rw [hW11]; exact Hseg.out.2
    have Hk11 := Aside0.mk (Hkr.out.trans hk11)
    have hdb11 := hk11.keeps Hdbr.out HdbP.out HdbO8.out
    have Hdb11 := Aside0.mk hdb11.1
    have HdbO11 := Aside0.mk hdb11.2
    rw [← hW11]
    clear hW11 hk11 hdb11 Hseg hcz hfz hp0 hp1 hpf0 hpf1 Hstr Hkr Hdbr HdbO8
    obtain ⟨hbN, hbL, hbV, hbG⟩ := Hst11.out.boxes Ok.out
    have hbdl : b < dec.length := by have := Hdl.out; omega
    have hdl10 : dec.length ≤ 10 := by have := Hdl.out; omega
    have Hbg : Aside0 (∀ w', Below W11.heap.size W11 w' → w'.cell? ⟨s.Gb, 0, none⟩ = some (.func (.func 62) #[] #[.pointer (some ⟨s.Pb, 0, none⟩), .pointer (some ⟨s.Nb, 0, none⟩), .pointer (some ⟨s.Lb, 0, none⟩), .pointer (some ⟨s.Vb, 0, none⟩), .pointer (some ⟨s.Gb, 0, none⟩)])) := ⟨fun w' hb => ((Hst11.out.step hb Ok.out).boxes Ok.out).2.2.2⟩
    refine wp_region_held_drew (S := fun w' => w'.cell? ⟨s.Gb, 0, none⟩ = some (.func (.func 62) #[] #[.pointer (some ⟨s.Pb, 0, none⟩), .pointer (some ⟨s.Nb, 0, none⟩), .pointer (some ⟨s.Lb, 0, none⟩), .pointer (some ⟨s.Vb, 0, none⟩), .pointer (some ⟨s.Gb, 0, none⟩)])) (by kernel_rfl) (Hbg.out W11.drew (below_drew1 (Below.refl _ _))) ?_
    intro hS0
    refine wpAnyH_take (i := 0) (v := ?_) rfl (by kernel_rfl) (by kernel_rfl) (by kernel_rfl) (fun _ _ _ h => h) (Or.inl ⟨by rfl, ?_⟩) (by assumption) ?_
    rotate_left
    ·(intro w_ hSw_; (try dsimp only at hSw_); go_simp; try with_reducible rfl)
    try simp only [Act.put, List.getElem_toArray, List.getElem_cons_zero, List.getElem_cons_succ, List.setIfInBounds_toArray, List.set_cons_zero, List.set_cons_succ]
    refine wpAnyH_take (i := 1) (v := ?_) rfl (by kernel_rfl) (by kernel_rfl) (by kernel_rfl) (fun _ _ _ h => h) (Or.inl ⟨by rfl, ?_⟩) (by assumption) ?_
    rotate_left
    ·(intro w_ hSw_; (try dsimp only at hSw_); go_simp; try with_reducible rfl)
    try simp only [Act.put, List.getElem_toArray, List.getElem_cons_zero, List.getElem_cons_succ, List.setIfInBounds_toArray, List.set_cons_zero, List.set_cons_succ]
    refine wpAnyH_take (i := 2) (v := ?_) rfl (by kernel_rfl) (by kernel_rfl) (by kernel_rfl) (fun _ _ _ h => h) (Or.inl ⟨by rfl, ?_⟩) (by assumption) ?_
    rotate_left
    ·(intro w_ hSw_; (try dsimp only at hSw_); go_simp; try with_reducible rfl)
    try simp only [Act.put, List.getElem_toArray, List.getElem_cons_zero, List.getElem_cons_succ, List.setIfInBounds_toArray, List.set_cons_zero, List.set_cons_succ]
    refine wpAnyH_ready (rs := [3]) (by kernel_rfl) (by simp) ?_
    refine AllReadyH.cons rfl (fun K hK => ?_) AllReadyH.nil
    go_simp
    refine (with_calls (some ⟨db, 0, none⟩) dec.length dec b 1 W11.drew (Kd.C_drew (C_blk Hdb11.out (by omega))) hbdl (by omega)).mono ?_
    rintro e w12 ⟨rfl, hrow, hb12⟩
    have hb12' : Below W11.heap.size W11 w12 := (below_drew1 (Below.refl _ _)).trans (hb12.mono (below_drew1 (Below.refl W11.heap.size W11)).size)
    refine hK.out _ _ (Hbg.out _ hb12') (fun hSn_ => ?_)
    clear hK K
    try simp only [Act.put, List.getElem_toArray, List.getElem_cons_zero, List.getElem_cons_succ, List.setIfInBounds_toArray, List.set_cons_zero, List.set_cons_succ]
    have Hst12 := Aside0.mk (Hst11.out.step hb12' Ok.out)
    have Hk12 := Aside0.mk (Hk11.out.trans (MKeep.of_below hb12'))
    have Hdb12 := Aside0.mk (blk_below Hdb11.out hb12')
    have hsz11 := Hst11.out.size
    have hoP := Ok.out.oP.2
    have hgl := Kd.N_lt Hst11.out.hN g rfl
    have hgr := Hih.out (dec.set b 1) W11.drew.heap.size (ns ++ [y]) _ w12 Hds.out.1 Hcs.out.1 Hst12.out hrow (by show W11.heap.size ≠ s.Pb; omega) (by show some W11.heap.size ≠ some g; intro e; injection e with e; omega) (by have := Hlen2.out; simp only [List.length_append, List.length_singleton]; omega)
    rw [List.length_set, show (((ns ++ [y]).length : Nat) : Int) = (ns.length : Int) + 1 by simp] at hgr
    have Hgr := Aside0.mk hgr
    clear hrow hb12 hb12' hgr Hbg hsz11 hoP hgl
    refine wpAnyH_ready (rs := [4]) (by kernel_rfl) (by simp) ?_
    refine AllReadyH.cons rfl (fun K hK => ?_) AllReadyH.nil
    go_simp
    refine Hgr.out.mono ?_
    rintro e w13 ⟨vs13, more1, rfl, hst13, htree1, hm1, hk13⟩
    obtain ⟨A13, c13, e13⟩ := Kd.N_slice hst13.hN
    subst e13
    have Hst13 := Aside0.mk hst13
    have Htree1 := Aside0.mk htree1
    have Hm1 := Aside0.mk hm1
    have Hk13 := Aside0.mk (Hk12.out.trans hk13)
    have hdb13 := hk13.keeps Hdb12.out HdbP.out HdbO11.out
    have Hdb13 := Aside0.mk hdb13.1
    have HdbO13 := Aside0.mk hdb13.2
    refine hK.out _ _ ((hst13.boxes Ok.out).2.2.2) (fun hSn_ => ?_)
    clear hK K
    try simp only [Act.put, List.getElem_toArray, List.getElem_cons_zero, List.getElem_cons_succ, List.setIfInBounds_toArray, List.set_cons_zero, List.set_cons_succ]
    clear hst13 htree1 hm1 hk13 hdb13 Hgr Hst12 Hst11 Hk12 Hk11 Hdb12 Hdb11 HdbO11
    refine wpAnyH_take (i := 5) (v := ?_) rfl (by kernel_rfl) (by kernel_rfl) (by kernel_rfl) (fun _ _ _ h => h) (Or.inl ⟨by rfl, ?_⟩) (by assumption) ?_
    rotate_left
    ·(intro w_ hSw_; (try dsimp only at hSw_); go_simp; try with_reducible rfl)
    try simp only [Act.put, List.getElem_toArray, List.getElem_cons_zero, List.getElem_cons_succ, List.setIfInBounds_toArray, List.set_cons_zero, List.set_cons_succ]
    refine wpAnyH_done (by kernel_rfl) ?_ _
    clear hS0 hSn_ hbN hbL hbV hbG
    obtain ⟨m, hm⟩ : ∃ m : Nat, m = (ns ++ [y] ++ more1).length := ⟨_, rfl⟩
    have Hm := Aside0.mk hm
    rw [← hm] at Hst13 Hk13
    clear hm
    obtain ⟨hbN, hbL, hbV, hbG⟩ := Hst13.out.boxes Ok.out
    have Hbg : Aside0 (∀ w', Below w13.heap.size w13 w' → w'.cell? ⟨s.Gb, 0, none⟩ = some (.func (.func 62) #[] #[.pointer (some ⟨s.Pb, 0, none⟩), .pointer (some ⟨s.Nb, 0, none⟩), .pointer (some ⟨s.Lb, 0, none⟩), .pointer (some ⟨s.Vb, 0, none⟩), .pointer (some ⟨s.Gb, 0, none⟩)])) := ⟨fun w' hb => ((Hst13.out.step hb Ok.out).boxes Ok.out).2.2.2⟩
    go_upto_region 16 with (fail)
    refine wp_region_held_drew (S := fun w' => w'.cell? ⟨s.Gb, 0, none⟩ = some (.func (.func 62) #[] #[.pointer (some ⟨s.Pb, 0, none⟩), .pointer (some ⟨s.Nb, 0, none⟩), .pointer (some ⟨s.Lb, 0, none⟩), .pointer (some ⟨s.Vb, 0, none⟩), .pointer (some ⟨s.Gb, 0, none⟩)])) (by kernel_rfl) (Hbg.out w13.drew (below_drew1 (Below.refl _ _))) ?_
    intro hS0
    refine wpAnyH_take (i := 0) (v := ?_) rfl (by kernel_rfl) (by kernel_rfl) (by kernel_rfl) (fun _ _ _ h => h) (Or.inl ⟨by rfl, ?_⟩) (by assumption) ?_
    rotate_left
    ·(intro w_ hSw_; (try dsimp only at hSw_); go_simp; try with_reducible rfl)
    try simp only [Act.put, List.getElem_toArray, List.getElem_cons_zero, List.getElem_cons_succ, List.setIfInBounds_toArray, List.set_cons_zero, List.set_cons_succ]
    refine wpAnyH_take (i := 1) (v := ?_) rfl (by kernel_rfl) (by kernel_rfl) (by kernel_rfl) (fun _ _ _ h => h) (Or.inl ⟨by rfl, ?_⟩) (by assumption) ?_
    rotate_left
    ·(intro w_ hSw_; (try dsimp only at hSw_); go_simp; try with_reducible rfl)
    try simp only [Act.put, List.getElem_toArray, List.getElem_cons_zero, List.getElem_cons_succ, List.setIfInBounds_toArray, List.set_cons_zero, List.set_cons_succ]
    refine wpAnyH_take (i := 2) (v := ?_) rfl (by kernel_rfl) (by kernel_rfl) (by kernel_rfl) (fun _ _ _ h => h) (Or.inl ⟨by rfl, ?_⟩) (by assumption) ?_
    rotate_left
    ·(intro w_ hSw_; (try dsimp only at hSw_); go_simp; try with_reducible rfl)
    try simp only [Act.put, List.getElem_toArray, List.getElem_cons_zero, List.getElem_cons_succ, List.setIfInBounds_toArray, List.set_cons_zero, List.set_cons_succ]
    refine wpAnyH_ready (rs := [3]) (by kernel_rfl) (by simp) ?_
    refine AllReadyH.cons rfl (fun K hK => ?_) AllReadyH.nil
    go_simp
    refine (with_calls (some ⟨db, 0, none⟩) dec.length dec b 2 w13.drew (Kd.C_drew (C_blk Hdb13.out (by omega))) hbdl (by omega)).mono ?_
    rintro e w14 ⟨rfl, hrow, hb14⟩
    have hb14' : Below w13.heap.size w13 w14 := (below_drew1 (Below.refl _ _)).trans (hb14.mono (below_drew1 (Below.refl w13.heap.size w13)).size)
    refine hK.out _ _ (Hbg.out _ hb14') (fun hSn_ => ?_)
    clear hK K
    try simp only [Act.put, List.getElem_toArray, List.getElem_cons_zero, List.getElem_cons_succ, List.setIfInBounds_toArray, List.set_cons_zero, List.set_cons_succ]
    have Hst14 := Aside0.mk (Hst13.out.step hb14' Ok.out)
    have Hk14 := Aside0.mk (Hk13.out.trans (MKeep.of_below hb14'))
    have hsz13 := Hst13.out.size
    have hoP := Ok.out.oP.2
    have hown13 := Kd.N_lt Hst13.out.hN
    have hgr := Hih.out (dec.set b 2) w13.drew.heap.size (ns ++ [y] ++ more1) _ w14 Hds.out.2 Hcs.out.2 Hst14.out hrow (by show w13.heap.size ≠ s.Pb; omega) (by intro e; have := hown13 w13.heap.size e.symm; omega) (by have h1 := Hlen2.out; have h2 := Hm1.out; simp only [List.length_append, List.length_singleton]; omega)
    rw [List.length_set, ← Hm.out] at hgr
    have Hgr := Aside0.mk hgr
    clear hrow hb14 hb14' hgr Hbg hsz13 hoP hown13
    refine wpAnyH_ready (rs := [4]) (by kernel_rfl) (by simp) ?_
    refine AllReadyH.cons rfl (fun K hK => ?_) AllReadyH.nil
    go_simp
    refine Hgr.out.mono ?_
    rintro e w15 ⟨vs15, more2, rfl, hst15, htree2, hm2, hk15⟩
    have hlns : ns.length < (ns ++ [y] ++ more1 ++ more2).length := by simp only [List.length_append, List.length_singleton]; omega
    obtain ⟨g5, c15, e15, hg50, hg51, cells15, hcells15⟩ := Kd.N_form hst15.hN (by omega)
    subst e15
    have Hst15 := Aside0.mk hst15
    have Htree2 := Aside0.mk htree2
    have Hm2 := Aside0.mk hm2
    have Hk15 := Aside0.mk (Hk14.out.trans hk15)
    refine hK.out _ _ ((hst15.boxes Ok.out).2.2.2) (fun hSn_ => ?_)
    clear hK K
    try simp only [Act.put, List.getElem_toArray, List.getElem_cons_zero, List.getElem_cons_succ, List.setIfInBounds_toArray, List.set_cons_zero, List.set_cons_succ]
    clear hst15 htree2 hm2 hk15 Hgr Hst14 Hst13 Hk14 Hk13 Hdb13 HdbO13 hcells15 cells15
    refine wpAnyH_take (i := 5) (v := ?_) rfl (by kernel_rfl) (by kernel_rfl) (by kernel_rfl) (fun _ _ _ h => h) (Or.inl ⟨by rfl, ?_⟩) (by assumption) ?_
    rotate_left
    ·(intro w_ hSw_; (try dsimp only at hSw_); go_simp; try with_reducible rfl)
    try simp only [Act.put, List.getElem_toArray, List.getElem_cons_zero, List.getElem_cons_succ, List.setIfInBounds_toArray, List.set_cons_zero, List.set_cons_succ]
    refine wpAnyH_done (by kernel_rfl) ?_ _
    clear hS0 hSn_ hbN hbL hbV hbG
    obtain ⟨L3, hL3⟩ : ∃ L3, L3 = ns ++ [y] ++ more1 ++ more2 := ⟨_, rfl⟩
    have HL3 := Aside0.mk hL3
    rw [← hL3] at Hst15 Hk15 Htree2 hlns
    obtain ⟨q, hq⟩ : ∃ q : Nat, q = L3.length := ⟨_, rfl⟩
    have Hq := Aside0.mk hq
    rw [← hq] at Hst15 Hk15 hlns
    have hgetL : L3[ns.length]? = some y := by
     rw [hL3, List.append_assoc, List.append_assoc, List.getElem?_append_right (Nat.le_refl _), Nat.sub_self]
     rfl
    have hqI : (ns.length : Int) < (q : Int) := by omega
    obtain ⟨z1, hz1⟩ : ∃ z1 : S55, z1 = ⟨(b : Int), (ns.length : Int) + 1, 0, []⟩ := ⟨_, rfl⟩
    obtain ⟨z2, hz2⟩ : ∃ z2 : S55, z2 = ⟨(b : Int), (ns.length : Int) + 1, (m : Int), []⟩ := ⟨_, rfl⟩
    have Hst16 := Aside0.mk (Hst15.out.step (below_drew1 (Below.refl _ w15)) Ok.out)
    obtain ⟨cs, hcl, hFK, hcc, hfr⟩ := Kd.N_elem Hst16.out.hN z55 (ns.length : Int) (by omega) (by omega)
    rw [Int.toNat_natCast] at hFK hcc hfr
    rw [show L3.getD ns.length z55 = y by simp [List.getD, hgetL], hy] at hFK
    obtain ⟨A2, c2, ec, hl2, hF2⟩ := k55_openF hFK
    obtain ⟨hN17, hg17⟩ := Kd.N_seg Hst16.out.hN (ns.length : Int) (by omega) (by omega) (c := cs) (seg := [.int .i64 ((ns.length : Int) + 1)]) (j := 1) (okp := fun k => s.W1.heap.size ≤ k ∧ k ≠ g5) hcl (by rw [Int.toNat_natCast]; exact hcc) (by show 1 + 1 ≤ 4; omega) (x' := ⟨(b : Int), (ns.length : Int) + 1, 0, []⟩) (by rw [ec]; exact k55_mkF _ _ ⟨(b : Int), (ns.length : Int) + 1, 0, []⟩ hl2 hF2) (fun _ hk => hk)
    rw [Int.toNat_natCast, ← hz1] at hN17
    rw [Int.toNat_natCast] at hg17
    have hc1 : w15.drew.cell? ⟨g5, ns.length * 4 + 1, none⟩ = some (.int .i64 0) := hcc 1 _ (by rw [ec]; rfl)
    have hf1 : w15.drew.frozen? ⟨g5, ns.length * 4 + 1, none⟩ = false := hfr 1
    have Hseg := Aside0.mk (Hst16.out.seg Ok.out hg17 hN17)
    clear hN17 hg17 hcc hfr hFK hcl ec hl2 hF2
    clear c2 A2 cs hq hL3 hgetL
    go_upto_region 17 with (fail)
    refine wp_region_held_drew (S := fun w' => w'.cell? ⟨s.Pb, 1, none⟩ = some (.slice (some ⟨g5, 0, none⟩) q c15)) (by kernel_rfl) Hst16.out.cells.2.1 ?_
    intro hS0
    refine wpAnyH_take (i := 0) (v := ?_) rfl (by kernel_rfl) (by kernel_rfl) (by kernel_rfl) (fun _ _ _ h => h) (Or.inl ⟨by rfl, ?_⟩) (by assumption) ?_
    rotate_left
    ·(intro w_ hSw_; (try dsimp only at hSw_); go_simp; try with_reducible rfl)
    try simp only [Act.put, List.getElem_toArray, List.getElem_cons_zero, List.getElem_cons_succ, List.setIfInBounds_toArray, List.set_cons_zero, List.set_cons_succ]
    refine wpAnyH_take (i := 1) (v := ?_) rfl (by kernel_rfl) (by kernel_rfl) (by kernel_rfl) (fun _ _ _ h => h) (Or.inl ⟨by rfl, ?_⟩) (by assumption) ?_
    rotate_left
    ·(intro w_ hSw_; (try dsimp only at hSw_); go_simp; try with_reducible rfl)
    try simp only [Act.put, List.getElem_toArray, List.getElem_cons_zero, List.getElem_cons_succ, List.setIfInBounds_toArray, List.set_cons_zero, List.set_cons_succ]
    refine wpAnyH_take (i := 2) (v := ?_) rfl (by kernel_rfl) (by kernel_rfl) (by kernel_rfl) (fun _ _ _ h => h) (Or.inl ⟨by rfl, ?_⟩) (by assumption) ?_
    rotate_left
    ·(intro w_ hSw_; (try dsimp only at hSw_); go_simp; try with_reducible rfl)
    try simp only [Act.put, List.getElem_toArray, List.getElem_cons_zero, List.getElem_cons_succ, List.setIfInBounds_toArray, List.set_cons_zero, List.set_cons_succ]
    refine wpAnyH_take (i := 3) (v := ?_) rfl (by kernel_rfl) (by kernel_rfl) (by kernel_rfl) (fun _ _ _ h => h) (Or.inl ⟨by rfl, ?_⟩) (by assumption) ?_
    rotate_left
    ·(intro w_ hSw_; (try dsimp only at hSw_); go_simp; try with_reducible rfl)
    try simp only [Act.put, List.getElem_toArray, List.getElem_cons_zero, List.getElem_cons_succ, List.setIfInBounds_toArray, List.set_cons_zero, List.set_cons_succ]
    refine wpAnyH_take (i := 4) (v := ?_) rfl (by kernel_rfl) (by kernel_rfl) (by kernel_rfl) (fun _ _ _ h => h) (Or.inl ⟨by rfl, ?_⟩) (by assumption) ?_
    rotate_left
    ·(intro w_ hSw_; (try dsimp only at hSw_); go_simp; try with_reducible rfl)
    try simp only [Act.put, List.getElem_toArray, List.getElem_cons_zero, List.getElem_cons_succ, List.setIfInBounds_toArray, List.set_cons_zero, List.set_cons_succ]
    refine wpAnyH_take (i := 5) (v := ?_) rfl (by kernel_rfl) (by kernel_rfl) (by kernel_rfl) (fun _ _ _ h => h) (Or.inl ⟨by rfl, ?_⟩) (by assumption) ?_
    rotate_left
    ·(intro w_ hSw_; (try dsimp only at hSw_); go_simp; try with_reducible rfl)
    try simp only [Act.put, List.getElem_toArray, List.getElem_cons_zero, List.getElem_cons_succ, List.setIfInBounds_toArray, List.set_cons_zero, List.set_cons_succ]
    refine wpAnyH_take (i := 6) (v := ?_) rfl (by kernel_rfl) (by kernel_rfl) (by kernel_rfl) (fun _ _ _ h => h) (Or.inl ⟨by rfl, ?_⟩) (by assumption) ?_
    rotate_left
    ·(intro w_ hSw_; (try dsimp only at hSw_); go_simp; try with_reducible rfl)
    try simp only [Act.put, List.getElem_toArray, List.getElem_cons_zero, List.getElem_cons_succ, List.setIfInBounds_toArray, List.set_cons_zero, List.set_cons_succ]
    refine wpAnyH_take (i := 7) (v := ?_) rfl (by kernel_rfl) (by kernel_rfl) (by kernel_rfl) (fun _ _ _ h => h) (Or.inl ⟨by rfl, ?_⟩) (by assumption) ?_
    rotate_left
    ·(intro w_ hSw_; (try dsimp only at hSw_); go_simp; try with_reducible rfl)
    try simp only [Act.put, List.getElem_toArray, List.getElem_cons_zero, List.getElem_cons_succ, List.setIfInBounds_toArray, List.set_cons_zero, List.set_cons_succ]
    refine wpAnyH_take (i := 8) (v := ?_) rfl (by kernel_rfl) (by kernel_rfl) (by kernel_rfl) (fun _ _ _ h => h) (Or.inl ⟨by rfl, ?_⟩) (by assumption) ?_
    rotate_left
    ·(intro w_ hSw_; (try dsimp only at hSw_); go_simp; try with_reducible rfl)
    try simp only [Act.put, List.getElem_toArray, List.getElem_cons_zero, List.getElem_cons_succ, List.setIfInBounds_toArray, List.set_cons_zero, List.set_cons_succ]
    refine wpAnyH_take (i := 9) (v := ?_) rfl (by kernel_rfl) (by kernel_rfl) (by kernel_rfl) (fun _ _ _ h => h) (Or.inl ⟨by rfl, ?_⟩) (by assumption) ?_
    rotate_left
    ·(intro w_ hSw_; (try dsimp only at hSw_); go_simp; try with_reducible rfl)
    try simp only [Act.put, List.getElem_toArray, List.getElem_cons_zero, List.getElem_cons_succ, List.setIfInBounds_toArray, List.set_cons_zero, List.set_cons_succ]
    refine wpAnyH_ready (rs := [10]) (by kernel_rfl) (by simp) ?_
    refine AllReadyH.cons rfl (fun K hK => ?_) AllReadyH.nil
    go_simp
    obtain ⟨W17, hW17⟩ : ∃ W17, W17 = (w15.setCell ⟨g5, ns.length * 4 + 1, none⟩ (.int .i64 ((ns.length : Int) + 1))).drew := ⟨_, rfl⟩
    have Hst17 : Aside0 (MSt s W17 (.slice (some ⟨g5, 0, none⟩) q c15) (L3.set ns.length z1)) := ⟨by rw [hW17]; exact Hseg.out.1⟩
    have Hk17 : Aside0 (MKeep s w (.slice Av ns.length cv_) W17 (.slice (some ⟨g5, 0, none⟩) q c15)) := ⟨by rw [hW17]; exact (Hk15.out.trans (MKeep.of_below (below_drew1 (Below.refl _ w15)))).trans Hseg.out.2⟩
    rw [← hW17]
    clear hW17 Hseg hc1 hf1 Hst16 Hst15 Hk15
    refine hK.out _ _ (Hst17.out.cells.2.1) (fun hSn_ => ?_)
    clear hK K
    try simp only [Act.put, List.getElem_toArray, List.getElem_cons_zero, List.getElem_cons_succ, List.setIfInBounds_toArray, List.set_cons_zero, List.set_cons_succ]
    refine wpAnyH_take (i := 11) (v := ?_) rfl (by kernel_rfl) (by kernel_rfl) (by kernel_rfl) (fun _ _ _ h => h) (Or.inl ⟨by rfl, ?_⟩) (by assumption) ?_
    rotate_left
    ·(intro w_ hSw_; (try dsimp only at hSw_); go_simp; try with_reducible rfl)
    try simp only [Act.put, List.getElem_toArray, List.getElem_cons_zero, List.getElem_cons_succ, List.setIfInBounds_toArray, List.set_cons_zero, List.set_cons_succ]
    refine wpAnyH_take (i := 12) (v := ?_) rfl (by kernel_rfl) (by kernel_rfl) (by kernel_rfl) (fun _ _ _ h => h) (Or.inl ⟨by rfl, ?_⟩) (by assumption) ?_
    rotate_left
    ·(intro w_ hSw_; (try dsimp only at hSw_); go_simp; try with_reducible rfl)
    try simp only [Act.put, List.getElem_toArray, List.getElem_cons_zero, List.getElem_cons_succ, List.setIfInBounds_toArray, List.set_cons_zero, List.set_cons_succ]
    obtain ⟨cs, hcl, hFK, hcc, hfr⟩ := Kd.N_elem Hst17.out.hN z55 (ns.length : Int) (by omega) (by omega)
    rw [Int.toNat_natCast] at hFK hcc hfr
    rw [show (L3.set ns.length z1).getD ns.length z55 = z1 by simp [List.getD]; rw [List.getElem?_set_self (by rw [← Hq.out]; exact hlns)]; rfl, hz1] at hFK
    obtain ⟨A2, c2, ec, hl2, hF2⟩ := k55_openF hFK
    obtain ⟨hN18, hg18⟩ := Kd.N_seg Hst17.out.hN (ns.length : Int) (by omega) (by omega) (c := cs) (seg := [.int .i64 (m : Int)]) (j := 2) (okp := fun k => s.W1.heap.size ≤ k ∧ k ≠ g5) hcl (by rw [Int.toNat_natCast]; exact hcc) (by show 2 + 1 ≤ 4; omega) (x' := ⟨(b : Int), (ns.length : Int) + 1, (m : Int), []⟩) (by rw [ec]; exact k55_mkF _ _ ⟨(b : Int), (ns.length : Int) + 1, (m : Int), []⟩ hl2 hF2) (fun _ hk => hk)
    rw [Int.toNat_natCast, List.set_set, ← hz2] at hN18
    rw [Int.toNat_natCast] at hg18
    have hc2 : W17.cell? ⟨g5, ns.length * 4 + 2, none⟩ = some (.int .i64 0) := hcc 2 _ (by rw [ec]; rfl)
    have hf2 : W17.frozen? ⟨g5, ns.length * 4 + 2, none⟩ = false := hfr 2
    have Hseg := Aside0.mk (Hst17.out.seg Ok.out hg18 hN18)
    clear hN18 hg18 hcc hfr hFK hcl ec hl2 hF2
    refine wpAnyH_ready (rs := [13]) (by kernel_rfl) (by simp) ?_
    refine AllReadyH.cons rfl (fun K hK => ?_) AllReadyH.nil
    go_simp
    obtain ⟨W18, hW18⟩ : ∃ W18, W18 = W17.setCell ⟨g5, ns.length * 4 + 2, none⟩ (.int .i64 (m : Int)) := ⟨_, rfl⟩
    have hset : L3.set ns.length z2 = ns ++ (z2 :: (more1 ++ more2)) := by
     rw [HL3.out, List.append_assoc (ns ++ [y]), set_mid]
     simp
    have Hst18 : Aside0 (MSt s W18 (.slice (some ⟨g5, 0, none⟩) q c15) (ns ++ (z2 :: (more1 ++ more2)))) := ⟨by rw [← hset, hW18]; exact Hseg.out.1⟩
    have Hk18 : Aside0 (MKeep s w (.slice Av ns.length cv_) W18 (.slice (some ⟨g5, 0, none⟩) q c15)) := ⟨by rw [hW18]; exact Hk17.out.trans Hseg.out.2⟩
    rw [← hW18]
    clear hW18 Hseg hc2 hf2 Hst17 Hk17
    refine hK.out _ _ (Hst18.out.cells.2.1) (fun hSn_ => ?_)
    clear hK K
    try simp only [Act.put, List.getElem_toArray, List.getElem_cons_zero, List.getElem_cons_succ, List.setIfInBounds_toArray, List.set_cons_zero, List.set_cons_succ]
    refine wpAnyH_done (by kernel_rfl) ?_ _
    clear hS0 hSn_
    go_wp2
    go_ret
    refine ⟨rfl, _, z2 :: (more1 ++ more2), Hst18.out, ?_, ?_, Hk18.out⟩
    ·have h := Htree2.out
     rw [HL3.out, Hm.out] at h
     have h3 := tree_join ns more1 more2 y z2 hbl Hpb.out (by rw [hz2, Hm.out]) Htree1.out h
     rw [List.length_append] at h3
     exact h3
    ·have h1 := Hm1.out
     have h2 := Hm2.out
     rw [Nat.pow_succ]
     simp only [List.length_cons, List.length_append]
     omega
 ·obtain ⟨cs, hcl, hFK, hcc, hfr⟩ := Kd.N_elem Hst9.out.hN z55 (ns.length : Int) (by omega) (by omega)
  rw [Int.toNat_natCast] at hFK hcc hfr
  rw [show (ns ++ [x]).getD ns.length z55 = x by simp [List.getD], hx] at hFK
  obtain ⟨A2, c2, ec, hl2, hF2⟩ := k55_openF hFK
  have hFps : Kd.F (Kd.int .i64) w9 (fun k => s.W1.heap.size ≤ k ∧ k ≠ g) Ap ps.length ps := Kd.F_mono (Kd.R_F (Kd.R_bound HR.out)) (fun k hk => by
   have h1 : w8.heap.size ≤ k := hk.2.1
   have h2 := Hst8.out.size
   have h3 : g < w8.heap.size := Kd.N_lt Hst8.out.hN g rfl
   exact ⟨by omega, by omega⟩)
  obtain ⟨hN10, hg10⟩ := Kd.N_seg Hst9.out.hN (ns.length : Int) (by omega) (by omega) (c := cs) (seg := [.slice Ap ps.length cp]) (j := 3) (okp := fun k => s.W1.heap.size ≤ k ∧ k ≠ g) hcl (by rw [Int.toNat_natCast]; exact hcc) (by show 3 + 1 ≤ 4; omega) (x' := ⟨-1, 0, 0, ps⟩) (by rw [ec]; exact k55_mkF _ _ ⟨-1, 0, 0, ps⟩ (Kd.R_reads' HR.out).2.1 hFps) (fun _ hk => hk)
  rw [Int.toNat_natCast] at hN10 hg10
  have hc3 : w9.cell? ⟨g, ns.length * 4 + 3, none⟩ = some (.slice A2 0 c2) := hcc 3 _ (by rw [ec]; rfl)
  have hf3 : w9.frozen? ⟨g, ns.length * 4 + 3, none⟩ = false := hfr 3
  rw [show (ns ++ [x]).set ns.length ⟨-1, 0, 0, ps⟩ = ns ++ [(⟨-1, 0, 0, ps⟩ : S55)] by rw [List.set_append_right _ _ (Nat.le_refl _), Nat.sub_self]; rfl] at hN10
  have Hseg := Aside0.mk (Hst9.out.seg Ok.out hg10 hN10)
  clear hN10 hg10 hFps hcc hfr hFK hcl ec hl2 hF2
  go_upto_region 6 with (fail)
  obtain ⟨w10, hw10⟩ : ∃ w10, w10 = w9.setCell ⟨g, ns.length * 4 + 3, none⟩ (.slice Ap ps.length cp) := ⟨_, rfl⟩
  have Hst10 : Aside0 (MSt s w10 (.slice (some ⟨g, 0, none⟩) (ns.length + 1) c7) (ns ++ [⟨-1, 0, 0, ps⟩])) := ⟨by rw [hw10]; exact Hseg.out.1⟩
  have Hk10 : Aside0 (MKeep s w (.slice Av ns.length cv_) w10 (.slice (some ⟨g, 0, none⟩) (ns.length + 1) c7)) := ⟨by rw [hw10]; exact Hk9.out.trans Hseg.out.2⟩
  rw [← hw10]
  clear hw10 Hseg hc3 hf3 hp0 hp1 hpf0 hpf1 hbN hbL hbV hbG
  go_wp2
  go_ret
  refine ⟨_, [⟨-1, 0, 0, ps⟩], rfl, Hst10.out, ?_, ?_, Hk10.out⟩
  ·rw [show (ns ++ [(⟨-1, 0, 0, ps⟩ : S55)]).length = ns.length + 1 by simp]
   exact .leaf ns.length dec ps (by simp) Hps.out.1 Hps.out.2 (Hok.out (by first | rfl | trivial))
  ·rw [Nat.pow_succ]
   have := Nat.two_pow_pos f
   show 1 + 1 ≤ 2 ^ f * 2
   omega
theorem mgrow (s : MCx) (ok : MOk s) (f : Nat) : MGrow s f := by
 induction f using Nat.strongRecOn with
 | _ f ih => exact make1_calls s ok f ih
/-- What Make needs of valid bids. -/
structure MHyp (n : Nat) (l : List S82) (v : Int) (D : List Int → Prop) : Prop where
 l10 : l.length ≤ 10
 n1 : 1 ≤ n
 n8 : n ≤ 8
 bids : ∀ b ∈ l, (1 ≤ b.f1 ∧ b.f1 ≤ 1099511627776) ∧ b.f2.length ≤ 8 ∧ ∀ k ∈ b.f2, 0 ≤ k ∧ k < (n : Int)
 d0 : D (List.replicate l.length 0)
 dlen : ∀ dec, D dec → dec.length = l.length
 dset : ∀ dec b, D dec → b < l.length → possP l dec b = true → D (dec.set b 1) ∧ D (dec.set b 2)
 dstop : ∀ dec, D dec → (∀ b, b < l.length → possP l dec b = false) → boundD l dec (List.replicate n 0) ≤ v
set_option maxHeartbeats 4000000 in
set_option maxRecDepth 100000 in
theorem make_ok (n : Nat) (A1 : Option Addr) (c1 : Nat) (l : List S82) (win : List Int) (v : Int) (D : List Int → Prop) (w : World) (hr1 : Kd.C k82 w A1 l.length l) (hc1 : l.length ≤ c1) (h : clear_Best.f (n : Int) l = some (win, v, 0)) (hy : MHyp n l v D) :
  Calls Try.prog 37 #[.int .i64 (n : Int), .slice A1 l.length c1] w fun e w' => ∃ (vs : Value) (ns : List S55), e = .returned (.tuple #[.agg #[.int .i64 v, vs], .int .i64 0]) ∧ Kd.N k55 55 w' w.heap.size (fun k => w.heap.size ≤ k) vs ns ∧ GTree n l v ns 0 ns.length (List.replicate l.length 0) ∧ ns.length + 1 ≤ 2 ^ (l.length + 1) ∧ Below w.heap.size w w' := by
 have Hy := Aside0.mk hy
 have Hr1 := Aside0.mk hr1
 have Hbest := Aside0.mk (fun w' (hb : Below w.heap.size w w') => clear_Best.calls (n : Int) A1 c1 l win v 0 w' (Kd.C_below hr1 hb) hc1 h)
 have hl10 := hy.l10
 clear hy hr1 h
 go_enter Try.func37, Try.ntmps37
 go_upto_region 1 with (fail)
 obtain ⟨W1, hW1⟩ : ∃ W1, W1 = ((w.alloc (.cells #[.int .i64 (n : Int)] 3)).alloc (.cells #[.slice A1 l.length c1] 40)).alloc (.cells #[.int .i64 0, .slice none 0 0] 44) := ⟨_, rfl⟩
 have hsz1 : W1.heap.size = w.heap.size + 3 := by rw [hW1]; simp
 have hb1 : Below w.heap.size w W1 := by rw [hW1]; exact (((Below.refl _ w).alloc (Nat.le_refl _) _).alloc (by simp) _).alloc (by simp; omega) _
 have hbn : W1.heap[w.heap.size]? = some (.cells #[.int .i64 (n : Int)] 3 (0, 0)) := by
  rw [hW1]
  exact ((Below.heap_alloc _ _ _ (by simp; omega)).trans (Below.heap_alloc _ _ _ (by simp))).trans (heap_alloc_new w _)
 have hbl : W1.heap[w.heap.size + 1]? = some (.cells #[.slice A1 l.length c1] 40 (0, 0)) := by
  have h_ := heap_alloc_new (w.alloc (.cells #[.int .i64 (n : Int)] 3)) (.cells #[.slice A1 l.length c1] 40)
  rw [World.size_alloc] at h_
  rw [hW1]
  exact (Below.heap_alloc _ _ _ (by simp)).trans h_
 have hbr : W1.heap[w.heap.size + 2]? = some (.cells #[.int .i64 0, .slice none 0 0] 44 (0, 0)) := by
  have h_ := heap_alloc_new ((w.alloc (.cells #[.int .i64 (n : Int)] 3)).alloc (.cells #[.slice A1 l.length c1] 40)) (.cells #[.int .i64 0, .slice none 0 0] 44)
  rw [World.size_alloc, World.size_alloc] at h_
  rw [hW1]
  exact h_
 rw [← hW1]
 have hz0 : W1.cell? ⟨w.heap.size, 0, none⟩ = some (.int .i64 (n : Int)) := (blk_cell hbn 0).trans rfl
 have hz1 : W1.cell? ⟨w.heap.size + 1, 0, none⟩ = some (.slice A1 l.length c1) := (blk_cell hbl 0).trans rfl
 have Hb1 := Aside0.mk hb1
 have Hsz1 := Aside0.mk hsz1
 have Hbn := Aside0.mk hbn
 have Hbl := Aside0.mk hbl
 have Hbr := Aside0.mk hbr
 clear hW1 hb1 hsz1 hbn hbl hbr
 go_wp2_with fail
 refine (Hbest.out W1 Hb1.out).mono ?_
 rintro e w2 ⟨v0_, rfl, hR2, hb2⟩
 have Hb2 := Aside0.mk (Hb1.out.trans (hb2.mono Hb1.out.size))
 have Hbn2 := Aside0.mk (blk_below Hbn.out hb2)
 have Hbl2 := Aside0.mk (blk_below Hbl.out hb2)
 have Hbr2 := Aside0.mk (blk_below Hbr.out hb2)
 have Hsz2 : Aside0 (w.heap.size + 3 ≤ w2.heap.size) := ⟨by have := hb2.size; have := Hsz1.out; omega⟩
 clear hb2 hR2 Hbest Hbn Hbl Hbr Hsz1 Hb1 hz0 hz1
 go_upto_region 7 with (fail)
 obtain ⟨W3, hW3⟩ : ∃ W3, W3 = ((w2.alloc (.cells #[.int .i64 v] 3)).alloc (.cells #[.int .i64 v, .slice none 0 0] 44)).alloc (.cells #[.func (.func 62) #[] #[.pointer (some ⟨w2.heap.size + 1, 0, none⟩), .pointer (some ⟨w.heap.size, 0, none⟩), .pointer (some ⟨w.heap.size + 1, 0, none⟩), .pointer (some ⟨w2.heap.size, 0, none⟩), .pointer (some ⟨w2.heap.size + 1 + 1, 0, none⟩)]] 114) := ⟨_, rfl⟩
 have hsz3 : W3.heap.size = w2.heap.size + 3 := by rw [hW3]; simp
 have hb3 : Below w2.heap.size w2 W3 := by rw [hW3]; exact (((Below.refl _ w2).alloc (Nat.le_refl _) _).alloc (by simp) _).alloc (by simp; omega) _
 have hbv : W3.heap[w2.heap.size]? = some (.cells #[.int .i64 v] 3 (0, 0)) := by
  rw [hW3]
  exact ((Below.heap_alloc _ _ _ (by simp; omega)).trans (Below.heap_alloc _ _ _ (by simp))).trans (heap_alloc_new w2 _)
 have hbp : W3.heap[w2.heap.size + 1]? = some (.cells #[.int .i64 v, .slice none 0 0] 44 (0, 0)) := by
  have h_ := heap_alloc_new (w2.alloc (.cells #[.int .i64 v] 3)) (.cells #[.int .i64 v, .slice none 0 0] 44)
  rw [World.size_alloc] at h_
  rw [hW3]
  exact (Below.heap_alloc _ _ _ (by simp)).trans h_
 have hbg : W3.heap[w2.heap.size + 2]? = some (.cells #[.func (.func 62) #[] #[.pointer (some ⟨w2.heap.size + 1, 0, none⟩), .pointer (some ⟨w.heap.size, 0, none⟩), .pointer (some ⟨w.heap.size + 1, 0, none⟩), .pointer (some ⟨w2.heap.size, 0, none⟩), .pointer (some ⟨w2.heap.size + 1 + 1, 0, none⟩)]] 114 (0, 0)) := by
  have h_ := heap_alloc_new ((w2.alloc (.cells #[.int .i64 v] 3)).alloc (.cells #[.int .i64 v, .slice none 0 0] 44)) (.cells #[.func (.func 62) #[] #[.pointer (some ⟨w2.heap.size + 1, 0, none⟩), .pointer (some ⟨w.heap.size, 0, none⟩), .pointer (some ⟨w.heap.size + 1, 0, none⟩), .pointer (some ⟨w2.heap.size, 0, none⟩), .pointer (some ⟨w2.heap.size + 1 + 1, 0, none⟩)]] 114)
  rw [World.size_alloc, World.size_alloc] at h_
  rw [hW3]
  exact h_
 obtain ⟨s, hs⟩ : ∃ s : MCx, s = ⟨n, l, v, A1, c1, w, W3, w2.heap.size + 1, w.heap.size, w.heap.size + 1, w2.heap.size, w2.heap.size + 1 + 1, D⟩ := ⟨_, rfl⟩
 have hB3 := Hb2.out.trans (hb3.mono Hb2.out.size)
 have hz2 := Hsz2.out
 have ok : MOk s := by
  rw [hs]
  exact ⟨Hr1.out, hl10, Hy.out.n1, Hy.out.n8, Hy.out.bids, hB3, ⟨by show w.heap.size ≤ w2.heap.size + 1; omega, by show w2.heap.size + 1 < W3.heap.size; omega⟩, blk_below Hbn2.out hb3, blk_below Hbl2.out hb3, hbv, hbg, ⟨by show w.heap.size ≠ w2.heap.size + 1; omega, by show w.heap.size + 1 ≠ w2.heap.size + 1; omega, by show w2.heap.size ≠ w2.heap.size + 1; omega, by show w2.heap.size + 1 + 1 ≠ w2.heap.size + 1; omega⟩, Hy.out.dlen, Hy.out.dset, Hy.out.dstop⟩
 have hst : MSt s W3 (.slice none 0 0) [] := by
  rw [hs]
  exact ⟨rfl, rfl, rfl, Nat.le_refl _, fun _ _ _ => rfl, hbp, Kd.N_nil _ _ _ _ _⟩
 have Hs := Aside0.mk hs
 have Ok := Aside0.mk ok
 have Hst := Aside0.mk hst
 have Hsz3 := Aside0.mk hsz3
 have HB3 := Aside0.mk hB3
 have Hbr3 := Aside0.mk (blk_below Hbr2.out hb3)
 have hmk := print_make (P := Try.prog) 22 3 .i64 8 Try.underlying22 infoW (by decide) l.length (by omega)
 rw [made_zerosW] at hmk
 have Hkeep : Aside0 (∀ w', Below W3.heap.size W3 w' → w'.cell? ⟨w2.heap.size + 1 + 1, 0, none⟩ = some (.func (.func 62) #[] #[.pointer (some ⟨w2.heap.size + 1, 0, none⟩), .pointer (some ⟨w.heap.size, 0, none⟩), .pointer (some ⟨w.heap.size + 1, 0, none⟩), .pointer (some ⟨w2.heap.size, 0, none⟩), .pointer (some ⟨w2.heap.size + 1 + 1, 0, none⟩)]) ∧ w'.cell? ⟨w.heap.size + 1, 0, none⟩ = some (.slice A1 l.length c1)) := ⟨fun w' hb => ⟨(blk_cell (blk_below hbg hb) 0).trans rfl, (blk_cell (blk_below (blk_below Hbl2.out hb3) hb) 0).trans rfl⟩⟩
 rw [← hW3]
 clear hW3 hsz3 hb3 hbv hbp hbg hs hB3 hz2 ok hst Hbn2 Hbl2 Hbr2 Hb2
 refine wp_region_held_drew (S := fun w' => w'.cell? ⟨w2.heap.size + 1 + 1, 0, none⟩ = some (.func (.func 62) #[] #[.pointer (some ⟨w2.heap.size + 1, 0, none⟩), .pointer (some ⟨w.heap.size, 0, none⟩), .pointer (some ⟨w.heap.size + 1, 0, none⟩), .pointer (some ⟨w2.heap.size, 0, none⟩), .pointer (some ⟨w2.heap.size + 1 + 1, 0, none⟩)]) ∧ w'.cell? ⟨w.heap.size + 1, 0, none⟩ = some (.slice A1 l.length c1)) (by kernel_rfl) (Hkeep.out W3.drew (below_drew1 (Below.refl _ _))) ?_
 intro hS0
 refine wpAnyH_take (i := 0) (v := ?_) rfl (by kernel_rfl) (by kernel_rfl) (by kernel_rfl) (fun _ _ _ h => h) (Or.inl ⟨by rfl, ?_⟩) (by assumption) ?_
 rotate_left
 ·(intro w_ hSw_; (try dsimp only at hSw_); go_simp; try with_reducible rfl)
 try simp only [Act.put, List.getElem_toArray, List.getElem_cons_zero, List.getElem_cons_succ, List.setIfInBounds_toArray, List.set_cons_zero, List.set_cons_succ]
 refine wpAnyH_take (i := 1) (v := ?_) rfl (by kernel_rfl) (by kernel_rfl) (by kernel_rfl) (fun _ _ _ h => h) (Or.inl ⟨by rfl, ?_⟩) (by assumption) ?_
 rotate_left
 ·(intro w_ hSw_; (try dsimp only at hSw_); go_simp; try with_reducible rfl)
 try simp only [Act.put, List.getElem_toArray, List.getElem_cons_zero, List.getElem_cons_succ, List.setIfInBounds_toArray, List.set_cons_zero, List.set_cons_succ]
 refine wpAnyH_take (i := 2) (v := ?_) rfl (by kernel_rfl) (by kernel_rfl) (by kernel_rfl) (fun _ _ _ h => h) (Or.inl ⟨by rfl, ?_⟩) (by assumption) ?_
 rotate_left
 ·(intro w_ hSw_; (try dsimp only at hSw_); go_simp; try with_reducible rfl)
 try simp only [Act.put, List.getElem_toArray, List.getElem_cons_zero, List.getElem_cons_succ, List.setIfInBounds_toArray, List.set_cons_zero, List.set_cons_succ]
 refine wpAnyH_ready (rs := [3]) (by kernel_rfl) (by simp) ?_
 refine AllReadyH.cons rfl (fun K hK => ?_) AllReadyH.nil
 go_simp
 obtain ⟨W5, hW5⟩ : ∃ W5, W5 = (W3.alloc (.cells (Array.replicate l.length (Value.int .i64 0)) 3)).drew := ⟨_, rfl⟩
 have hb5 : Below W3.heap.size W3 W5 := by rw [hW5]; exact below_drew1 ((Below.refl _ W3).alloc (Nat.le_refl _) _)
 have hD5 : W5.heap[W3.heap.size]? = some (.cells ((List.replicate l.length (0 : Int)).map (Value.int .i64)).toArray 3 (0, 0)) := by
  rw [hW5, List.map_replicate, List.toArray_replicate]
  exact blk_drew (heap_alloc_new W3 _)
 have hst5 := Hst.out.step hb5 Ok.out
 have hsl : s.l = l := by rw [Hs.out]
 have hgr := mgrow s Ok.out l.length (List.replicate l.length 0) W3.heap.size [] (.slice none 0 0) W5 (by rw [Hs.out]; exact Hy.out.d0) (by rw [List.count_replicate_self]; exact Nat.le_refl _) hst5 hD5 (by rw [Hs.out]; show W3.heap.size ≠ w2.heap.size + 1; have := Hsz3.out; omega) (by intro e; cases e) (by
  have h1 : 2 ^ (l.length + 1) ≤ 2 ^ 11 := Nat.pow_le_pow_right (by omega) (by omega)
  show 0 + 2 ^ (l.length + 1) ≤ 100000
  omega)
 rw [List.length_replicate, Hs.out] at hgr
 rw [Hs.out] at hst5
 have Hgr := Aside0.mk hgr
 rw [← hW5]
 refine hK.out _ _ (Hkeep.out _ hb5) (fun hSn_ => ?_)
 clear hK K
 try simp only [Act.put, List.getElem_toArray, List.getElem_cons_zero, List.getElem_cons_succ, List.setIfInBounds_toArray, List.set_cons_zero, List.set_cons_succ]
 clear hW5 hb5 hD5 hst5 hgr hmk Hst Hkeep
 refine wpAnyH_ready (rs := [4]) (by kernel_rfl) (by simp) ?_
 refine AllReadyH.cons rfl (fun K hK => ?_) AllReadyH.nil
 go_simp
 refine Hgr.out.mono ?_
 rintro e w6 ⟨vs, more, rfl, hst6, htree, hmore, hkeep⟩
 rw [List.nil_append] at hst6 htree
 obtain ⟨As, cs_, es⟩ := Kd.N_slice hst6.hN
 subst es
 have hok2 : MOk ⟨n, l, v, A1, c1, w, W3, w2.heap.size + 1, w.heap.size, w.heap.size + 1, w2.heap.size, w2.heap.size + 1 + 1, D⟩ := by have := Ok.out; rw [Hs.out] at this; exact this
 have hB6 : Below w.heap.size w w6 := hst6.below hok2
 have hbr6 : w6.heap[w.heap.size + 2]? = some (.cells #[.int .i64 0, .slice none 0 0] 44 (0, 0)) := (hst6.fix (w.heap.size + 2) (by show w.heap.size + 2 < W3.heap.size; have := Hsz3.out; have := Hsz2.out; omega) (by show w.heap.size + 2 ≠ w2.heap.size + 1; have := Hsz2.out; omega)).trans Hbr3.out
 obtain ⟨hbN, hbL, hbV, hbG⟩ := hst6.boxes hok2
 obtain ⟨hp0, hp1, hpf0, hpf1⟩ := hst6.cells
 refine hK.out _ _ (⟨hbG, hbL⟩) (fun hSn_ => ?_)
 clear hK K
 try simp only [Act.put, List.getElem_toArray, List.getElem_cons_zero, List.getElem_cons_succ, List.setIfInBounds_toArray, List.set_cons_zero, List.set_cons_succ]
 refine wpAnyH_done (by kernel_rfl) ?_ _
 have hN6 := hst6.hN
 have hr0 : w6.cell? ⟨w.heap.size + 1 + 1, 0, none⟩ = some (.int .i64 0) := (blk_cell hbr6 0).trans rfl
 have hr1 : w6.cell? ⟨w.heap.size + 1 + 1, 1, none⟩ = some (.slice none 0 0) := (blk_cell hbr6 1).trans rfl
 have hrf0 : w6.frozen? ⟨w.heap.size + 1 + 1, 0, none⟩ = false := blk_frozen hbr6 0
 have hrf1 : w6.frozen? ⟨w.heap.size + 1 + 1, 1, none⟩ = false := blk_frozen hbr6 1
 have HN6 := Aside0.mk hN6
 have Htree := Aside0.mk htree
 have Hmore := Aside0.mk hmore
 have HB6 := Aside0.mk hB6
 have Hbr6 := Aside0.mk hbr6
 dsimp only at hp0 hp1 hpf0 hpf1
 clear hN6 htree hmore hB6 hbr6 hst6 hkeep hok2 hbN hbL hbV hbG hS0 hSn_ Hgr Ok Hs
 go_wp2_with fail
 obtain ⟨W7, hW7⟩ : ∃ W7, W7 = (w6.setCell ⟨w.heap.size + 1 + 1, 0, none⟩ (.int .i64 v)).setCell ⟨w.heap.size + 1 + 1, 1, none⟩ (.slice As more.length cs_) := ⟨_, rfl⟩
 have hb7 : W7.heap[w.heap.size + 1 + 1]? = some (.cells #[.int .i64 v, .slice As more.length cs_] 44 (0, 0)) := by
  rw [hW7]
  exact blk_put (cs := #[.int .i64 v, .slice none 0 0]) (blk_put Hbr6.out 0 _ rfl) 1 _ rfl
 have hlt3 : w.heap.size + 2 < W3.heap.size := by have := Hsz3.out; have := Hsz2.out; omega
 have hN7 : Kd.N k55 55 W7 w.heap.size (fun k => w.heap.size ≤ k) (.slice As more.length cs_) more := by
  rw [hW7]
  refine Kd.N_mono (Kd.N_lower (Kd.N_far (p := ⟨w.heap.size + 1 + 1, 1, none⟩) (Kd.N_far (p := ⟨w.heap.size + 1 + 1, 0, none⟩) HN6.out ?_ _) ?_ _) ?_) ?_
  ·intro k hk
   have hk : W3.heap.size ≤ k := hk
   show k ≠ w.heap.size + 1 + 1
   omega
  ·intro k hk
   have hk : W3.heap.size ≤ k := hk
   show k ≠ w.heap.size + 1 + 1
   omega
  ·show w.heap.size ≤ W3.heap.size
   omega
  ·intro k hk
   have hk : W3.heap.size ≤ k := hk
   omega
 have hB7 : Below w.heap.size w W7 := by rw [hW7]; exact below_set (below_set HB6.out (by show w.heap.size ≤ w.heap.size + 1 + 1; omega)) (by show w.heap.size ≤ w.heap.size + 1 + 1; omega)
 rw [← hW7]
 refine bodyPost_ret (results_ct rfl _ _ (w.heap.size + 1 + 1) 44 #[.int .i64 v, .slice As more.length cs_] (0, 0) _ rfl hb7 Try.underlying44 rfl (by kernel_rfl)) rfl ?_
 exact ⟨_, rfl, more, hN7, Htree.out, Hmore.out, hB7⟩
/-- A node with one part replaced. -/
def spoN (x : S34) (h a3 : Int) : S34 :=
 if h = 0 then ⟨a3, x.f1, x.f2, x.f3⟩ else if h = 1 then ⟨x.f0, a3, x.f2, x.f3⟩ else if h = 2 then ⟨x.f0, x.f1, a3, x.f3⟩ else if h = 3 then ⟨x.f0, x.f1, x.f2, x.f3 ++ [a3]⟩ else x
def spo9Ok (l : List S34) : Bool := decide (l.length ≤ 100000) && l.all fun b => decide (b.f3.length ≤ 1000)
def worldmintref29_Spoilt.f (v0 : Int) (l : List S34) (a1 a2 a3 : Int) : Option (Int × List S34) :=
 if spo9Ok l then (worldmintref01_Around.f a1 (l.length + 1 : Int)).bind fun j =>
  if 0 ≤ j ∧ j ≤ l.length then
   (if j = l.length then (worldmintref01_Around.f a2 2).bind fun h => some (if h = 0 then wrap64 (v0 + a3) else v0, l ++ [⟨-1, 0, 0, []⟩])
   else (worldmintref01_Around.f a2 6).bind fun h =>
    if 0 ≤ h ∧ h < 6 then
     (if 4 ≤ h ∧ 0 < (l.getD j.toNat z34).f3.length then
      (worldmintref01_Around.f (IntKind.i64.wrap (Int.tdiv a2 6)) (l.getD j.toNat z34).f3.length).bind fun i =>
       if 0 ≤ i ∧ i < (l.getD j.toNat z34).f3.length then
        some (v0, l.set j.toNat ⟨(l.getD j.toNat z34).f0, (l.getD j.toNat z34).f1, (l.getD j.toNat z34).f2, (l.getD j.toNat z34).f3.set i.toNat a3⟩)
       else none
     else some (v0, l.set j.toNat (spoN (l.getD j.toNat z34) h a3)))
    else none)
  else none
 else none
/-- How the boxes stand: the result's, the certificate's. -/
structure QSt (w : World) (okN : Nat → Prop) (v : Int) (vs : Value) (l : List S34) (X : World) : Prop where
 sz : w.heap.size + 3 ≤ X.heap.size
 b8 : X.heap[w.heap.size + 1]? = some (.cells #[.int .i64 0, .slice none 0 0] 30 (0, 0))
 b9 : X.heap[w.heap.size + 2]? = some (.cells #[.int .i64 v, vs] 30 (0, 0))
 hN : Kd.N k34 34 X (w.heap.size + 3) okN vs l
 hok : ∀ k, okN k → k < w.heap.size ∨ w.heap.size + 3 ≤ k
 fb : Below w.heap.size w X
section
variable {w X X1 : World} {okN : Nat → Prop} {v : Int} {vs v1 : Value} {l l1 : List S34}
theorem QSt.step (h : QSt w okN v vs l X) (hb : Below X.heap.size X X1) : QSt w okN v vs l X1 := by
 have hsz := h.sz
 exact ⟨Nat.le_trans hsz hb.size, (hb.block _ (by omega)).trans h.b8, (hb.block _ (by omega)).trans h.b9, Kd.N_below h.hN hb, h.hok, h.fb.trans (hb.mono h.fb.size)⟩
theorem QSt.cells (h : QSt w okN v vs l X) : X.cell? ⟨w.heap.size + 1 + 1, 0, none⟩ = some (.int .i64 v) ∧ X.cell? ⟨w.heap.size + 1 + 1, 1, none⟩ = some vs ∧ X.frozen? ⟨w.heap.size + 1 + 1, 0, none⟩ = false ∧ X.frozen? ⟨w.heap.size + 1 + 1, 1, none⟩ = false :=
 ⟨(blk_cell h.b9 0).trans rfl, (blk_cell h.b9 1).trans rfl, blk_frozen h.b9 0, blk_frozen h.b9 1⟩
theorem QSt.cells8 (h : QSt w okN v vs l X) : X.cell? ⟨w.heap.size + 1, 0, none⟩ = some (.int .i64 0) ∧ X.cell? ⟨w.heap.size + 1, 1, none⟩ = some (.slice none 0 0) ∧ X.frozen? ⟨w.heap.size + 1, 0, none⟩ = false ∧ X.frozen? ⟨w.heap.size + 1, 1, none⟩ = false :=
 ⟨(blk_cell h.b8 0).trans rfl, (blk_cell h.b8 1).trans rfl, blk_frozen h.b8 0, blk_frozen h.b8 1⟩
/-- The list has been written (its own block, or a new one), and then its value stored. -/
theorem QSt.mv (h : QSt w okN v vs l X) (hg : X.grownBy X1 vs.ownBlock) (hN : Kd.N k34 34 X1 (w.heap.size + 3) okN v1 l1) : QSt w okN v v1 l1 (X1.setCell ⟨w.heap.size + 2, 1, none⟩ v1) := by
 have hsz := h.sz
 have hne : ∀ k, k < w.heap.size + 3 → some k ≠ vs.ownBlock := fun k hk e => by have := Kd.N_base h.hN k e.symm; omega
 have h9 := (hg.block _ (by omega) (hne _ (by omega))).trans h.b9
 have h8 := (hg.block _ (by omega) (hne _ (by omega))).trans h.b8
 have hfb : Below w.heap.size w X1 := h.fb.trans ⟨hg.os, hg.tape, hg.output, hg.size, fun k hk => hg.block k (Nat.lt_of_lt_of_le hk h.fb.size) (hne k (by omega))⟩
 have hs := hg.size
 exact ⟨by rw [World.size_setCell]; omega, (Below.heap_setCell X1 ⟨w.heap.size + 2, 1, none⟩ v1 _ (by show w.heap.size + 1 ≠ w.heap.size + 2; omega)).trans h8, blk_put h9 1 _ rfl, Kd.N_far hN (p := ⟨w.heap.size + 2, 1, none⟩) (fun k hk => by have := h.hok k hk; show k ≠ w.heap.size + 2; omega) _, h.hok, below_set hfb (by show w.heap.size ≤ w.heap.size + 2; omega)⟩
/-- The value is written. -/
theorem QSt.put0 (h : QSt w okN v vs l X) (u : Int) : QSt w okN u vs l (X.setCell ⟨w.heap.size + 2, 0, none⟩ (.int .i64 u)) := by
 have hsz := h.sz
 exact ⟨by rw [World.size_setCell]; omega, (Below.heap_setCell X ⟨w.heap.size + 2, 0, none⟩ _ _ (by show w.heap.size + 1 ≠ w.heap.size + 2; omega)).trans h.b8, blk_put h.b9 0 _ rfl, Kd.N_far h.hN (p := ⟨w.heap.size + 2, 0, none⟩) (fun k hk => by have := h.hok k hk; show k ≠ w.heap.size + 2; omega) _, h.hok, below_set h.fb (by show w.heap.size ≤ w.heap.size + 2; omega)⟩
theorem QSt.fin (h : QSt w okN v vs l X) (a b : Value) : Kd.N k34 34 ((X.setCell ⟨w.heap.size + 1, 0, none⟩ a).setCell ⟨w.heap.size + 1, 1, none⟩ b) w.heap.size okN vs l ∧ Below w.heap.size w ((X.setCell ⟨w.heap.size + 1, 0, none⟩ a).setCell ⟨w.heap.size + 1, 1, none⟩ b) := by
 have hne : ∀ k, okN k → k ≠ w.heap.size + 1 := fun k hk => by have := h.hok k hk; omega
 exact ⟨Kd.N_lower (Kd.N_far (p := ⟨w.heap.size + 1, 1, none⟩) (Kd.N_far (p := ⟨w.heap.size + 1, 0, none⟩) h.hN hne a) hne b) (by omega), below_set (below_set h.fb (by show w.heap.size ≤ w.heap.size + 1; omega)) (by show w.heap.size ≤ w.heap.size + 1; omega)⟩
theorem QSt.far (h : QSt w okN v vs l X) {p : Addr} (hp : ∀ k, okN k → k ≠ p.block) (hq : w.heap.size + 3 ≤ p.block) (u : Value) : QSt w okN v vs l (X.setCell p u) := by
 have hsz := h.sz
 exact ⟨by rw [World.size_setCell]; omega, (Below.heap_setCell X p u _ (by omega)).trans h.b8, (Below.heap_setCell X p u _ (by omega)).trans h.b9, Kd.N_far h.hN hp u, h.hok, h.fb.setCell (p := p) (by omega) u⟩
theorem QSt.grown (h : QSt w okN v vs l X) (hg : X.grownBy X1 vs.ownBlock) : X1.cell? ⟨w.heap.size + 1 + 1, 0, none⟩ = some (.int .i64 v) ∧ X1.cell? ⟨w.heap.size + 1 + 1, 1, none⟩ = some vs ∧ X1.frozen? ⟨w.heap.size + 1 + 1, 0, none⟩ = false ∧ X1.frozen? ⟨w.heap.size + 1 + 1, 1, none⟩ = false := by
 have hsz := h.sz
 have h9 := (hg.block _ (by omega) (fun e => by have := Kd.N_base h.hN _ e.symm; omega)).trans h.b9
 exact ⟨(blk_cell h9 0).trans rfl, (blk_cell h9 1).trans rfl, blk_frozen h9 0, blk_frozen h9 1⟩
theorem QSt.done (h : QSt w okN v vs l X) : ((X.setCell ⟨w.heap.size + 1, 0, none⟩ (.int .i64 v)).setCell ⟨w.heap.size + 1, 1, none⟩ vs).heap[w.heap.size + 1]? = some (.cells #[.int .i64 v, vs] 30 (0, 0)) ∧ Kd.N k34 34 ((X.setCell ⟨w.heap.size + 1, 0, none⟩ (.int .i64 v)).setCell ⟨w.heap.size + 1, 1, none⟩ vs) w.heap.size okN vs l ∧ Below w.heap.size w ((X.setCell ⟨w.heap.size + 1, 0, none⟩ (.int .i64 v)).setCell ⟨w.heap.size + 1, 1, none⟩ vs) :=
 ⟨blk_put (cs := #[.int .i64 v, .slice none 0 0]) (blk_put h.b8 0 _ rfl) 1 _ rfl, (h.fin _ _).1, (h.fin _ _).2⟩
/-- A node under change stands in a box. -/
structure QT (w : World) (okN : Nat → Prop) (v : Int) (l0 : List S34) (gb c9 g11 : Nat) (y : S34) (A : Option Addr) (c : Nat) (W : World) : Prop where
 q : QSt w (fun k => okN k ∧ k < g11) v (.slice (some ⟨gb, 0, none⟩) l0.length c9) l0 W
 hx : W.heap[g11]? = some (.cells #[.int .i64 y.f0, .int .i64 y.f1, .int .i64 y.f2, .slice A y.f3.length c] 34 (0, 0))
 hl : y.f3.length ≤ c
 hF : Kd.F (Kd.int .i64) W (fun k => (okN k ∧ k ≠ gb) ∧ k ≠ g11) A y.f3.length y.f3
 hg : w.heap.size + 3 ≤ g11
 hgb : w.heap.size + 3 ≤ gb ∧ gb < g11
theorem QT.xcells {gb c9 g11 : Nat} {y : S34} {A : Option Addr} {c : Nat} (h : QT w okN v l gb c9 g11 y A c X) : X.cell? ⟨g11, 0, none⟩ = some (.int .i64 y.f0) ∧ X.cell? ⟨g11, 1, none⟩ = some (.int .i64 y.f1) ∧ X.cell? ⟨g11, 2, none⟩ = some (.int .i64 y.f2) ∧ X.cell? ⟨g11, 3, none⟩ = some (.slice A y.f3.length c) ∧ X.frozen? ⟨g11, 0, none⟩ = false ∧ X.frozen? ⟨g11, 1, none⟩ = false ∧ X.frozen? ⟨g11, 2, none⟩ = false ∧ X.frozen? ⟨g11, 3, none⟩ = false :=
 ⟨(blk_cell h.hx 0).trans rfl, (blk_cell h.hx 1).trans rfl, (blk_cell h.hx 2).trans rfl, (blk_cell h.hx 3).trans rfl, blk_frozen h.hx 0, blk_frozen h.hx 1, blk_frozen h.hx 2, blk_frozen h.hx 3⟩
theorem QT.step {gb c9 g11 : Nat} {y : S34} {A : Option Addr} {c : Nat} (h : QT w okN v l gb c9 g11 y A c X) (hb : Below X.heap.size X X1) : QT w okN v l gb c9 g11 y A c X1 :=
 ⟨h.q.step hb, blk_below h.hx hb, h.hl, Kd.F_below h.hF hb, h.hg, h.hgb⟩
theorem QT.upd {gb c9 g11 : Nat} {y y' : S34} {A A' : Option Addr} {c c' : Nat} (h : QT w okN v l gb c9 g11 y A c X) (i : Nat) (u : Value) (hu : (#[.int .i64 y.f0, .int .i64 y.f1, .int .i64 y.f2, .slice A y.f3.length c] : Array Value).setIfInBounds i u = #[.int .i64 y'.f0, .int .i64 y'.f1, .int .i64 y'.f2, .slice A' y'.f3.length c']) (hl : y'.f3.length ≤ c') (hF : Kd.F (Kd.int .i64) X (fun k => (okN k ∧ k ≠ gb) ∧ k ≠ g11) A' y'.f3.length y'.f3) : QT w okN v l gb c9 g11 y' A' c' (X.setCell ⟨g11, i, none⟩ u) :=
 ⟨h.q.far (p := ⟨g11, i, none⟩) (fun k hk => by have := hk.2; show k ≠ g11; omega) h.hg u, by rw [← hu]; exact blk_put h.hx i u rfl, hl, Kd.F_far hF (fun _ hk => hk.2) u, h.hg, h.hgb⟩
theorem QT.put {gb c9 g11 : Nat} {y : S34} {A : Option Addr} {c : Nat} (h : QT w okN v l gb c9 g11 y A c X) (hok : ∀ k, okN k → k < w.heap.size ∨ w.heap.size + 3 ≤ k) {n : Nat} (hn : n < l.length) :
  ∃ u0 u1 u2 u3, X.cell? ⟨gb, n * 4, none⟩ = some u0 ∧ X.cell? ⟨gb, n * 4 + 1, none⟩ = some u1 ∧ X.cell? ⟨gb, n * 4 + 2, none⟩ = some u2 ∧ X.cell? ⟨gb, n * 4 + 3, none⟩ = some u3 ∧ X.frozen? ⟨gb, n * 4, none⟩ = false ∧ X.frozen? ⟨gb, n * 4 + 1, none⟩ = false ∧ X.frozen? ⟨gb, n * 4 + 2, none⟩ = false ∧ X.frozen? ⟨gb, n * 4 + 3, none⟩ = false ∧
   QSt w okN v (.slice (some ⟨gb, 0, none⟩) l.length c9) (l.set n y) ((((X.setCell ⟨gb, n * 4, none⟩ (.int .i64 y.f0)).setCell ⟨gb, n * 4 + 1, none⟩ (.int .i64 y.f1)).setCell ⟨gb, n * 4 + 2, none⟩ (.int .i64 y.f2)).setCell ⟨gb, n * 4 + 3, none⟩ (.slice A y.f3.length c)) := by
 have hN0 : Kd.N k34 34 X (w.heap.size + 3) (fun k => okN k ∧ k ≠ g11) (.slice (some ⟨gb, 0, none⟩) l.length c9) l := Kd.N_mono h.q.hN (fun k hk => ⟨hk.1, by have := hk.2; omega⟩)
 obtain ⟨cs, hcl, hFK, hcc, hfr⟩ := Kd.N_elem hN0 z34 (n : Int) (by omega) (by omega)
 rw [Int.toNat_natCast] at hFK hcc hfr
 obtain ⟨A2, c2, ec, _, _⟩ := k34_openF hFK
 obtain ⟨hN, _⟩ := Kd.N_seg hN0 (n : Int) (by omega) (by omega) (c := cs) (seg := [.int .i64 y.f0, .int .i64 y.f1, .int .i64 y.f2, .slice A y.f3.length c]) (j := 0) (okp := fun k => (okN k ∧ k ≠ gb) ∧ k ≠ g11) hcl (by rw [Int.toNat_natCast]; exact hcc) (by show 0 + 4 ≤ 4; omega) (x' := y) (by rw [ec]; exact k34_mkF _ _ y h.hl h.hF) (fun k hk => ⟨⟨hk.1.1, hk.2⟩, hk.1.2⟩)
 rw [Int.toNat_natCast] at hN
 have hgb := h.hgb.1
 have q1 := h.q
 refine ⟨_, _, _, _, hcc 0 _ (by rw [ec]; rfl), hcc 1 _ (by rw [ec]; rfl), hcc 2 _ (by rw [ec]; rfl), hcc 3 _ (by rw [ec]; rfl), hfr 0, hfr 1, hfr 2, hfr 3, ?_, ?_, ?_, Kd.N_mono hN (fun _ hk => hk.1), hok, below_set (below_set (below_set (below_set q1.fb (by show w.heap.size ≤ gb; omega)) (by show w.heap.size ≤ gb; omega)) (by show w.heap.size ≤ gb; omega)) (by show w.heap.size ≤ gb; omega)⟩
 ·have := q1.sz
  simp only [World.size_setCell]
  exact this
 ·exact (((Below.heap_setCell _ ⟨gb, n * 4 + 3, none⟩ _ _ (by show w.heap.size + 1 ≠ gb; omega)).trans (Below.heap_setCell _ ⟨gb, n * 4 + 2, none⟩ _ _ (by show w.heap.size + 1 ≠ gb; omega))).trans ((Below.heap_setCell _ ⟨gb, n * 4 + 1, none⟩ _ _ (by show w.heap.size + 1 ≠ gb; omega)).trans (Below.heap_setCell X ⟨gb, n * 4, none⟩ _ _ (by show w.heap.size + 1 ≠ gb; omega)))).trans q1.b8
 ·exact (((Below.heap_setCell _ ⟨gb, n * 4 + 3, none⟩ _ _ (by show w.heap.size + 2 ≠ gb; omega)).trans (Below.heap_setCell _ ⟨gb, n * 4 + 2, none⟩ _ _ (by show w.heap.size + 2 ≠ gb; omega))).trans ((Below.heap_setCell _ ⟨gb, n * 4 + 1, none⟩ _ _ (by show w.heap.size + 2 ≠ gb; omega)).trans (Below.heap_setCell X ⟨gb, n * 4, none⟩ _ _ (by show w.heap.size + 2 ≠ gb; omega)))).trans q1.b9
end
set_option maxHeartbeats 4000000 in
set_option maxRecDepth 100000 in
theorem worldmintref29_Spoilt.calls (v0 : Int) (P0_ : Nat → Prop) (A0 : Option Addr) (c0 : Nat) (l0 : List S34) (a1 a2 a3 : Int) (rv : Int) (r : List S34) (w : World) (hs0 : Kd.V k34 34 w w.heap.size (fun k_ => P0_ k_) (.slice A0 l0.length c0) l0) (h : worldmintref29_Spoilt.f v0 l0 a1 a2 a3 = some (rv, r)) :
  Calls Try.prog 16 #[.agg #[.int .i64 v0, .slice A0 l0.length c0], .int .i64 a1, .int .i64 a2, .int .i64 a3] w fun e w' => ∃ v1_ : Value, e = .returned (.agg #[.int .i64 rv, v1_]) ∧ Kd.N k34 34 w' w.heap.size (fun k_ => (P0_ k_ ∨ w.heap.size ≤ k_)) v1_ r ∧ Below w.heap.size w w' := by
 unfold worldmintref29_Spoilt.f at h
 by_cases hok : spo9Ok l0 = true
 case neg => rw [if_neg hok] at h; cases h
 rw [if_pos hok] at h
 unfold spo9Ok at hok
 simp only [Bool.and_eq_true, decide_eq_true_eq, List.all_eq_true] at hok
 obtain ⟨hl, hf2⟩ := hok
 obtain ⟨j, hj, h⟩ := Option.bind_eq_some_iff.mp h
 by_cases hg : 0 ≤ j ∧ j ≤ l0.length
 case neg => rw [if_neg hg] at h; cases h
 rw [if_pos hg] at h
 obtain ⟨g1, g2⟩ := hg
 obtain ⟨n, rfl⟩ := Int.eq_ofNat_of_zero_le g1
 have g2 : n ≤ l0.length := by omega
 rw [Int.toNat_natCast] at h
 obtain ⟨okN, hokN⟩ : ∃ okN : Nat → Prop, okN = fun k => (P0_ k ∧ k < w.heap.size) ∨ w.heap.size + 3 ≤ k := ⟨_, rfl⟩
 have hokq : ∀ k, okN k → k < w.heap.size ∨ w.heap.size + 3 ≤ k := fun k hk => by rw [hokN] at hk; rcases hk with hk | hk; exact .inl hk.2; exact .inr hk
 have hfin : ∀ k, okN k → P0_ k ∨ w.heap.size ≤ k := fun k hk => by rw [hokN] at hk; rcases hk with hk | hk; exact .inl hk.1; exact .inr (by omega)
 have hF0 : Kd.F k34 w (fun k => okN k ∧ k < w.heap.size) A0 l0.length l0 := Kd.F_mono (Kd.F_bound (Kd.V_F hs0)) (fun k hk => ⟨by rw [hokN]; exact .inl hk, hk.2⟩)
 have hfresh : ∀ k, w.heap.size + 3 ≤ k → okN k := fun k hk => by rw [hokN]; exact .inr hk
 have HokN := Aside0.mk hokN
 have Hokq := Aside0.mk hokq
 have Hfin := Aside0.mk hfin
 have HF0 := Aside0.mk hF0
 have Hfresh := Aside0.mk hfresh
 have Hh := Aside0.mk h
 have Hj := Aside0.mk hj
 have Hf2 := Aside0.mk hf2
 clear hokN hokq hfin hF0 hfresh hs0 h hj g1 hf2
 go_enter Try.func16, Try.ntmps16
 go_upto_region 2 with (fail)
 obtain ⟨W2, hW2⟩ : ∃ W2, W2 = ((w.alloc (.cells #[.int .i64 v0, .slice A0 l0.length c0] 30)).alloc (.cells #[.int .i64 0, .slice none 0 0] 30)).alloc (.cells #[.int .i64 v0, .slice none 0 0] 30) := ⟨_, rfl⟩
 have hsz2 : W2.heap.size = w.heap.size + 3 := by rw [hW2]; simp
 have hB2 : Below w.heap.size w W2 := by rw [hW2]; exact (((Below.refl _ w).alloc (Nat.le_refl _) _).alloc (by simp) _).alloc (by simp; omega) _
 have hb4 : W2.heap[w.heap.size]? = some (.cells #[.int .i64 v0, .slice A0 l0.length c0] 30 (0, 0)) := by
  rw [hW2]
  exact ((Below.heap_alloc _ _ _ (by simp; omega)).trans (Below.heap_alloc _ _ _ (by simp))).trans (heap_alloc_new w _)
 have hst2 : QSt w okN v0 (.slice none 0 0) [] W2 := by
  refine ⟨by omega, ?_, ?_, Kd.N_nil _ _ _ _ _, Hokq.out, hB2⟩
  ·have h_ := heap_alloc_new (w.alloc (.cells #[.int .i64 v0, .slice A0 l0.length c0] 30)) (.cells #[.int .i64 0, .slice none 0 0] 30)
   rw [World.size_alloc] at h_
   rw [hW2]
   exact (Below.heap_alloc _ _ _ (by simp)).trans h_
  ·have h_ := heap_alloc_new ((w.alloc (.cells #[.int .i64 v0, .slice A0 l0.length c0] 30)).alloc (.cells #[.int .i64 0, .slice none 0 0] 30)) (.cells #[.int .i64 v0, .slice none 0 0] 30)
   rw [World.size_alloc, World.size_alloc] at h_
   rw [hW2]
   exact h_
 have Hst2 := Aside0.mk hst2
 have Hsz2 := Aside0.mk hsz2
 have HF2 := Aside0.mk (Kd.F_mono (Kd.F_below HF0.out (hB2.mono (Nat.le_refl _))) (fun k hk => hk.1))
 rw [← hW2]
 obtain ⟨hz0, hz1, hzf0, hzf1⟩ := hst2.cells
 have hp1 : W2.cell? ⟨w.heap.size, 1, none⟩ = some (.slice A0 l0.length c0) := (blk_cell hb4 1).trans rfl
 clear hW2 hsz2 hB2 hst2 hb4
 go_upto_region 3 with ((with_reducible refine gate_builtin (b := .append) (xs := #[.tmp 16, .tmp 18]) rfl ?_); at_builtin; refine Kd.N_append_rows k34 (w0 := W2) W2.heap.size rfl (.tmp 16) (.tmp 18) 28 34 (.agg #[(.int .i64 0), (.int .i64 0), (.int .i64 0), (.slice none 0 0)]) 48 rfl Try.underlying28 info34 rfl (by decide) (by omega) (.slice none 0 0) [] l0 A0 l0.length c0 okN (fun k_ => okN k_ ∧ some k_ ≠ (.slice none 0 0 : Value).ownBlock) rfl rfl (Kd.N_nil _ _ _ _ _) (Kd.F_apart_nil HF2.out) (fun _ hk => hk) ?aF (Below.refl _ _) (Nat.le_refl _) (by simp only [List.length_nil]; omega) ?_; (case aF => exact fun k hk => Hfresh.out k (by have := Hsz2.out; omega)); intro v1 w1 ho1 hb1 hg1 hat1; rw [List.nil_append] at ho1; obtain ⟨A9, c9, e9⟩ := Kd.N_slice ho1; subst e9; have Hst1 := Aside0.mk (Hst2.out.step hb1); have Hgr1 := Aside0.mk hg1; have Ho1 := Aside0.mk (Kd.N_lower ho1 (Nat.le_of_eq Hsz2.out.symm)); clear hz0 hz1 hzf0 hzf1 hp1 ho1 hb1 hg1 hat1; obtain ⟨hz0, hz1, hzf0, hzf1⟩ := Hst1.out.cells)
 obtain ⟨w3, hw3⟩ : ∃ w3, w3 = w1.setCell ⟨w.heap.size + 1 + 1, 1, none⟩ (.slice A9 l0.length c9) := ⟨_, rfl⟩
 have Hst3 := Aside0.mk (show QSt w okN v0 (.slice A9 l0.length c9) l0 w3 from by rw [hw3]; exact Hst2.out.mv Hgr1.out Ho1.out)
 rw [← hw3]
 clear hw3 hz0 hz1 hzf0 hzf1 Hst1 Hgr1 Ho1 Hst2 HF2 HF0 Hsz2
 obtain ⟨hz0, hz1, hzf0, hzf1⟩ := Hst3.out.cells
 have hw1 : IntKind.i64.wrap ((l0.length : Int) + 1) = (l0.length : Int) + 1 := IntWalk.i64_in _ (by omega)
 go_wp2_with fail
 refine (worldmintref01_Around.calls a1 ((l0.length : Int) + 1) (n : Int) w3 Hj.out).mono ?_
 rintro e w4 ⟨rfl, hd4⟩
 have Hst4 := Aside0.mk (Hst3.out.step hd4.below)
 clear hd4 hz0 hz1 hzf0 hzf1 Hst3 hw1
 obtain ⟨hz0, hz1, hzf0, hzf1⟩ := Hst4.out.cells
 by_cases hn : n = l0.length
 ·have hr := Hh.out
  rw [if_pos (by omega)] at hr
  obtain ⟨q, hq, hr⟩ := Option.bind_eq_some_iff.mp hr
  have hr2 := Option.some.inj hr
  have Hr := Aside0.mk hr2
  have Hq := Aside0.mk hq
  subst hn
  clear hr hr2 hq Hh
  obtain ⟨x, hx⟩ : ∃ x : S34, x = ⟨-1, 0, 0, []⟩ := ⟨_, rfl⟩
  have hFK : ∀ W : World, Kd.FK k34 W (fun _ => False) x [.int .i64 (-1), .int .i64 0, .int .i64 0, .slice none 0 0] := fun W => by
   rw [hx]
   exact k34_mkF W (fun _ => False) ⟨-1, 0, 0, []⟩ (Nat.le_refl _) (Kd.F_nil _ W _)
  rw [← hx] at Hr
  clear hx
  go_upto_region 6 with ((with_reducible refine gate_builtin (b := .append) (xs := #[.tmp 33, .tmp 35]) rfl ?_); at_builtin; refine Kd.N_append k34 (w0 := w4) (w.heap.size + 3) rfl (.tmp 33) (.tmp 35) 28 34 _ 48 rfl Try.underlying28 info34 rfl (by decide) (by omega) (.slice A9 l0.length c9) l0 x [.int .i64 (-1), .int .i64 0, .int .i64 0, .slice none 0 0] okN (fun _ => False) rfl rfl (hFK _) (fun _ hk => hk.elim) ?aF Hst4.out.hN ?aB ?aS ?aL ?_; (case aF => exact fun k hk => Hfresh.out k (Nat.le_trans Hst4.out.sz hk)); (case aB => exact Below.refl _ _); (case aS => exact Hst4.out.sz); (case aL => omega); intro v7 w7 ho7 hb7 hg7 hat7; have Hst7 := Aside0.mk (Hst4.out.mv hg7 ho7); have Hc7 := Hst4.out.grown hg7; obtain ⟨A7, c7, ev7⟩ := Kd.N_slice ho7; rw [List.length_append, List.length_singleton] at ev7; subst ev7; clear ho7 hb7 hg7 hat7 hz0 hz1 hzf0 hzf1; obtain ⟨hz0, hz1, hzf0, hzf1⟩ := Hc7)
  obtain ⟨w8, hw8⟩ : ∃ w8, w8 = w7.setCell ⟨w.heap.size + 1 + 1, 1, none⟩ (.slice A7 (l0.length + 1) c7) := ⟨_, rfl⟩
  rw [← hw8]
  have Hst8 := Aside0.mk (show QSt w okN v0 (.slice A7 (l0.length + 1) c7) (l0 ++ [x]) w8 by rw [hw8]; exact Hst7.out)
  clear hw8 hz0 hz1 hzf0 hzf1 Hst7 Hst4 hFK
  go_wp2_with fail
  refine (worldmintref01_Around.calls a2 2 q _ Hq.out).mono ?_
  rintro e w9 ⟨rfl, hd9⟩
  have Hst9 := Aside0.mk (Hst8.out.step hd9.below)
  clear hd9 Hst8 Hq
  by_cases hq0 : q = 0
  ·have hqb : (q == 0) = true := by simpa using hq0
   rw [if_pos hq0] at Hr
   obtain ⟨hz0, hz1, hzf0, hzf1⟩ := Hst9.out.cells
   clear hq0
   go_upto_region 8 with (fail)
   obtain ⟨w10, hw10⟩ : ∃ w10, w10 = w9.setCell ⟨w.heap.size + 1 + 1, 0, none⟩ (.int .i64 (wrap64 (v0 + a3))) := ⟨_, rfl⟩
   rw [← hw10]
   have HstZ := Aside0.mk (show QSt w okN (wrap64 (v0 + a3)) (.slice A7 (l0.length + 1) c7) (l0 ++ [x]) w10 by rw [hw10]; exact Hst9.out.put0 _)
   clear hw10 Hst9 hz0 hz1 hzf0 hzf1
   obtain ⟨hy0, hy1, hyf0, hyf1⟩ := HstZ.out.cells8
   obtain ⟨hz0, hz1, hzf0, hzf1⟩ := HstZ.out.cells
   go_wp2_with fail
   have hdone := HstZ.out.done
   refine bodyPost_ret (results_cell_row rfl _ _ (w.heap.size + 1) 30 _ (0, 0) _ rfl hdone.1 Try.underlying30 rfl (by kernel_rfl)) rfl ?_
   obtain ⟨e1, e2⟩ := Prod.mk.inj Hr.out
   rw [← e1, ← e2]
   exact ⟨_, rfl, Kd.N_mono hdone.2.1 Hfin.out, hdone.2.2⟩
  ·have hqb : (q == 0) = false := by simpa using hq0
   rw [if_neg hq0] at Hr
   have HstZ := Hst9
   clear hq0 Hst9
   obtain ⟨hy0, hy1, hyf0, hyf1⟩ := HstZ.out.cells8
   obtain ⟨hz0, hz1, hzf0, hzf1⟩ := HstZ.out.cells
   go_wp2_with fail
   have hdone := HstZ.out.done
   refine bodyPost_ret (results_cell_row rfl _ _ (w.heap.size + 1) 30 _ (0, 0) _ rfl hdone.1 Try.underlying30 rfl (by kernel_rfl)) rfl ?_
   obtain ⟨e1, e2⟩ := Prod.mk.inj Hr.out
   rw [← e1, ← e2]
   exact ⟨_, rfl, Kd.N_mono hdone.2.1 Hfin.out, hdone.2.2⟩
 ·have hr := Hh.out
  rw [if_neg (by omega)] at hr
  obtain ⟨q, hq, hr⟩ := Option.bind_eq_some_iff.mp hr
  by_cases hg : 0 ≤ q ∧ q < 6
  case neg => rw [if_neg hg] at hr; cases hr
  rw [if_pos hg] at hr
  obtain ⟨g3, g4⟩ := hg
  have g2N : n < l0.length := by omega
  have hnI : ((n : Int) == (l0.length : Int)) = false := beq_false_of_ne (by omega)
  have Hr := Aside0.mk hr
  have Hq := Aside0.mk hq
  clear hr hq Hh
  obtain ⟨gb, cc, e9, hgb, hgbl, cells9, hcells9⟩ := Kd.N_form Hst4.out.hN (by omega)
  injection e9 with e9 _ ecc
  subst e9
  subst ecc
  obtain ⟨cs, hcl, hFK, hcc, hfr⟩ := Kd.N_elem Hst4.out.hN z34 (n : Int) (by omega) (by omega)
  rw [Int.toNat_natCast] at hFK hcc hfr
  obtain ⟨x, hx⟩ : ∃ x, x = l0.getD n z34 := ⟨_, rfl⟩
  rw [← hx] at hFK Hr
  have hx2 : x.f3.length ≤ 1000 := Hf2.out x (by rw [hx]; simp [List.getD, g2N])
  obtain ⟨A2, c2, ec, hl2, hF2⟩ := k34_openF hFK
  have h0 : w4.cell? ⟨gb, n * 4, none⟩ = some (.int .i64 x.f0) := hcc 0 _ (by rw [ec]; rfl)
  have h1 : w4.cell? ⟨gb, n * 4 + 1, none⟩ = some (.int .i64 x.f1) := hcc 1 _ (by rw [ec]; rfl)
  have h2 : w4.cell? ⟨gb, n * 4 + 2, none⟩ = some (.int .i64 x.f2) := hcc 2 _ (by rw [ec]; rfl)
  have h3 : w4.cell? ⟨gb, n * 4 + 3, none⟩ = some (.slice A2 x.f3.length c2) := hcc 3 _ (by rw [ec]; rfl)
  have HF2 := Aside0.mk hF2
  have Hl2 := Aside0.mk hl2
  have Hgb := Aside0.mk hgb
  have Hgbl := Aside0.mk hgbl
  clear hcc hfr hFK hcl ec hcells9 hF2 hl2 hgb hgbl hx
  go_upto_region 10 with (fail)
  obtain ⟨w5, hw5⟩ : ∃ w5, w5 = w4.alloc (.cells #[.int .i64 x.f0, .int .i64 x.f1, .int .i64 x.f2, .slice A2 x.f3.length c2] 34) := ⟨_, rfl⟩
  obtain ⟨g11, hg11⟩ : ∃ g, g = w4.heap.size := ⟨_, rfl⟩
  have Hqt5 : Aside0 (QT w okN v0 l0 gb c9 g11 x A2 c2 w5) := ⟨by
   have hb : Below w4.heap.size w4 w5 := by rw [hw5]; exact (Below.refl _ w4).alloc (Nat.le_refl _) _
   have hst := Hst4.out
   refine ⟨QSt.step ⟨hst.sz, hst.b8, hst.b9, Kd.N_mono (Kd.N_bound hst.hN) (fun k hk => ⟨hk.1, by have := hk.2; omega⟩), fun k hk => hst.hok k hk.1, hst.fb⟩ hb, by rw [hw5, hg11]; exact heap_alloc_new w4 _, Hl2.out, Kd.F_mono (Kd.F_below (Kd.F_bound HF2.out) hb) (fun k hk => ⟨hk.1, by have := hk.2; omega⟩), by rw [hg11]; exact hst.sz, Hgb.out, by rw [hg11]; exact Hgbl.out⟩⟩
  rw [← hw5]
  rw [← hg11]
  clear hw5 hg11 h0 h1 h2 h3 HF2 Hl2 Hgb Hgbl Hst4 hz0 hz1 hzf0 hzf1
  go_wp2_with fail
  refine (worldmintref01_Around.calls a2 6 q _ Hq.out).mono ?_
  rintro e w6 ⟨rfl, hd6⟩
  have Hqt6 := Aside0.mk (Hqt5.out.step hd6.below)
  clear hd6 Hqt5 Hq
  obtain ⟨hx0, hx1, hx2c, hx3, hxf0, hxf1, hxf2, hxf3⟩ := Hqt6.out.xcells
  rcases (by omega : q = 0 ∨ q = 1 ∨ q = 2 ∨ q = 3 ∨ 4 ≤ q) with rfl | rfl | rfl | rfl | hq4
  ·have Hr := Aside0.mk (show (v0, l0.set n ⟨a3, x.f1, x.f2, x.f3⟩) = (rv, r) from Option.some.inj (by have h_ := Hr.out; rw [if_neg (by omega)] at h_; exact h_))
   go_upto_region 22 with (fail)
   obtain ⟨w7, hw7⟩ : ∃ w7, w7 = w6.setCell ⟨g11, 0, none⟩ (.int .i64 a3) := ⟨_, rfl⟩
   rw [← hw7]
   have Hqt7 : Aside0 (QT w okN v0 l0 gb c9 g11 ⟨a3, x.f1, x.f2, x.f3⟩ A2 c2 w7) := ⟨by rw [hw7]; exact Hqt6.out.upd 0 _ rfl Hqt6.out.hl Hqt6.out.hF⟩
   clear hw7 hx0 hx1 hx2c hx3 hxf0 hxf1 hxf2 hxf3
   obtain ⟨hx0, hx1, hx2c, hx3, hxf0, hxf1, hxf2, hxf3⟩ := Hqt7.out.xcells
   obtain ⟨hz0, hz1, hzf0, hzf1⟩ := Hqt7.out.q.cells
   obtain ⟨u0, u1, u2, u3, hc0, hc1, hc2, hc3, hf0, hf1, hf2, hf3, hstZ⟩ := Hqt7.out.put Hokq.out g2N
   have HstZ := Aside0.mk hstZ
   clear hstZ Hqt7 Hqt6
   try simp only [List.length_append, List.length_singleton, List.length_set] at HstZ
   go_upto_region 23 with (fail)
   obtain ⟨hy0, hy1, hyf0, hyf1⟩ := HstZ.out.cells8
   obtain ⟨hz0, hz1, hzf0, hzf1⟩ := HstZ.out.cells
   go_wp2_with fail
   have hdone := HstZ.out.done
   refine bodyPost_ret (results_cell_row rfl _ _ (w.heap.size + 1) 30 _ (0, 0) _ rfl hdone.1 Try.underlying30 rfl (by kernel_rfl)) rfl ?_
   obtain ⟨e1, e2⟩ := Prod.mk.inj Hr.out
   rw [← e1, ← e2]
   exact ⟨_, rfl, Kd.N_mono hdone.2.1 Hfin.out, hdone.2.2⟩
  ·have Hr := Aside0.mk (show (v0, l0.set n ⟨x.f0, a3, x.f2, x.f3⟩) = (rv, r) from Option.some.inj (by have h_ := Hr.out; rw [if_neg (by omega)] at h_; exact h_))
   go_upto_region 22 with (fail)
   obtain ⟨w7, hw7⟩ : ∃ w7, w7 = w6.setCell ⟨g11, 1, none⟩ (.int .i64 a3) := ⟨_, rfl⟩
   rw [← hw7]
   have Hqt7 : Aside0 (QT w okN v0 l0 gb c9 g11 ⟨x.f0, a3, x.f2, x.f3⟩ A2 c2 w7) := ⟨by rw [hw7]; exact Hqt6.out.upd 1 _ rfl Hqt6.out.hl Hqt6.out.hF⟩
   clear hw7 hx0 hx1 hx2c hx3 hxf0 hxf1 hxf2 hxf3
   obtain ⟨hx0, hx1, hx2c, hx3, hxf0, hxf1, hxf2, hxf3⟩ := Hqt7.out.xcells
   obtain ⟨hz0, hz1, hzf0, hzf1⟩ := Hqt7.out.q.cells
   obtain ⟨u0, u1, u2, u3, hc0, hc1, hc2, hc3, hf0, hf1, hf2, hf3, hstZ⟩ := Hqt7.out.put Hokq.out g2N
   have HstZ := Aside0.mk hstZ
   clear hstZ Hqt7 Hqt6
   try simp only [List.length_append, List.length_singleton, List.length_set] at HstZ
   go_upto_region 23 with (fail)
   obtain ⟨hy0, hy1, hyf0, hyf1⟩ := HstZ.out.cells8
   obtain ⟨hz0, hz1, hzf0, hzf1⟩ := HstZ.out.cells
   go_wp2_with fail
   have hdone := HstZ.out.done
   refine bodyPost_ret (results_cell_row rfl _ _ (w.heap.size + 1) 30 _ (0, 0) _ rfl hdone.1 Try.underlying30 rfl (by kernel_rfl)) rfl ?_
   obtain ⟨e1, e2⟩ := Prod.mk.inj Hr.out
   rw [← e1, ← e2]
   exact ⟨_, rfl, Kd.N_mono hdone.2.1 Hfin.out, hdone.2.2⟩
  ·have Hr := Aside0.mk (show (v0, l0.set n ⟨x.f0, x.f1, a3, x.f3⟩) = (rv, r) from Option.some.inj (by have h_ := Hr.out; rw [if_neg (by omega)] at h_; exact h_))
   go_upto_region 22 with (fail)
   obtain ⟨w7, hw7⟩ : ∃ w7, w7 = w6.setCell ⟨g11, 2, none⟩ (.int .i64 a3) := ⟨_, rfl⟩
   rw [← hw7]
   have Hqt7 : Aside0 (QT w okN v0 l0 gb c9 g11 ⟨x.f0, x.f1, a3, x.f3⟩ A2 c2 w7) := ⟨by rw [hw7]; exact Hqt6.out.upd 2 _ rfl Hqt6.out.hl Hqt6.out.hF⟩
   clear hw7 hx0 hx1 hx2c hx3 hxf0 hxf1 hxf2 hxf3
   obtain ⟨hx0, hx1, hx2c, hx3, hxf0, hxf1, hxf2, hxf3⟩ := Hqt7.out.xcells
   obtain ⟨hz0, hz1, hzf0, hzf1⟩ := Hqt7.out.q.cells
   obtain ⟨u0, u1, u2, u3, hc0, hc1, hc2, hc3, hf0, hf1, hf2, hf3, hstZ⟩ := Hqt7.out.put Hokq.out g2N
   have HstZ := Aside0.mk hstZ
   clear hstZ Hqt7 Hqt6
   try simp only [List.length_append, List.length_singleton, List.length_set] at HstZ
   go_upto_region 23 with (fail)
   obtain ⟨hy0, hy1, hyf0, hyf1⟩ := HstZ.out.cells8
   obtain ⟨hz0, hz1, hzf0, hzf1⟩ := HstZ.out.cells
   go_wp2_with fail
   have hdone := HstZ.out.done
   refine bodyPost_ret (results_cell_row rfl _ _ (w.heap.size + 1) 30 _ (0, 0) _ rfl hdone.1 Try.underlying30 rfl (by kernel_rfl)) rfl ?_
   obtain ⟨e1, e2⟩ := Prod.mk.inj Hr.out
   rw [← e1, ← e2]
   exact ⟨_, rfl, Kd.N_mono hdone.2.1 Hfin.out, hdone.2.2⟩
  ·have Hr := Aside0.mk (show (v0, l0.set n ⟨x.f0, x.f1, x.f2, x.f3 ++ [a3]⟩) = (rv, r) from Option.some.inj (by have h_ := Hr.out; rw [if_neg (by omega)] at h_; exact h_))
   go_upto_region 22 with (first | ((with_reducible refine gate_dst (N := 87) rfl ?_); refine Kd.R_lit (Kd.int .i64) (w0 := w6) w6.heap.size 3 ?hg (N := 87) ?hd (xs := ([] : List Int)) (inner := ([] : List Value)) (ok := fun _ => True) (okp := fun _ => True) ?hr ?hp (fun _ hk => hk) trivial (Below.refl _ _) (Nat.le_refl _) (by simp) ?_; (case hd => rfl); (case hg => rfl); (case hr => first | (go_simp; done) | (go_simp; rfl)); (case hp => exact Reps.none _ _); intro vA wA hoA hbA hg_ hnew_; clear hg_ hnew_; obtain ⟨AA, cA, rfl⟩ := Kd.R_slice hoA; have hxA : wA.cell? ⟨g11, 3, none⟩ = some (.slice A2 x.f3.length c2) := (blk_cell (blk_below Hqt6.out.hx hbA) 3).trans rfl) | ((with_reducible refine gate_builtin (b := .append) (xs := #[.tmp 87, .tmp 89]) rfl ?_); at_builtin; refine Kd.R_append_rows (Kd.int .i64) (w0 := w6) w6.heap.size rfl (.tmp 87) (.tmp 89) 22 3 (.int .i64 0) 8 rfl Try.underlying22 info3 rfl (by decide) (by omega) _ [] x.f3 A2 x.f3.length c2 (fun _ => True) (fun _ => False) rfl rfl hoA (Kd.F_now (Kd.F_below Hqt6.out.hF hbA)) (fun _ _ h => h) (fun _ h => h.elim) (fun _ _ => trivial) hbA hbA.size (by simp; omega) ?_; intro v7 w7 ho7 hb7 hg hat; clear hg hat; rw [List.nil_append] at ho7) | ((with_reducible refine gate_builtin (b := .append) (xs := #[.tmp 90, .tmp 92]) rfl ?_); at_builtin; refine Kd.R_append (Kd.int .i64) (w0 := w6) w6.heap.size rfl (.tmp 90) (.tmp 92) 22 3 (.int .i64 0) 8 rfl Try.underlying22 info3 rfl (by decide) (by omega) _ x.f3 a3 [.int .i64 a3] (fun _ => True) (fun _ => False) rfl rfl rfl (fun _ hk => hk.elim) (fun _ _ => trivial) ho7 hb7 hb7.size (by omega) ?_; intro v8 w8 ho8 hb8 hg hat; clear hg hat; obtain ⟨A9, c9_, rfl⟩ := Kd.R_slice ho8; have hq0 : w8.cell? ⟨g11, 3, none⟩ = some (.slice A2 x.f3.length c2) := (blk_cell (blk_below Hqt6.out.hx hb8) 3).trans rfl; have hqf : w8.frozen? ⟨g11, 3, none⟩ = false := blk_frozen (blk_below Hqt6.out.hx hb8) 3))
   obtain ⟨w9, hw9⟩ : ∃ w9, w9 = w8.setCell ⟨g11, 3, none⟩ (.slice A9 (x.f3.length + 1) c9_) := ⟨_, rfl⟩
   rw [← hw9]
   have Hqt7 : Aside0 (QT w okN v0 l0 gb c9 g11 ⟨x.f0, x.f1, x.f2, x.f3 ++ [a3]⟩ A9 c9_ w9) := ⟨by
    rw [hw9]
    exact (Hqt6.out.step hb8).upd 3 _ (by simp) (Kd.R_reads' ho8).2.1 (Kd.F_mono (Kd.R_F (Kd.R_bound ho8)) (fun k hk => by
     have h1 : w6.heap.size ≤ k := hk.2.1
     have h2 := blk_lt Hqt6.out.hx
     have h3 := Hqt6.out.hgb.2
     have h4 := Hqt6.out.q.sz
     exact ⟨⟨Hfresh.out k (by omega), by omega⟩, by omega⟩))⟩
   clear hw9 hx0 hx1 hx2c hx3 hxf0 hxf1 hxf2 hxf3
   obtain ⟨hx0, hx1, hx2c, hx3, hxf0, hxf1, hxf2, hxf3⟩ := Hqt7.out.xcells
   obtain ⟨hz0, hz1, hzf0, hzf1⟩ := Hqt7.out.q.cells
   obtain ⟨u0, u1, u2, u3, hc0, hc1, hc2, hc3, hf0, hf1, hf2, hf3, hstZ⟩ := Hqt7.out.put Hokq.out g2N
   have HstZ := Aside0.mk hstZ
   clear hstZ Hqt7 Hqt6
   try simp only [List.length_append, List.length_singleton, List.length_set] at HstZ
   go_upto_region 23 with (fail)
   obtain ⟨hy0, hy1, hyf0, hyf1⟩ := HstZ.out.cells8
   obtain ⟨hz0, hz1, hzf0, hzf1⟩ := HstZ.out.cells
   go_wp2_with fail
   have hdone := HstZ.out.done
   refine bodyPost_ret (results_cell_row rfl _ _ (w.heap.size + 1) 30 _ (0, 0) _ rfl hdone.1 Try.underlying30 rfl (by kernel_rfl)) rfl ?_
   obtain ⟨e1, e2⟩ := Prod.mk.inj Hr.out
   rw [← e1, ← e2]
   exact ⟨_, rfl, Kd.N_mono hdone.2.1 Hfin.out, hdone.2.2⟩
  ·by_cases hp : 0 < x.f3.length
   ·have d1 : decide ((0 : Int) < (x.f3.length : Int)) = true := decide_eq_true (by omega)
    have d2 : decide (0 < x.f3.length) = true := decide_eq_true hp
    have hr := Hr.out
    rw [if_pos ⟨hq4, hp⟩] at hr
    obtain ⟨i, hi, hr⟩ := Option.bind_eq_some_iff.mp hr
    by_cases hgi : 0 ≤ i ∧ i < x.f3.length
    case neg => rw [if_neg hgi] at hr; cases hr
    rw [if_pos hgi] at hr
    obtain ⟨gi1, gi2⟩ := hgi
    have hr2 := Option.some.inj hr
    have Hr := Aside0.mk hr2
    have Hi := Aside0.mk hi
    have nq0 : (q == 0) = false := beq_false_of_ne (by omega)
    have nq1 : (q == 1) = false := beq_false_of_ne (by omega)
    have nq2 : (q == 2) = false := beq_false_of_ne (by omega)
    have nq3 : (q == 3) = false := beq_false_of_ne (by omega)
    clear hr hr2 hi
    go_upto_region 13 with (first | ((with_reducible refine gate_dst (N := 58) rfl ?_); refine Kd.R_lit (Kd.int .i64) (w0 := w6) w6.heap.size 3 ?hg (N := 58) ?hd (xs := ([] : List Int)) (inner := ([] : List Value)) (ok := fun _ => True) (okp := fun _ => True) ?hr ?hp (fun _ hk => hk) trivial (Below.refl _ _) (Nat.le_refl _) (by simp) ?_; (case hd => rfl); (case hg => rfl); (case hr => first | (go_simp; done) | (go_simp; rfl)); (case hp => exact Reps.none _ _); intro vA wA hoA hbA hg_ hnew_; clear hg_ hnew_; obtain ⟨AA, cA, rfl⟩ := Kd.R_slice hoA; have hxA : wA.cell? ⟨g11, 3, none⟩ = some (.slice A2 x.f3.length c2) := (blk_cell (blk_below Hqt6.out.hx hbA) 3).trans rfl) | ((with_reducible refine gate_builtin (b := .append) (xs := #[.tmp 58, .tmp 60]) rfl ?_); at_builtin; refine Kd.R_append_rows (Kd.int .i64) (w0 := w6) w6.heap.size rfl (.tmp 58) (.tmp 60) 22 3 (.int .i64 0) 8 rfl Try.underlying22 info3 rfl (by decide) (by omega) _ [] x.f3 A2 x.f3.length c2 (fun _ => True) (fun _ => False) rfl rfl hoA (Kd.F_now (Kd.F_below Hqt6.out.hF hbA)) (fun _ _ h => h) (fun _ h => h.elim) (fun _ _ => trivial) hbA hbA.size (by simp; omega) ?_; intro v7 w7 ho7 hb7 hg hat; clear hg hat; rw [List.nil_append] at ho7; obtain ⟨gr, cr, rfl, hgr0, hgr1, rcs, hrcs⟩ := Kd.R_form ho7 hp; have hq0 : w7.cell? ⟨g11, 3, none⟩ = some (.slice A2 x.f3.length c2) := (blk_cell (blk_below Hqt6.out.hx hb7) 3).trans rfl; have hqf : w7.frozen? ⟨g11, 3, none⟩ = false := blk_frozen (blk_below Hqt6.out.hx hb7) 3))
    obtain ⟨w8, hw8⟩ : ∃ w8, w8 = w7.setCell ⟨g11, 3, none⟩ (.slice (some ⟨gr, 0, none⟩) x.f3.length cr) := ⟨_, rfl⟩
    rw [← hw8]
    have hlt6 := blk_lt Hqt6.out.hx
    have hgg := Hqt6.out.hgb.2
    have hs6 := Hqt6.out.q.sz
    have Hqt8 : Aside0 (QT w okN v0 l0 gb c9 g11 x (some ⟨gr, 0, none⟩) cr w8) := ⟨by
     rw [hw8]
     exact (Hqt6.out.step hb7).upd 3 _ (by simp) (Kd.R_reads' ho7).2.1 (Kd.F_mono (Kd.R_F (Kd.R_bound ho7)) (fun k hk => by
      have h1 : w6.heap.size ≤ k := hk.2.1
      exact ⟨⟨Hfresh.out k (by omega), by omega⟩, by omega⟩))⟩
    have Ho8 : Aside0 ((Kd.int .i64).R 3 w8 w6.heap.size (fun k => w6.heap.size ≤ k) (.slice (some ⟨gr, 0, none⟩) x.f3.length cr) x.f3) := ⟨by
     rw [hw8]
     exact Kd.R_far (p := ⟨g11, 3, none⟩) (Kd.R_mono (Kd.R_bound ho7) (fun k hk => hk.2.1)) (fun k hk => by show k ≠ g11; omega) _⟩
    have Hnum : Aside0 (g11 < gr ∧ w.heap.size + 3 ≤ gr ∧ gb ≠ gr) := ⟨⟨by omega, by omega, by omega⟩⟩
    have hkeep : ∀ w', Below w8.heap.size w8 w' → w'.cell? ⟨g11, 3, none⟩ = some (.slice (some ⟨gr, 0, none⟩) x.f3.length cr) := fun w' hb => (Hqt8.out.step hb).xcells.2.2.2.1
    have Hkeep := Aside0.mk hkeep
    clear hkeep hw8 ho7 hb7 hoA hbA hxA hq0 hqf hrcs hx0 hx1 hx2c hx3 hxf0 hxf1 hxf2 hxf3 hgr0 hgr1
    refine wp_region_last_drew (ds := [10]) (S := fun w' => w'.cell? ⟨g11, 3, none⟩ = some (.slice (some ⟨gr, 0, none⟩) x.f3.length cr)) (by kernel_rfl) (Hkeep.out w8.drew (below_drew1 (Below.refl _ _))) ?_
    intro hS0
    refine wpAnyLast_take (i := 0) (v := ?_) rfl (by kernel_rfl) (by kernel_rfl) (by kernel_rfl) (by kernel_rfl) (by kernel_rfl) (fun _ _ _ h => h) (Or.inl ⟨by rfl, ?_⟩) (by assumption) ?_
    rotate_left
    ·(intro w_ hSw_; (try dsimp only at hSw_); go_simp; try with_reducible rfl)
    try simp only [Act.put, List.getElem_toArray, List.getElem_cons_zero, List.getElem_cons_succ, List.setIfInBounds_toArray, List.set_cons_zero, List.set_cons_succ]
    refine wpAnyLast_take (i := 1) (v := ?_) rfl (by kernel_rfl) (by kernel_rfl) (by kernel_rfl) (by kernel_rfl) (by kernel_rfl) (fun _ _ _ h => h) (Or.inl ⟨by rfl, ?_⟩) (by assumption) ?_
    rotate_left
    ·(intro w_ hSw_; (try dsimp only at hSw_); go_simp; try with_reducible rfl)
    try simp only [Act.put, List.getElem_toArray, List.getElem_cons_zero, List.getElem_cons_succ, List.setIfInBounds_toArray, List.set_cons_zero, List.set_cons_succ]
    refine wpAnyLast_take (i := 2) (v := ?_) rfl (by kernel_rfl) (by kernel_rfl) (by kernel_rfl) (by kernel_rfl) (by kernel_rfl) (fun _ _ _ h => h) (Or.inl ⟨by rfl, ?_⟩) (by assumption) ?_
    rotate_left
    ·(intro w_ hSw_; (try dsimp only at hSw_); go_simp; try with_reducible rfl)
    try simp only [Act.put, List.getElem_toArray, List.getElem_cons_zero, List.getElem_cons_succ, List.setIfInBounds_toArray, List.set_cons_zero, List.set_cons_succ]
    refine wpAnyLast_take (i := 3) (v := ?_) rfl (by kernel_rfl) (by kernel_rfl) (by kernel_rfl) (by kernel_rfl) (by kernel_rfl) (fun _ _ _ h => h) (Or.inl ⟨by rfl, ?_⟩) (by assumption) ?_
    rotate_left
    ·(intro w_ hSw_; (try dsimp only at hSw_); go_simp; try with_reducible rfl)
    try simp only [Act.put, List.getElem_toArray, List.getElem_cons_zero, List.getElem_cons_succ, List.setIfInBounds_toArray, List.set_cons_zero, List.set_cons_succ]
    refine wpAnyLast_take (i := 4) (v := ?_) rfl (by kernel_rfl) (by kernel_rfl) (by kernel_rfl) (by kernel_rfl) (by kernel_rfl) (fun _ _ _ h => h) (Or.inl ⟨by rfl, ?_⟩) (by assumption) ?_
    rotate_left
    ·(intro w_ hSw_; (try dsimp only at hSw_); go_simp; try with_reducible rfl)
    try simp only [Act.put, List.getElem_toArray, List.getElem_cons_zero, List.getElem_cons_succ, List.setIfInBounds_toArray, List.set_cons_zero, List.set_cons_succ]
    refine wpAnyLast_take (i := 5) (v := ?_) rfl (by kernel_rfl) (by kernel_rfl) (by kernel_rfl) (by kernel_rfl) (by kernel_rfl) (fun _ _ _ h => h) (Or.inl ⟨by rfl, ?_⟩) (by assumption) ?_
    rotate_left
    ·(intro w_ hSw_; (try dsimp only at hSw_); go_simp; try with_reducible rfl)
    try simp only [Act.put, List.getElem_toArray, List.getElem_cons_zero, List.getElem_cons_succ, List.setIfInBounds_toArray, List.set_cons_zero, List.set_cons_succ]
    refine wpAnyLast_take (i := 6) (v := ?_) rfl (by kernel_rfl) (by kernel_rfl) (by kernel_rfl) (by kernel_rfl) (by kernel_rfl) (fun _ _ _ h => h) (Or.inl ⟨by rfl, ?_⟩) (by assumption) ?_
    rotate_left
    ·(intro w_ hSw_; (try dsimp only at hSw_); go_simp; try with_reducible rfl)
    try simp only [Act.put, List.getElem_toArray, List.getElem_cons_zero, List.getElem_cons_succ, List.setIfInBounds_toArray, List.set_cons_zero, List.set_cons_succ]
    refine wpAnyLast_take (i := 8) (v := ?_) rfl (by kernel_rfl) (by kernel_rfl) (by kernel_rfl) (by kernel_rfl) (by kernel_rfl) (fun _ _ _ h => h) (Or.inl ⟨by rfl, ?_⟩) (by assumption) ?_
    rotate_left
    ·(intro w_ hSw_; (try dsimp only at hSw_); go_simp; try with_reducible rfl)
    try simp only [Act.put, List.getElem_toArray, List.getElem_cons_zero, List.getElem_cons_succ, List.setIfInBounds_toArray, List.set_cons_zero, List.set_cons_succ]
    refine wpAnyLast_ready (rs := [7]) (by kernel_rfl) (by simp) ?_
    refine AllReadyL.cons rfl (by decide) (fun K hK => ?_) AllReadyL.nil
    go_simp
    refine (worldmintref01_Around.calls (IntKind.i64.wrap (Int.tdiv a2 6)) (x.f3.length : Int) i _ Hi.out).mono ?_
    rintro e w9 ⟨rfl, hd9⟩
    have hb9 : Below w8.heap.size w8 w9 := (below_drew1 (Below.refl _ _)).trans (hd9.below.mono (below_drew1 (Below.refl w8.heap.size w8)).size)
    have Hqt9 := Aside0.mk (Hqt8.out.step hb9)
    have Ho9 := Aside0.mk (Kd.R_below Ho8.out hb9)
    refine hK.out _ _ (Hkeep.out _ hb9) (fun hSn_ => ?_)
    clear hK K
    try simp only [Act.put, List.getElem_toArray, List.getElem_cons_zero, List.getElem_cons_succ, List.setIfInBounds_toArray, List.set_cons_zero, List.set_cons_succ]
    clear hd9 hb9 Hqt8 Ho8
    refine wpAnyLast_take (i := 9) (v := ?_) rfl (by kernel_rfl) (by kernel_rfl) (by kernel_rfl) (by kernel_rfl) (by kernel_rfl) (fun _ _ _ h => h) (Or.inl ⟨by rfl, ?_⟩) (by assumption) ?_
    rotate_left
    ·(intro w_ hSw_; (try dsimp only at hSw_); go_simp; try with_reducible rfl)
    try simp only [Act.put, List.getElem_toArray, List.getElem_cons_zero, List.getElem_cons_succ, List.setIfInBounds_toArray, List.set_cons_zero, List.set_cons_succ]
    obtain ⟨hcc0, hff0⟩ := Kd.R_celln 0 Ho9.out i gi1 gi2
    refine wpAnyLast_ready (rs := [10]) (by kernel_rfl) (by simp) ?_
    refine AllReadyL.cons_last rfl (by decide) (fun K hK => ?_) AllReadyL.nil
    go_simp
    refine hK.out _ _ ?_
    clear hK K
    try simp only [Act.put, List.getElem_toArray, List.getElem_cons_zero, List.getElem_cons_succ, List.setIfInBounds_toArray, List.set_cons_zero, List.set_cons_succ]
    refine wpAnyLast_done (by kernel_rfl) ?_ _
    obtain ⟨w10, hw10⟩ : ∃ w10, w10 = w9.setCell ⟨gr, i.toNat, none⟩ (.int .i64 a3) := ⟨_, rfl⟩
    have Hqt7 : Aside0 (QT w okN v0 l0 gb c9 g11 ⟨x.f0, x.f1, x.f2, x.f3.set i.toNat a3⟩ (some ⟨gr, 0, none⟩) cr w10) := ⟨by
     have hR := Kd.R_putn Ho9.out i a3
     obtain ⟨n1, n2, n3⟩ := Hnum.out
     rw [hw10]
     refine ⟨Hqt9.out.q.far (p := ⟨gr, i.toNat, none⟩) (fun k hk => by have := hk.2; show k ≠ gr; omega) n2 _, ?_, ?_, ?_, Hqt9.out.hg, Hqt9.out.hgb⟩
     ·rw [List.length_set]
      exact (Below.heap_setCell w9 ⟨gr, i.toNat, none⟩ _ _ (by show g11 ≠ gr; omega)).trans Hqt9.out.hx
     ·rw [List.length_set]
      exact Hqt9.out.hl
     ·rw [List.length_set]
      exact Kd.F_mono (Kd.R_F (Kd.R_bound hR)) (fun k hk => by
       have h1 : w6.heap.size ≤ k := hk.2.1
       exact ⟨⟨Hfresh.out k (by omega), by omega⟩, by omega⟩)⟩
    rw [← hw10]
    clear hw10 hcc0 hff0 Hqt9 Ho9 Hnum Hkeep hS0 Hi
    go_upto_region 22 with (fail)
    obtain ⟨hx0, hx1, hx2c, hx3, hxf0, hxf1, hxf2, hxf3⟩ := Hqt7.out.xcells
    obtain ⟨hz0, hz1, hzf0, hzf1⟩ := Hqt7.out.q.cells
    obtain ⟨u0, u1, u2, u3, hc0, hc1, hc2, hc3, hf0, hf1, hf2, hf3, hstZ⟩ := Hqt7.out.put Hokq.out g2N
    have HstZ := Aside0.mk hstZ
    clear hstZ Hqt7 Hqt6
    try simp only [List.length_append, List.length_singleton, List.length_set] at HstZ
    go_upto_region 23 with (fail)
    obtain ⟨hy0, hy1, hyf0, hyf1⟩ := HstZ.out.cells8
    obtain ⟨hz0, hz1, hzf0, hzf1⟩ := HstZ.out.cells
    go_wp2_with fail
    have hdone := HstZ.out.done
    refine bodyPost_ret (results_cell_row rfl _ _ (w.heap.size + 1) 30 _ (0, 0) _ rfl hdone.1 Try.underlying30 rfl (by kernel_rfl)) rfl ?_
    obtain ⟨e1, e2⟩ := Prod.mk.inj Hr.out
    rw [← e1, ← e2]
    exact ⟨_, rfl, Kd.N_mono hdone.2.1 Hfin.out, hdone.2.2⟩
   ·have d1 : decide ((0 : Int) < (x.f3.length : Int)) = false := decide_eq_false (by omega)
    have d2 : decide (0 < x.f3.length) = false := decide_eq_false hp
    have nq0 : (q == 0) = false := beq_false_of_ne (by omega)
    have nq1 : (q == 1) = false := beq_false_of_ne (by omega)
    have nq2 : (q == 2) = false := beq_false_of_ne (by omega)
    have nq3 : (q == 3) = false := beq_false_of_ne (by omega)
    have Hr := Aside0.mk (show (v0, l0.set n x) = (rv, r) from Option.some.inj (by
     have h_ := Hr.out
     rw [if_neg (by omega)] at h_
     unfold spoN at h_
     rw [if_neg (by omega), if_neg (by omega), if_neg (by omega), if_neg (by omega)] at h_
     exact h_))
    go_upto_region 22 with (fail)
    have Hqt7 := Hqt6
    clear hx0 hx1 hx2c hx3 hxf0 hxf1 hxf2 hxf3
    obtain ⟨hx0, hx1, hx2c, hx3, hxf0, hxf1, hxf2, hxf3⟩ := Hqt7.out.xcells
    obtain ⟨hz0, hz1, hzf0, hzf1⟩ := Hqt7.out.q.cells
    obtain ⟨u0, u1, u2, u3, hc0, hc1, hc2, hc3, hf0, hf1, hf2, hf3, hstZ⟩ := Hqt7.out.put Hokq.out g2N
    have HstZ := Aside0.mk hstZ
    clear hstZ Hqt7 Hqt6
    try simp only [List.length_append, List.length_singleton, List.length_set] at HstZ
    go_upto_region 23 with (fail)
    obtain ⟨hy0, hy1, hyf0, hyf1⟩ := HstZ.out.cells8
    obtain ⟨hz0, hz1, hzf0, hzf1⟩ := HstZ.out.cells
    go_wp2_with fail
    have hdone := HstZ.out.done
    refine bodyPost_ret (results_cell_row rfl _ _ (w.heap.size + 1) 30 _ (0, 0) _ rfl hdone.1 Try.underlying30 rfl (by kernel_rfl)) rfl ?_
    obtain ⟨e1, e2⟩ := Prod.mk.inj Hr.out
    rw [← e1, ← e2]
    exact ⟨_, rfl, Kd.N_mono hdone.2.1 Hfin.out, hdone.2.2⟩
structure SpoT (w : World) (okN : Nat → Prop) (l0 : List S85) (g9 c9 g11 : Nat) (y : S85) (A : Option Addr) (c : Nat) (W : World) : Prop where
 hN : Kd.N k85 85 W w.heap.size (fun k => okN k ∧ k ≠ g11) (.slice (some ⟨g9, 0, none⟩) l0.length c9) l0
 hx : W.heap[g11]? = some (.cells #[.int .i64 y.f0, .int .i64 y.f1, .slice A y.f2.length c] 85 (0, 0))
 hl : y.f2.length ≤ c
 hF : Kd.F (Kd.int .i64) W (fun k => (okN k ∧ k ≠ g9) ∧ k ≠ g11) A y.f2.length y.f2
 hB : Below w.heap.size w W
theorem SpoT.put {w : World} {okN : Nat → Prop} {l0 : List S85} {g9 c9 g11 : Nat} {y : S85} {A : Option Addr} {c : Nat} {W : World} (h : SpoT w okN l0 g9 c9 g11 y A c W) {n : Nat} (hn : n < l0.length) (hg : w.heap.size ≤ g9) :
  ∃ u0 u1 u2, W.cell? ⟨g9, n * 3, none⟩ = some u0 ∧ W.cell? ⟨g9, n * 3 + 1, none⟩ = some u1 ∧ W.cell? ⟨g9, n * 3 + 2, none⟩ = some u2 ∧ W.frozen? ⟨g9, n * 3, none⟩ = false ∧ W.frozen? ⟨g9, n * 3 + 1, none⟩ = false ∧ W.frozen? ⟨g9, n * 3 + 2, none⟩ = false ∧
   Kd.N k85 85 (((W.setCell ⟨g9, n * 3, none⟩ (.int .i64 y.f0)).setCell ⟨g9, n * 3 + 1, none⟩ (.int .i64 y.f1)).setCell ⟨g9, n * 3 + 2, none⟩ (.slice A y.f2.length c)) w.heap.size okN (.slice (some ⟨g9, 0, none⟩) l0.length c9) (l0.set n y) ∧
   Below w.heap.size w (((W.setCell ⟨g9, n * 3, none⟩ (.int .i64 y.f0)).setCell ⟨g9, n * 3 + 1, none⟩ (.int .i64 y.f1)).setCell ⟨g9, n * 3 + 2, none⟩ (.slice A y.f2.length c)) := by
 obtain ⟨cs, hcl, hFK, hcc, hfr⟩ := Kd.N_elem h.hN z85 (n : Int) (by omega) (by omega)
 rw [Int.toNat_natCast] at hFK hcc hfr
 obtain ⟨A2, c2, ec, _, _⟩ := k85_openF hFK
 obtain ⟨hN, _⟩ := Kd.N_seg h.hN (n : Int) (by omega) (by omega) (c := cs) (seg := [.int .i64 y.f0, .int .i64 y.f1, .slice A y.f2.length c]) (j := 0) (okp := fun k => (okN k ∧ k ≠ g9) ∧ k ≠ g11) hcl (by rw [Int.toNat_natCast]; exact hcc) (by show 0 + 3 ≤ 3; omega) (x' := y) (by rw [ec]; exact k85_mkF _ _ y h.hl h.hF) (fun k hk => ⟨⟨hk.1.1, hk.2⟩, hk.1.2⟩)
 rw [Int.toNat_natCast] at hN
 exact ⟨_, _, _, hcc 0 _ (by rw [ec]; rfl), hcc 1 _ (by rw [ec]; rfl), hcc 2 _ (by rw [ec]; rfl), hfr 0, hfr 1, hfr 2, Kd.N_mono hN (fun _ hk => hk.1), below_set (below_set (below_set h.hB hg) hg) hg⟩
end Go.Proofs.Ytdamibblnjeooaa.H
