/-
  Texts of this claim, laid together by a program (wip/tools/shrink.py).
-/
import Derived.Test.YthphkcpbglhabaaGreatDoorAd6
namespace Go.Proofs.YthphkcpbglhabaaGreatDoor
open Sx Go
set_option maxRecDepth 100000
set_option linter.unusedSimpArgs false
set_option linter.unusedVariables false
set_option linter.unnecessarySimpa false
attribute [local simp] stepV condR boundsC appendG appendO copyV srcC guardB isCall opStep Opd.ev put readAt aBin aUn args0 V.celled V.ones V.one V.cells putAt bounds bound1 elemsOf srcOf appendV fillAt fillEl V.pures V.pure unwind evs ARes.ev mkRes V.ren V.renL O.ren eqCells eq1 aEq aMM hasTy hasTyN okTy mmGo Known HLe OLe VsLe.refl VLe.refl VLe.cap Stay VsLe V.frz V.frzL O.frz fr clearV rn KnownR Objs OLeO ObjsE nm back V.calls setAll ren_ite take_map_len List.take_of_length_le
attribute [local simp ↓] upd_app tl_cons tl_nil
attribute [local simp] encS_ren encS_ones encS_len encS_take KnownS VLe.refl encSh_ren encSh_ones encSh_len encD_ones encD_ren encMsg_ones encMsg_len encMsg_ren
theorem Run.joinP {E : Env} {x : AItem} {k : List AItem} {t : T} {h : List O} {α : Type} (st : α → List (Nat × V) × List O) (P : α → Prop) (h2 : ∀ a, P a → Run E ⟨k, tl (st a).1, (st a).2⟩)
  (h1 : ∀ k, (∀ a, P a → Run E ⟨k, tl (st a).1, (st a).2⟩) → Run E ⟨x :: k, t, h⟩) : Run E ⟨x :: k, t, h⟩ := h1 k h2
theorem join_at (a b : ShM) (h : mayS a.lo a.hi = true ∧ mayS b.lo b.hi = true ∧ a.hi ≠ [] ∧ b.lo = a.hi) (H : List O) : Tri Tryz.prog 100 [.agg [.str a.lo, .str a.hi], .agg [.str b.lo, .str b.hi]] H (fun v H' => v = .tup [.agg [.str a.lo, .str b.hi], .int .i64 0] ∧ H' = H) := by
 refine Tri.at (v0 := .tup [.agg [.str a.lo, .str b.hi], .int .i64 0]) ?_ rfl rfl H
 obtain ⟨h1, h2, h3, h4⟩ := h
 refine Tri.of_run' Tryz.func100 rfl c100_ok (by simp [Tryz.ntmps100]) ?_
 (repeat (first | refine Run.adm rfl ?_ | refine Run.seq ?_ | ((first | apply Run.opS rfl | apply Run.condS); (· (simp -implicitDefEqProofs; first | exact ⟨rfl, rfl⟩ | exact rfl)))))
 refine Run.opC rfl rfl rfl (smay_at a.lo a.hi _) ?_
 rintro v H' ⟨rfl, rfl⟩
 rw [h1]
 (repeat (first | refine Run.adm rfl ?_ | refine Run.seq ?_ | ((first | apply Run.opS rfl | apply Run.condS); (· (simp -implicitDefEqProofs; first | exact ⟨rfl, rfl⟩ | exact rfl)))))
 refine Run.opC rfl (by simp) rfl (smay_at b.lo b.hi _) ?_
 rintro v H' ⟨rfl, rfl⟩
 rw [h2]
 (repeat (first | refine Run.adm rfl ?_ | refine Run.seq ?_ | ((first | apply Run.opS rfl | apply Run.condS); (· (simp -implicitDefEqProofs [h3, h4]; first | exact ⟨rfl, rfl⟩ | exact rfl)))))
 refine Run.ret Tryz.func100 r100_ok trivial (by simp -implicitDefEqProofs [r100]; rfl) (fun _ => none) (v' := .tup [.agg [.str a.lo, .str b.hi], .int .i64 0]) (h' := []) (namesN _) (by simp) ⟨rfl, rfl⟩ trivial
def twoD (s : DSt) (x a b : ShM) : List ShM := [⟨s.next - 2, a.lo, a.hi, s.epoch, x.node, 2⟩, ⟨s.next - 1, b.lo, b.hi, s.epoch, x.node, 2⟩]
def midS (s : DSt) (x a b : ShM) : Nat → List ShM
 | 0 => [⟨s.next - 2, [], [], s.epoch, 0, 0⟩, ⟨s.next - 1, [], [], s.epoch, 0, 0⟩]
 | 1 => [⟨s.next - 2, a.lo, a.hi, s.epoch, x.node, 0⟩, ⟨s.next - 1, [], [], s.epoch, 0, 0⟩]
 | _ => [⟨s.next - 2, a.lo, a.hi, s.epoch, x.node, 0⟩, ⟨s.next - 1, b.lo, b.hi, s.epoch, x.node, 0⟩]
structure SplitOk (s : DSt) (x a b : ShM) (M : MsgM) : Prop where
 m : s.m = [x]
 kind : s.kind = 5
 shard : s.shard = x.id
 next : 0 ≤ s.next ∧ s.next ≤ 1000000
 is : M.kind = 14 ∧ M.seq = 5
 map : M.map = [a, b]
 ids : a.id = s.next - 2 ∧ a.ep = s.epoch ∧ b.id = s.next - 1 ∧ b.ep = s.epoch
 may : mayS a.lo a.hi = true ∧ mayS b.lo b.hi = true ∧ a.hi ≠ [] ∧ b.lo = a.hi
 ends : a.lo = x.lo ∧ b.hi = x.hi
theorem splitw_tri {s : DSt} {x a b : ShM} {M : MsgM} {U : List O} {dd lg n : Nat} {nodes : Int} {kc ks w : V} (h : SplitOk s x a b M) (hr : U[dd]? = some (.row (encDir lg nodes n s kc ks w))) :
  Tri Tryz.prog 51 [.ptr dd 0, .int .i64 x.node, .agg (encMsg M)] U (fun v W => v = .tup [.agg (encD (overD { s with m := twoD s x a b })), .bool true] ∧ Kept U W []) := by
 have hdl := lt_of_get hr
 have hfr : freshD s = [⟨s.next - 2, [], [], s.epoch, 0, 0⟩, ⟨s.next - 1, [], [], s.epoch, 0, 0⟩] := by simp [freshD, h.kind]
 have hfind : idxI (fun y => decide (y.id = s.shard)) s.m = 0 := by simp [h.m, h.shard, idxI]
 have hsame : sameL M.map (freshD s) = true := by simp [sameL, samP, h.map, hfr, h.ids]
 obtain ⟨b5, hb5⟩ : ∃ b5, b5 = U.length := ⟨_, rfl⟩
 obtain ⟨b6, hb6⟩ : ∃ b6, b6 = U.length + 1 := ⟨_, rfl⟩
 obtain ⟨b8, hb8⟩ : ∃ b8, b8 = U.length + 2 := ⟨_, rfl⟩
 obtain ⟨b10, hb10⟩ : ∃ b10, b10 = U.length + 3 := ⟨_, rfl⟩
 have hg : ∀ o, (U ++ o)[dd]? = some (.row (encDir lg nodes n s kc ks w)) := fun o => by rw [List.getElem?_append_left hdl]; exact hr
 have hmap := h.map
 have htk : (encD s).take 9 = encD s := rfl
 refine Tri.of_run' Tryz.func51 rfl c51_ok (by simp [Tryz.ntmps51]) ?_
 (repeat (first | refine Run.adm rfl ?_ | refine Run.seq ?_ | ((first | apply Run.opS rfl | apply Run.condS); (· (simp -implicitDefEqProofs [hg, encDir, encD_take, encD_len, htk]; first | exact ⟨rfl, rfl⟩ | exact rfl)))))
 refine Run.opC rfl rfl rfl (find_at s s.shard (by rw [h.m]; simp) _) ?_
 rintro v W ⟨rfl, rfl⟩
 rw [hfind]
 (repeat (first | refine Run.adm rfl ?_ | refine Run.seq ?_ | ((first | apply Run.opS rfl | apply Run.condS); (· (simp -implicitDefEqProofs [h.m]; first | exact ⟨rfl, rfl⟩ | exact rfl)))))
 refine Run.opC rfl rfl rfl (fails_at M 5 _) ?_
 rintro v W ⟨rfl, rfl⟩
 have hf15 : (decide (M.kind = 15) && decide (M.seq = 5)) = false := by simp [h.is]
 rw [hf15]
 (repeat (first | refine Run.adm rfl ?_ | refine Run.seq ?_ | ((first | apply Run.opS rfl | apply Run.condS); (· (simp -implicitDefEqProofs; first | exact ⟨rfl, rfl⟩ | exact rfl)))))
 refine run_to [(0, .ptr dd 0), (1, .int .i64 x.node), (5, .ptr b5 0), (6, .ptr b6 0), (8, .ptr b8 0), (9, .int .i64 0), (10, .ptr b10 0)]
  (fun W => W[b5]? = some (.row (encMsg M)) ∧ W[b8]? = some (.row (encD s)) ∧ W[b10]? = some (.row (encSh x)) ∧ (∃ z, z.length = 9 ∧ W[b6]? = some (.row z)) ∧ Kept U W []) (by simp [hb5, hb6, hb8, hb10]) ⟨by simp [hb5], by simp [hb8], by simp [hb10], ⟨_, rfl, by simp [hb6]; rfl⟩, (Kept.refl U []).app _⟩ ?_
 rintro W ⟨w5, w8, w10, ⟨z, hz, w6⟩, hkW⟩
 have hm5 : (encMsg M)[22]? = some (.vs ([a, b].map encSh) 6) := by rw [encMsg_eq, h.map]; rfl
 have hm5i := (List.getElem?_eq_some_iff.1 hm5).2
 have htk25 : (encMsg M).take 25 = encMsg M := rfl
 have his : (decide (M.kind = 14) && decide (M.seq = 5)) = true := by simp [h.is]
 refine Run.drawn prog_mixed ?_
 show RunD _ c51d0 [0, 1, 2, 3, 4, 5, 6, 7, 8, 9, 10, 11] [] _ _ _
 refine RunD.flow [0, 1, 2, 3, 4, 5, 6] (by kernel_rfl) (by decide +kernel) (by decide +kernel) (by decide) trivial ?_
 (repeat (first | refine execQ_E rfl ?_ | (apply execQ_S rfl; (· (simp -implicitDefEqProofs [w5, htk25, encMsg_len]; exact ⟨rfl, rfl⟩)))))
 refine execQ_C rfl rfl rfl (is_at M 5 _) ?_
 rw [his]
 (repeat (first | refine execQ_E rfl ?_ | (apply execQ_S rfl; (· (simp -implicitDefEqProofs [w5, w8, hm5, hm5i, htk, encD_len, encMsg_len]; exact ⟨rfl, rfl⟩)))))
 intro hpo
 refine RunD.alt1 7 (by kernel_rfl) (by kernel_rfl) hpo ?_
 refine AStep.C rfl (by simp) rfl (fresh_at s h.next _) ?_
 rintro v W2 ⟨⟨id, hid, rfl, hfid⟩, hkW2⟩
 have y5 := hkW2.get w5 (by simp)
 have y8 := hkW2.get w8 (by simp)
 have y10 := hkW2.get w10 (by simp)
 have y6 := hkW2.get w6 (by simp)
 refine RunD.alt1 8 (by kernel_rfl) (by kernel_rfl) (by
  show PendOk _ c51d0 _ _ [5, 4]
  (repeat (first | exact PendOk.nil | (refine PendOk.S rfl rfl ?_ ?_; (· (simp -implicitDefEqProofs [y5, hm5, hm5i, encMsg_len]; done)))))) ?_
 refine AStep.C rfl (by simp) rfl (same_at (l := [a, b]) (k := freshD s) hfid (by simp)) ?_
 rintro v W3 ⟨rfl, hkW3⟩
 rw [h.map] at hsame
 rw [hsame]
 have z5 := hkW3.get y5 (by simp)
 have z8 := hkW3.get y8 (by simp)
 have z10 := hkW3.get y10 (by simp)
 have z6 := hkW3.get y6 (by simp)
 have hkU3 : Kept U W3 [] := ((hkW.trans hkW2).trans hkW3).mono (by simp)
 refine RunD.alt1 9 (by kernel_rfl) (by kernel_rfl) (show PendOk _ c51d0 _ _ [] from trivial) ?_
 (apply AStep.S rfl; (· (simp -implicitDefEqProofs; exact ⟨rfl, rfl⟩)))
 refine RunD.alt1 10 (by kernel_rfl) (by kernel_rfl) (show PendOk _ c51d0 _ _ [] from trivial) ?_
 (apply AStep.S rfl; (· (simp -implicitDefEqProofs; exact ⟨rfl, rfl⟩)))
 refine RunD.alt1 11 (by kernel_rfl) (by kernel_rfl) (show PendOk _ c51d0 _ _ [] from trivial) ?_
 (apply AStep.S rfl; (· (simp -implicitDefEqProofs; exact ⟨rfl, rfl⟩)))
 refine RunD.fin (by kernel_rfl) (by trivial) ?_
 (repeat (first | refine Run.adm rfl ?_ | refine Run.seq ?_ | ((first | apply Run.opS rfl | apply Run.condS); (· (simp -implicitDefEqProofs; first | exact ⟨rfl, rfl⟩ | exact rfl)))))
 refine Run.sl [(0, .ptr dd 0), (1, .int .i64 x.node), (5, .ptr b5 0), (6, .ptr b6 0), (8, .ptr b8 0), (9, .int .i64 0), (10, .ptr b10 0)] (by simp) ?_
 clear hpo hkW2 hkW3 hkW hfid hid w5 w6 w8 w10 y5 y6 y8 y10
 refine Run.joinP (fun (y : Nat × List O) => ([(0, .ptr dd 0), (1, .int .i64 x.node), (5, .ptr b5 0), (6, .ptr b6 0), (8, .ptr b8 0), (9, .int .i64 0), (10, .ptr b10 0), (11, .ptr y.1 0), (12, .int .i64 0)], y.2))
  (fun y => y.2[b5]? = some (.row (encMsg M)) ∧ y.2[b8]? = some (.row (encD s)) ∧ y.2[b10]? = some (.row (encSh x)) ∧ y.2[b6]? = some (.row z) ∧ y.2[y.1]? = some (.row [.str a.lo, .str b.hi]) ∧ Kept U y.2 []) ?_ ?_
 rotate_left
 ·intro K hK
  refine Run.drawn prog_mixed ?_
  show RunD _ c51d1 [0, 1, 2, 3, 4, 5, 6, 7, 8, 9, 10, 11, 12, 13, 14, 15, 16] [] _ _ _
  refine RunD.flow [0, 1, 2, 3, 4, 5, 6, 7, 8, 9] (by kernel_rfl) (by decide +kernel) (by decide +kernel) (by decide) trivial ?_; (repeat (first | refine execQ_E rfl ?_ | (apply execQ_S rfl; (· (simp -implicitDefEqProofs [z5, hm5, hm5i, encMsg_len, encSh]; exact ⟨rfl, rfl⟩))))); intro hpo
  refine RunD.alt2 10 14 (by kernel_rfl) (by kernel_rfl) hpo ?_ ?_
  ·refine AStep.C rfl (by simp) rfl (join_at a b h.may _) ?_
   rintro v W4 ⟨rfl, rfl⟩
   refine RunD.flow [11, 12, 13] (by kernel_rfl) (by decide +kernel) (by decide +kernel) (by decide) trivial ?_; (repeat (first | refine execQ_E rfl ?_ | (apply execQ_S rfl; (· (simp -implicitDefEqProofs; exact ⟨rfl, rfl⟩))))); intro hpo
   refine RunD.alt1 14 (by kernel_rfl) (by kernel_rfl) hpo ?_
   (apply AStep.S rfl; (· (simp -implicitDefEqProofs; exact ⟨rfl, rfl⟩)))
   refine RunD.alt1 15 (by kernel_rfl) (by kernel_rfl) (by
    show PendOk _ c51d1 _ _ [13, 12, 11]
    (repeat (first | exact PendOk.nil | (refine PendOk.S rfl rfl ?_ ?_; (· (simp -implicitDefEqProofs; done)))))) ?_
   (apply AStep.S rfl; (· (simp -implicitDefEqProofs; exact ⟨rfl, rfl⟩)))
   refine RunD.alt1 16 (by kernel_rfl) (by kernel_rfl) (by
    show PendOk _ c51d1 _ _ [13]
    (repeat (first | exact PendOk.nil | (refine PendOk.S rfl rfl ?_ ?_; (· (simp -implicitDefEqProofs; done)))))) ?_
   (apply AStep.S rfl; (· (simp -implicitDefEqProofs; exact ⟨rfl, rfl⟩)))
   refine RunD.fin (by kernel_rfl) (by trivial) ?_
   refine Run.sl _ ?_ (hK (W4.length, _) ⟨getA z5 _, getA z8 _, getA z10 _, getA z6 _, ?_, hkU3.app _⟩)
   ·simp
   ·simp
  ·(apply AStep.S rfl; (· (simp -implicitDefEqProofs; exact ⟨rfl, rfl⟩)))
   have ga : ∀ o, (W3 ++ o)[b5]? = some (.row (encMsg M)) := fun o => by rw [List.getElem?_append_left (lt_of_get z5)]; exact z5
   refine RunD.alt1 10 (by kernel_rfl) (by kernel_rfl) (by
    show PendOk _ c51d1 _ _ [9, 8, 7, 6, 5, 4, 3, 2, 1, 0]
    (repeat (first | exact PendOk.nil | (refine PendOk.S rfl rfl ?_ ?_; (· (simp -implicitDefEqProofs [ga, hm5, hm5i, encMsg_len, encSh]; done)))))) ?_
   refine AStep.C rfl (by simp) rfl (join_at a b h.may _) ?_
   rintro v W4 ⟨rfl, e⟩
   replace e := e.symm
   subst e
   refine RunD.flow [11, 12, 13] (by kernel_rfl) (by decide +kernel) (by decide +kernel) (by decide) trivial ?_; (repeat (first | refine execQ_E rfl ?_ | (apply execQ_S rfl; (· (simp -implicitDefEqProofs; exact ⟨rfl, rfl⟩))))); intro hpo
   refine RunD.alt1 15 (by kernel_rfl) (by kernel_rfl) hpo ?_
   (apply AStep.S rfl; (· (simp -implicitDefEqProofs; exact ⟨rfl, rfl⟩)))
   refine RunD.alt1 16 (by kernel_rfl) (by kernel_rfl) (by
    show PendOk _ c51d1 _ _ [13]
    (repeat (first | exact PendOk.nil | (refine PendOk.S rfl rfl ?_ ?_; (· (simp -implicitDefEqProofs; done)))))) ?_
   (apply AStep.S rfl; (· (simp -implicitDefEqProofs; exact ⟨rfl, rfl⟩)))
   refine RunD.fin (by kernel_rfl) (by trivial) ?_
   refine Run.sl _ ?_ (hK (W3.length, _) ⟨getA z5 _, getA z8 _, getA z10 _, getA z6 _, ?_, hkU3.app _⟩)
   ·simp
   ·simp
 rintro ⟨c, Y⟩ ⟨z5, z8, z10, z6, zc, hkU⟩
 simp only at z5 z8 z10 z6 zc hkU ⊢
 obtain ⟨en1, en2⟩ := h.ends
 (repeat (first | refine Run.adm rfl ?_ | refine Run.seq ?_ | ((first | apply Run.opS rfl | apply Run.condS); (· (simp -implicitDefEqProofs [zc, z10, encSh, en1, en2, z8, htk, encD_len]; first | exact ⟨rfl, rfl⟩ | exact rfl)))))
 refine Run.opC rfl rfl rfl (fresh_at s h.next _) ?_
 rintro v Y1 ⟨⟨l, hl, rfl, hfl⟩, hkY⟩
 rw [hfr] at hfl ⊢
 have x5 := hkY.get z5 (by simp)
 have x8 := hkY.get z8 (by simp)
 have x10 := hkY.get z10 (by simp)
 have x6 := hkY.get z6 (by simp)
 have hkU1 : Kept U Y1 [] := (hkU.trans hkY).mono (by simp)
 have hlU : U.length ≤ l := by have := hkU.1; omega
 have hl5 : l ≠ b5 := by have := lt_of_get z5; omega
 have hl8 : l ≠ b8 := by have := lt_of_get z8; omega
 have hl10 : l ≠ b10 := by have := lt_of_get z10; omega
 have hl6 : l ≠ b6 := by have := lt_of_get z6; omega
 (repeat (first | refine Run.adm rfl ?_ | refine Run.seq ?_ | ((first | apply Run.opS rfl | apply Run.condS); (· (simp -implicitDefEqProofs; first | exact ⟨rfl, rfl⟩ | exact rfl)))))
 refine Run.sl [(5, .ptr b5 0), (6, .ptr b6 0), (8, .ptr b8 0), (9, .int .i64 0), (10, .ptr b10 0), (13, .sl l 0 2 6 (some 2)), (77, .sl l 0 2 6 (some 2)), (78, .int .i64 2), (79, .int .i64 (0 : Nat))] (by simp) ?_
 refine Run.loopS (fun (y : Nat × List O) => ([(5, .ptr b5 0), (6, .ptr b6 0), (8, .ptr b8 0), (9, .int .i64 0), (10, .ptr b10 0), (13, .sl l 0 2 6 (some 2)), (77, .sl l 0 2 6 (some 2)), (78, .int .i64 2), (79, .int .i64 y.1)], y.2))
  (fun y => y.1 ≤ 2 ∧ y.2[b5]? = some (.row (encMsg M)) ∧ y.2[b8]? = some (.row (encD s)) ∧ y.2[b10]? = some (.row (encSh x)) ∧ y.2[b6]? = some (.row z) ∧ y.2[l]? = some (.arr ((midS s x a b y.1).map encSh) 6) ∧ Kept U y.2 []) (fun y => 2 - y.1) ?_ (0, Y1) ⟨by simp, x5, x8, x10, x6, by simpa [midS] using hfl, hkU1⟩
 rintro ⟨i, Q⟩ ⟨hi, q5, q8, q10, q6, ql, hkQ⟩ ih
 simp only at hi q5 q8 q10 q6 ql hkQ ih ⊢
 have g5 : ∀ o, (Q.set l o)[b5]? = some (.row (encMsg M)) := fun o => by rw [setN hl5]; exact q5
 have g10 : ∀ o, (Q.set l o)[b10]? = some (.row (encSh x)) := fun o => by rw [setN hl10]; exact q10
 have gl : ∀ o, (Q.set l o)[l]? = some o := fun o => setG ql o
 obtain rfl | rfl | rfl : i = 0 ∨ i = 1 ∨ i = 2 := by omega
 ·(repeat (first | refine Run.adm rfl ?_ | refine Run.seq ?_ | ((first | apply Run.opS rfl | apply Run.condS); (· (simp -implicitDefEqProofs; first | exact ⟨rfl, rfl⟩ | exact rfl)))))
  refine Run.drawn prog_mixed ?_
  show RunD _ c51d2 [0, 1, 2, 3, 4, 5, 6, 7, 8, 9, 10, 11, 12, 13, 14, 15, 16, 17] [] _ _ _
  refine RunD.flow [0, 1, 2, 3, 4, 5, 6, 7, 8, 9, 10, 11, 12, 13] (by kernel_rfl) (by decide +kernel) (by decide +kernel) (by decide) trivial ?_; (repeat (first | refine execQ_E rfl ?_ | (apply execQ_S rfl; (· (simp -implicitDefEqProofs [q5, q10, ql, hm5, hm5i, encMsg_len, encSh, midS]; exact ⟨rfl, rfl⟩))))); intro hpo
  refine RunD.alt1 14 (by kernel_rfl) (by kernel_rfl) hpo ?_
  (apply AStep.S rfl; (· (simp -implicitDefEqProofs [ql, midS, encSh]; exact ⟨rfl, rfl⟩)))
  refine RunD.alt1 15 (by kernel_rfl) (by kernel_rfl) (by
   show PendOk _ c51d2 _ _ [11, 10, 3, 2]
   (repeat (first | exact PendOk.nil | (refine PendOk.S rfl rfl ?_ ?_; (· (simp -implicitDefEqProofs [g10, encSh]; done)))))) ?_
  (apply AStep.S rfl; (· (simp -implicitDefEqProofs [gl]; exact ⟨rfl, rfl⟩)))
  refine RunD.alt1 16 (by kernel_rfl) (by kernel_rfl) (by
   show PendOk _ c51d2 _ _ []
   trivial) ?_
  (apply AStep.S rfl; (· (simp -implicitDefEqProofs [gl]; exact ⟨rfl, rfl⟩)))
  refine RunD.alt1 17 (by kernel_rfl) (by kernel_rfl) (by
   show PendOk _ c51d2 _ _ []
   trivial) ?_
  (apply AStep.S rfl; (· (simp -implicitDefEqProofs [gl]; exact ⟨rfl, rfl⟩)))
  refine RunD.fin (by kernel_rfl) (by trivial) ?_
  (repeat (first | refine Run.adm rfl ?_ | refine Run.seq ?_ | ((first | apply Run.opS rfl | apply Run.condS); (· (simp -implicitDefEqProofs; first | exact ⟨rfl, rfl⟩ | exact rfl)))))
  have hw := wrap_small (n := (1 : Int)) (by decide) (by decide)
  refine Run.sl _ ?_ (ih (1, Q.set l (.arr ((midS s x a b 1).map encSh) 6)) ⟨by simp, g5 _, by simp only; rw [setN hl8]; exact q8, g10 _, by simp only; rw [setN hl6]; exact q6, gl _, hkQ.set _ _ (.inr hlU)⟩ (by simp))
  simp [hw, midS, encSh]
 ·(repeat (first | refine Run.adm rfl ?_ | refine Run.seq ?_ | ((first | apply Run.opS rfl | apply Run.condS); (· (simp -implicitDefEqProofs; first | exact ⟨rfl, rfl⟩ | exact rfl)))))
  refine Run.drawn prog_mixed ?_
  show RunD _ c51d2 [0, 1, 2, 3, 4, 5, 6, 7, 8, 9, 10, 11, 12, 13, 14, 15, 16, 17] [] _ _ _
  refine RunD.flow [0, 1, 2, 3, 4, 5, 6, 7, 8, 9, 10, 11, 12, 13] (by kernel_rfl) (by decide +kernel) (by decide +kernel) (by decide) trivial ?_; (repeat (first | refine execQ_E rfl ?_ | (apply execQ_S rfl; (· (simp -implicitDefEqProofs [q5, q10, ql, hm5, hm5i, encMsg_len, encSh, midS]; exact ⟨rfl, rfl⟩))))); intro hpo
  refine RunD.alt1 14 (by kernel_rfl) (by kernel_rfl) hpo ?_
  (apply AStep.S rfl; (· (simp -implicitDefEqProofs [ql, midS, encSh]; exact ⟨rfl, rfl⟩)))
  refine RunD.alt1 15 (by kernel_rfl) (by kernel_rfl) (by
   show PendOk _ c51d2 _ _ [11, 10, 3, 2]
   (repeat (first | exact PendOk.nil | (refine PendOk.S rfl rfl ?_ ?_; (· (simp -implicitDefEqProofs [g10, encSh]; done)))))) ?_
  (apply AStep.S rfl; (· (simp -implicitDefEqProofs [gl]; exact ⟨rfl, rfl⟩)))
  refine RunD.alt1 16 (by kernel_rfl) (by kernel_rfl) (by
   show PendOk _ c51d2 _ _ []
   trivial) ?_
  (apply AStep.S rfl; (· (simp -implicitDefEqProofs [gl]; exact ⟨rfl, rfl⟩)))
  refine RunD.alt1 17 (by kernel_rfl) (by kernel_rfl) (by
   show PendOk _ c51d2 _ _ []
   trivial) ?_
  (apply AStep.S rfl; (· (simp -implicitDefEqProofs [gl]; exact ⟨rfl, rfl⟩)))
  refine RunD.fin (by kernel_rfl) (by trivial) ?_
  (repeat (first | refine Run.adm rfl ?_ | refine Run.seq ?_ | ((first | apply Run.opS rfl | apply Run.condS); (· (simp -implicitDefEqProofs; first | exact ⟨rfl, rfl⟩ | exact rfl)))))
  have hw := wrap_small (n := (2 : Int)) (by decide) (by decide)
  refine Run.sl _ ?_ (ih (2, Q.set l (.arr ((midS s x a b 2).map encSh) 6)) ⟨by simp, g5 _, by simp only; rw [setN hl8]; exact q8, g10 _, by simp only; rw [setN hl6]; exact q6, gl _, hkQ.set _ _ (.inr hlU)⟩ (by simp))
  simp [hw, midS, encSh]
 ·(repeat (first | refine Run.adm rfl ?_ | refine Run.seq ?_ | ((first | apply Run.opS rfl | apply Run.condS); (· (simp -implicitDefEqProofs [q8, htk, encD_len]; first | exact ⟨rfl, rfl⟩ | exact rfl)))))
  refine Run.opC rfl rfl rfl (place_at (s := s) (ls := midS s x a b 2) (at_ := 0) (many := 1) ql (by rw [h.m]; simp) (by rw [h.m]; simp) (by simp [midS]) (by simp [midS])) ?_
  rintro v Q1 ⟨rfl, hkQ1⟩
  have e2 : ({ s with m := s.m.take 0 ++ (midS s x a b 2).map srv ++ s.m.drop (0 + 1) } : DSt) = { s with m := twoD s x a b } := by simp [h.m, midS, srv, twoD]
  rw [e2]
  (repeat (first | refine Run.adm rfl ?_ | refine Run.seq ?_ | ((first | apply Run.opS rfl | apply Run.condS); (· (simp -implicitDefEqProofs; first | exact ⟨rfl, rfl⟩ | exact rfl)))))
  refine Run.opC rfl rfl rfl (over_at { s with m := twoD s x a b } _) ?_
  rintro v Q2 ⟨rfl, e⟩
  replace e := e.symm
  subst e
  have p6 : Q1[b6]? = some (.row z) := hkQ1.get q6 (by simpa using Ne.symm hl6)
  have r6 : ∀ o, (Q1.set b6 o)[b6]? = some o := fun o => setG p6 o
  have hkF : Kept U Q1 [] := by
   refine ⟨Nat.le_trans hkQ.1 hkQ1.1, fun i hi _ => ?_⟩
   rw [hkQ1.2 i (by have := hkQ.1; omega) (by simp; omega)]; exact hkQ.2 i hi (by simp)
  have hzd : z.drop 9 = [] := List.drop_eq_nil_of_le (by omega)
  (repeat (first | refine Run.adm rfl ?_ | refine Run.seq ?_ | ((first | apply Run.opS rfl | apply Run.condS); (· (simp -implicitDefEqProofs [p6, hz, hzd, encD_len, encD_ones]; first | exact ⟨rfl, rfl⟩ | exact rfl)))))
  refine Run.retS Tryz.func51 r51_ok trivial (by simp [r51, r6, encD_len]; rfl) ?_
  exact ⟨by simp only [List.take_of_length_le (Nat.le_of_eq (encD_len _))]; rfl, hkF.set _ _ (.inr (by omega))⟩
attribute [local simp ↓] upd_app tl_cons tl_nil
section ops
variable {X : List O} {L : List Nat} {d dd m : Nat} {nodes : Int} {ss : List DSt} {kc ks : V} {Z : List O}
theorem DirG.more (h : DirG X L d dd m nodes ss kc ks Z) (o : O) : DirG X (Z.length :: L) d dd m nodes ss kc ks (Z ++ [o]) := by
 have hL := h.lts
 obtain ⟨⟨lg, w, lts, h1, h2, h3, h4, h5, h6, h7⟩, g1, g2, g3, g4⟩ := h
 have d1 := lt_of_get h3
 have w1 := lt_of_get h4
 refine ⟨⟨lg, w, lts, h1, (h2.more o).sub (L' := w :: dd :: Z.length :: L) (fun j hj => by simp only [List.mem_cons] at hj ⊢; rcases hj with h | h | h | h <;> simp [h]), getA h3 _, getA h4 _, ?_, ?_, h7⟩, g1, g2, g3, g4⟩
 ·simp only [List.mem_cons, not_or]; exact ⟨by omega, h5⟩
 ·simp only [List.mem_cons, not_or]; exact ⟨by omega, h6⟩
theorem DirG.put (h : DirG X L d dd m nodes ss kc ks Z) {i : Nat} (hi : i ∈ L) (o : O) : DirG X L d dd m nodes ss kc ks (Z.set i o) := by
 obtain ⟨⟨lg, w, lts, h1, h2, h3, h4, h5, h6, h7⟩, g1, g2, g3, g4⟩ := h
 have n1 : i ≠ dd := fun e => h5 (e ▸ hi)
 have n2 : i ≠ w := fun e => h6 (e ▸ hi)
 exact ⟨⟨lg, w, lts, h1, h2.put (by simp [hi]) o, by rw [setN n1]; exact h3, by rw [setN n2]; exact h4, h5, h6, h7⟩, g1, g2, g3, g4⟩
theorem DirG.sub (h : DirG X L d dd m nodes ss kc ks Z) {L' : List Nat} (hs : ∀ i ∈ L', i ∈ L) : DirG X L' d dd m nodes ss kc ks Z := by
 obtain ⟨⟨lg, w, lts, h1, h2, h3, h4, h5, h6, h7⟩, g1, g2, g3, g4⟩ := h
 exact ⟨⟨lg, w, lts, h1, h2.sub (L' := w :: dd :: L') (fun j hj => by simp only [List.mem_cons] at hj ⊢; rcases hj with h | h | h; exact .inl h; exact .inr (.inl h); exact .inr (.inr (hs _ h))), h3, h4, fun hm => h5 (hs _ hm), fun hm => h6 (hs _ hm), h7⟩, g1, g2, g3, g4⟩
theorem dtick0_tri {lg n : Nat} {s : DSt} {w : V} (h : Z[dd]? = some (.row (encDir lg nodes n s kc ks w))) (hk : s.kind = 0) : Tri Tryz.prog 24 [.ptr dd 0] Z (fun v H => v = .tup [.nils, .int .i64 0] ∧ H = Z) := by
 have h7 : ((encDir lg nodes n s kc ks w)[7]? : Option V) = some (.int .i64 s.kind) := rfl
 refine Tri.of_run' Tryz.func24 rfl c24_ok (by simp [Tryz.ntmps24]) ?_
 (repeat (first | refine Run.adm rfl ?_ | refine Run.seq ?_ | ((first | apply Run.opS rfl | apply Run.condS); (· (simp -implicitDefEqProofs; first | exact ⟨rfl, rfl⟩ | exact rfl)))))
 refine Run.opC rfl rfl rfl (dgiven_tri h) ?_
 rintro v H ⟨rfl, rfl⟩
 (repeat (first | refine Run.adm rfl ?_ | refine Run.seq ?_ | ((first | apply Run.opS rfl | apply Run.condS); (· (simp -implicitDefEqProofs [h, h7, hk]; first | exact ⟨rfl, rfl⟩ | exact rfl)))))
 refine Run.retS Tryz.func24 r24_ok trivial (by simp [r24]; rfl) ?_
 exact ⟨by simp, rfl⟩
def wayF (k : Int) : Nat := if k = 5 then 51 else 53
def heardD (ss : List DSt) (s' : DSt) : List DSt := if s'.phase ≠ (lastD ss).phase ∨ s'.kind ≠ (lastD ss).kind then ss ++ [s'] else ss
theorem dhear_tri {frm : Int} {M : MsgM} {s' : DSt} {kc' ks' lv : V} (h : DirG X L d dd m nodes ss kc ks Z) (hl : ss.length ≤ 13) (hlv : lv.pure = true) (hfr : 0 ≤ frm ∧ (frm < nodes ∨ 100 ≤ frm)) (hM : msgV M = true) (hMl : (msgB M).length ≤ 70368740000000) (hMk : M.kind ≠ 3)
  (hk : (lastD ss).kind = 5 ∨ (lastD ss).kind = 7) (hmv : M.move = (lastD ss).move)
  (hf : ∀ L' U, DirG X L' d dd m nodes ss kc ks U → Tri Tryz.prog (wayF (lastD ss).kind) [.ptr dd 0, .int .i64 frm, .agg (encMsg M)] U (fun v W => v = .tup [.agg (encD s'), .bool true] ∧ DirG X L' d dd m nodes ss kc' ks' W ∧ StayL L' U W))
  (hg : GoodS nodes s') (ht : ∀ L' U, DirG X L' d dd m nodes (heardD ss s') kc' ks' U → Tri Tryz.prog 24 [.ptr dd 0] U (fun v W => v = .tup [lv, .int .i64 0] ∧ Kept U W [])) :
  Tri Tryz.prog 26 [.ptr dd 0, .int .i64 frm, .agg (encMsg M)] Z (fun v W => v = .tup [lv, .int .i64 0] ∧ DirG X L d dd m nodes (heardD ss s') kc' ks' W ∧ StayL L Z W) := by
 obtain ⟨lg, w, hr, hwy, hdw, hdL, hwL⟩ := h.row
 have hk0 : (lastD ss).kind ≠ 0 := by omega
 obtain ⟨b5, hb5⟩ : ∃ b5, b5 = Z.length := ⟨_, rfl⟩
 have hG := h.more (.row (encMsg M))
 have n1 : ¬ frm < 0 := by omega
 have hr1 : (Z ++ [O.row (encMsg M)])[dd]? = some (.row (encDir lg nodes ss.length (lastD ss) kc ks (.mp w))) := getA hr _
 have hw1 : (Z ++ [O.row (encMsg M)])[w]? = some (.map (waysM dd)) := getA hwy _
 have hb1 : (Z ++ [O.row (encMsg M)])[b5]? = some (.row (encMsg M)) := by simp [hb5]
 have st1 : StayL L Z (Z ++ [O.row (encMsg M)]) := fun i hi => List.getElem?_append_left (h.lts i hi)
 rw [← hb5] at hG
 have htk25 : (encMsg M).take 25 = encMsg M := rfl
 refine Tri.of_run' Tryz.func26 rfl c26_ok (by simp [Tryz.ntmps26]) ?_
 (repeat (first | refine Run.adm rfl ?_ | refine Run.seq ?_ | ((first | apply Run.opS rfl | apply Run.condS); (· (simp -implicitDefEqProofs; first | exact ⟨rfl, rfl⟩ | exact rfl)))))
 rw [← hb5]
 generalize Z ++ [O.row (encMsg M)] = Y at *
 refine Run.opC rfl rfl rfl (dgiven_tri hr1) ?_
 rintro v H ⟨rfl, e⟩
 replace e := e.symm
 subst e
 refine Run.joinP (fun (_ : Unit) => ([(0, .ptr dd 0), (1, .int .i64 frm), (5, .ptr b5 0), (36, .bool false)], Y)) (fun _ => True) ?_ ?_
 rotate_left
 ·intro K hK
  by_cases hfn : frm < nodes
  ·have n2 : ¬ nodes ≤ frm := by omega
   (repeat (first | refine Run.adm rfl ?_ | refine Run.seq ?_ | ((first | apply Run.opS rfl | apply Run.condS); (· (simp -implicitDefEqProofs [n1, n2, hr1, encDir, hb1, htk25]; first | exact ⟨rfl, rfl⟩ | exact rfl)))))
   refine Run.opC rfl (by simp) rfl (pcheck_at M hMl _) ?_
   rintro v H ⟨rfl, e⟩
   replace e := e.symm
   subst e
   rw [if_pos hM]
   (repeat (first | refine Run.adm rfl ?_ | refine Run.seq ?_ | ((first | apply Run.opS rfl | apply Run.condS); (· (simp -implicitDefEqProofs; first | exact ⟨rfl, rfl⟩ | exact rfl)))))
   refine Run.sl _ ?_ (hK () trivial)
   simp
  ·have n2 : nodes ≤ frm := by omega
   have n3 : ¬ frm < 100 := by omega
   (repeat (first | refine Run.adm rfl ?_ | refine Run.seq ?_ | ((first | apply Run.opS rfl | apply Run.condS); (· (simp -implicitDefEqProofs [n1, n2, n3, hr1, encDir, hb1, htk25]; first | exact ⟨rfl, rfl⟩ | exact rfl)))))
   refine Run.opC rfl (by simp) rfl (pcheck_at M hMl _) ?_
   rintro v H ⟨rfl, e⟩
   replace e := e.symm
   subst e
   rw [if_pos hM]
   (repeat (first | refine Run.adm rfl ?_ | refine Run.seq ?_ | ((first | apply Run.opS rfl | apply Run.condS); (· (simp -implicitDefEqProofs; first | exact ⟨rfl, rfl⟩ | exact rfl)))))
   refine Run.sl _ ?_ (hK () trivial)
   simp
 rintro ⟨⟩ -
 have hm0 : (encMsg M)[0]? = some (.int .i64 M.kind) := rfl
 simp only
 have hm0i := (List.getElem?_eq_some_iff.1 hm0).2
 have hm6 : (encMsg M)[6]? = some (.int .i64 M.move) := rfl
 have hm6i := (List.getElem?_eq_some_iff.1 hm6).2
 have e7 : (encDir lg nodes ss.length (lastD ss) kc ks (.mp w))[7]? = some (.int .i64 (lastD ss).kind) := rfl
 have e4 : (encDir lg nodes ss.length (lastD ss) kc ks (.mp w))[4]? = some (.int .i64 (lastD ss).move) := rfl
 have e14 : (encDir lg nodes ss.length (lastD ss) kc ks (.mp w))[14]? = some (.mp w) := rfl
 (repeat (first | refine Run.adm rfl ?_ | refine Run.seq ?_ | ((first | apply Run.opS rfl | apply Run.condS); (· (simp -implicitDefEqProofs [hb1, hm0, hm0i, hMk]; first | exact ⟨rfl, rfl⟩ | exact rfl)))))
 refine Run.sl [(0, .ptr dd 0), (1, .int .i64 frm), (5, .ptr b5 0)] (by simp) ?_
 refine Run.quiet prog_mixed (by kernel_rfl) ?_
 (repeat (first | refine execQ_E rfl ?_ | (apply execQ_S rfl; (· (simp -implicitDefEqProofs [hb1, hm6, hm6i, hr1, e7, e4, hk0, hmv]; exact ⟨rfl, rfl⟩)))))
 (repeat (first | refine Run.adm rfl ?_ | refine Run.seq ?_ | ((first | apply Run.opS rfl | apply Run.condS); (· (simp -implicitDefEqProofs; first | exact ⟨rfl, rfl⟩ | exact rfl)))))
 refine Run.sl [(0, .ptr dd 0), (1, .int .i64 frm), (5, .ptr b5 0)] (by simp) ?_
 refine Run.joinP (fun (y : Nat × List O) => ([(0, .ptr dd 0), (1, .int .i64 frm), (5, .ptr b5 0), (10, .ptr y.1 0), (11, .bool true)], y.2))
  (fun y => DirG X (y.1 :: b5 :: L) d dd m nodes ss kc' ks' y.2 ∧ y.2[y.1]? = some (.row (encD s')) ∧ StayL (b5 :: L) Y y.2) ?_ ?_
 rotate_left
 ·intro K hK
  refine Run.drawn prog_mixed ?_
  show RunD _ c26d2 [0, 1, 2, 3, 4, 5, 6, 7, 8, 9, 10, 11, 12, 13, 14, 15, 16, 17, 18] [] _ _ _
  obtain ⟨i, kk, hmf, hwi⟩ : ∃ i kk, mFind 0 (.int .i64 (lastD ss).kind) (waysM dd) 0 = some (some i) ∧ (waysM dd)[i]? = some (kk, .bnd (wayF (lastD ss).kind) dd) := by
   rcases hk with e | e
   ·rw [e]; exact ⟨0, _, rfl, rfl⟩
   ·rw [e]; exact ⟨2, _, rfl, rfl⟩
  refine RunD.flow [0, 1, 2, 3, 4, 5, 6, 7, 8, 9, 10, 11] (by kernel_rfl) (by decide +kernel) (by decide +kernel) (by decide) trivial ?_
  (repeat (first | refine execQ_E rfl ?_ | (apply execQ_S rfl; (· (simp -implicitDefEqProofs [hb1, hr1, hw1, e7, e14, htk25, encMsg_len, hmf, hwi]; exact ⟨rfl, rfl⟩)))))
  intro hpo
  have hG1 := hG.more (.row [.nils, .int .i64 0, .int .i64 0, .int .i64 0, .int .i64 0, .int .i64 0, .int .i64 0, .int .i64 0, .int .i64 0])
  refine RunD.alt2 12 16 (by kernel_rfl) (by kernel_rfl) hpo ?_ ?_
  ·refine AStep.C rfl rfl rfl (hf (b5 :: L) Y hG) ?_
   rintro v W ⟨rfl, hW, stW⟩
   refine RunD.flow [13, 14, 15] (by kernel_rfl) (by decide +kernel) (by decide +kernel) (by decide) trivial ?_; (repeat (first | refine execQ_E rfl ?_ | (apply execQ_S rfl; (· (simp -implicitDefEqProofs; exact ⟨rfl, rfl⟩))))); intro hpo
   refine RunD.alt1 16 (by kernel_rfl) (by kernel_rfl) hpo ?_
   (apply AStep.S rfl; (· (simp -implicitDefEqProofs; exact ⟨rfl, rfl⟩)))
   refine RunD.alt1 17 (by kernel_rfl) (by kernel_rfl) (by
    show PendOk _ c26d2 _ _ [15, 14, 13]
    (repeat (first | exact PendOk.nil | (refine PendOk.S rfl rfl ?_ ?_; (· (simp -implicitDefEqProofs; done)))))) ?_
   (apply AStep.S rfl; (· (simp -implicitDefEqProofs [encD_len, encD_ones]; exact ⟨rfl, rfl⟩)))
   refine RunD.alt1 18 (by kernel_rfl) (by kernel_rfl) (by
    show PendOk _ c26d2 _ _ [15]
    (repeat (first | exact PendOk.nil | (refine PendOk.S rfl rfl ?_ ?_; (· (simp -implicitDefEqProofs; done)))))) ?_
   (apply AStep.S rfl; (· (simp -implicitDefEqProofs; exact ⟨rfl, rfl⟩)))
   refine RunD.fin (by kernel_rfl) (by trivial) ?_
   refine Run.sl _ ?_ (hK (W.length, _) ⟨hW.more _, ?_, fun i hi => (List.getElem?_append_left (hW.lts i hi)).trans (stW i hi)⟩)
   ·simp
   ·simp
  ·(apply AStep.S rfl; (· (simp -implicitDefEqProofs; exact ⟨rfl, rfl⟩)))
   have ga : ∀ o, (Y ++ o)[b5]? = some (.row (encMsg M)) := fun o => by rw [List.getElem?_append_left (lt_of_get hb1)]; exact hb1
   have gd : ∀ o, (Y ++ o)[dd]? = some (.row (encDir lg nodes ss.length (lastD ss) kc ks (.mp w))) := fun o => by rw [List.getElem?_append_left (lt_of_get hr1)]; exact hr1
   have gw : ∀ o, (Y ++ o)[w]? = some (.map (waysM dd)) := fun o => by rw [List.getElem?_append_left (lt_of_get hw1)]; exact hw1
   refine RunD.alt1 12 (by kernel_rfl) (by kernel_rfl) (by
    show PendOk _ c26d2 _ _ [11, 10, 9, 8, 7, 6, 5, 4, 3, 2, 1, 0]
    (repeat (first | exact PendOk.nil | (refine PendOk.S rfl rfl ?_ ?_; (· (simp -implicitDefEqProofs [ga, gd, gw, e7, e14, htk25, encMsg_len, hmf, hwi]; done)))))) ?_
   refine AStep.C rfl rfl rfl (hf (Y.length :: b5 :: L) _ hG1) ?_
   rintro v W ⟨rfl, hW, stW⟩
   have wc := stW Y.length (by simp)
   rw [List.getElem?_concat_length] at wc
   refine RunD.flow [13, 14, 15] (by kernel_rfl) (by decide +kernel) (by decide +kernel) (by decide) trivial ?_; (repeat (first | refine execQ_E rfl ?_ | (apply execQ_S rfl; (· (simp -implicitDefEqProofs; exact ⟨rfl, rfl⟩))))); intro hpo
   refine RunD.alt1 17 (by kernel_rfl) (by kernel_rfl) hpo ?_
   (apply AStep.S rfl; (· (simp -implicitDefEqProofs [wc, encD_len, encD_ones]; exact ⟨rfl, rfl⟩)))
   refine RunD.alt1 18 (by kernel_rfl) (by kernel_rfl) (by
    show PendOk _ c26d2 _ _ [15]
    (repeat (first | exact PendOk.nil | (refine PendOk.S rfl rfl ?_ ?_; (· (simp -implicitDefEqProofs; done)))))) ?_
   (apply AStep.S rfl; (· (simp -implicitDefEqProofs; exact ⟨rfl, rfl⟩)))
   refine RunD.fin (by kernel_rfl) (by trivial) ?_
   refine Run.sl _ ?_ (hK (Y.length, W.set Y.length (.row (encD s'))) ⟨hW.put (by simp) _, setG wc _, fun i hi => ?_⟩)
   ·simp
   ·have hne : Y.length ≠ i := by have := hG.lts i hi; omega
    simp only
    rw [setN hne, stW i (by simp only [List.mem_cons] at hi ⊢; exact .inr hi), List.getElem?_append_left (hG.lts i hi)]
 rintro ⟨c, W⟩ ⟨hW, wc, stW⟩
 simp only at hW wc stW ⊢
 obtain ⟨lg2, w2, hr2, -, -, -, -⟩ := hW.row
 have f7 : (encDir lg2 nodes ss.length (lastD ss) kc' ks' (.mp w2))[7]? = some (.int .i64 (lastD ss).kind) := rfl
 have f8 : (encDir lg2 nodes ss.length (lastD ss) kc' ks' (.mp w2))[8]? = some (.int .i64 (lastD ss).phase) := rfl
 have s4 : (encD s')[4]? = some (.int .i64 s'.kind) := rfl
 have s5 : (encD s')[5]? = some (.int .i64 s'.phase) := rfl
 have s4i := (List.getElem?_eq_some_iff.1 s4).2
 have s5i := (List.getElem?_eq_some_iff.1 s5).2
 (repeat (first | refine Run.adm rfl ?_ | refine Run.seq ?_ | ((first | apply Run.opS rfl | apply Run.condS); (· (simp -implicitDefEqProofs; first | exact ⟨rfl, rfl⟩ | exact rfl)))))
 refine Run.sl [(0, .ptr dd 0), (1, .int .i64 frm), (5, .ptr b5 0), (10, .ptr c 0)] (by simp) ?_
 have hsub : ∀ i ∈ L, i ∈ c :: b5 :: L := fun i hi => by simp [hi]
 refine Run.joinP2 (fun (W : List O) => ([(0, .ptr dd 0)], W)) (fun W => DirG X L d dd m nodes (heardD ss s') kc' ks' W ∧ StayL L Y W) ?_ ?_
 rotate_left
 ·intro K hK
  refine Run.quiet prog_mixed (by kernel_rfl) ?_
  have hputs := hW.puts hl hg
  have htk9 : (encD s').take 9 = encD s' := rfl
  have stW0 : StayL L Y W := fun i hi => stW i (by simp [hi])
  by_cases h1 : s'.phase = (lastD ss).phase
  ·by_cases h2 : s'.kind = (lastD ss).kind
   ·(repeat (first | refine execQ_E rfl ?_ | (apply execQ_S rfl; (· (simp -implicitDefEqProofs [wc, hr2, f7, f8, s4, s4i, s5, s5i, h1, h2, encD_len]; exact ⟨rfl, rfl⟩)))))
    (repeat (first | refine Run.adm rfl ?_ | refine Run.seq ?_ | ((first | apply Run.opS rfl | apply Run.condS); (· (simp -implicitDefEqProofs; first | exact ⟨rfl, rfl⟩ | exact rfl)))))
    refine Run.sl _ ?_ (hK W ⟨by rw [heardD, if_neg (by simp [h1, h2])]; exact hW.sub hsub, stW0⟩)
    simp
   ·have e1 : heardD ss s' = ss ++ [s'] := by rw [heardD, if_pos (.inr h2)]
    (repeat (first | refine execQ_E rfl ?_ | (apply execQ_S rfl; (· (simp -implicitDefEqProofs [wc, hr2, f7, f8, s4, s4i, s5, s5i, h1, h2, encD_len]; exact ⟨rfl, rfl⟩)))))
    (repeat (first | refine Run.adm rfl ?_ | refine Run.seq ?_ | ((first | apply Run.opS rfl | apply Run.condS); (· (simp -implicitDefEqProofs [wc, encD_len, htk9]; first | exact ⟨rfl, rfl⟩ | exact rfl)))))
    refine Run.opC rfl rfl rfl hputs ?_
    rintro v W2 ⟨rfl, hW2, st2⟩
    (repeat (first | refine Run.adm rfl ?_ | refine Run.seq ?_ | ((first | apply Run.opS rfl | apply Run.condS); (· (simp -implicitDefEqProofs; first | exact ⟨rfl, rfl⟩ | exact rfl)))))
    refine Run.sl _ ?_ (hK W2 ⟨by rw [e1]; exact hW2.sub hsub, fun i hi => (st2 i (by simp [hi])).trans (stW0 i hi)⟩)
    simp
  ·have e1 : heardD ss s' = ss ++ [s'] := by rw [heardD, if_pos (.inl h1)]
   (repeat (first | refine execQ_E rfl ?_ | (apply execQ_S rfl; (· (simp -implicitDefEqProofs [wc, hr2, f7, f8, s4, s4i, s5, s5i, h1, encD_len]; exact ⟨rfl, rfl⟩)))))
   (repeat (first | refine Run.adm rfl ?_ | refine Run.seq ?_ | ((first | apply Run.opS rfl | apply Run.condS); (· (simp -implicitDefEqProofs [wc, encD_len, htk9]; first | exact ⟨rfl, rfl⟩ | exact rfl)))))
   refine Run.opC rfl rfl rfl hputs ?_
   rintro v W2 ⟨rfl, hW2, st2⟩
   (repeat (first | refine Run.adm rfl ?_ | refine Run.seq ?_ | ((first | apply Run.opS rfl | apply Run.condS); (· (simp -implicitDefEqProofs; first | exact ⟨rfl, rfl⟩ | exact rfl)))))
   refine Run.sl _ ?_ (hK W2 ⟨by rw [e1]; exact hW2.sub hsub, fun i hi => (st2 i (by simp [hi])).trans (stW0 i hi)⟩)
   simp
 rintro W2 ⟨hW2, st2⟩
 simp only at hW2 st2 ⊢
 (repeat (first | refine Run.adm rfl ?_ | refine Run.seq ?_ | ((first | apply Run.opS rfl | apply Run.condS); (· (simp -implicitDefEqProofs; first | exact ⟨rfl, rfl⟩ | exact rfl)))))
 refine Run.opC rfl rfl rfl (ht L W2 hW2) ?_
 rintro v W3 ⟨rfl, hk3⟩
 obtain ⟨g1, g2⟩ := hW2.keep hk3
 (repeat (first | refine Run.adm rfl ?_ | refine Run.seq ?_ | ((first | apply Run.opS rfl | apply Run.condS); (· (simp -implicitDefEqProofs; first | exact ⟨rfl, rfl⟩ | exact rfl)))))
 refine Run.retS Tryz.func26 r26_ok trivial (by simp [r26]; rfl) ?_
 exact ⟨by simp, g1, (st1.trans st2).trans g2⟩
end ops
attribute [local simp ↓] upd_app tl_cons tl_nil
def smN (n : Int) : Prop := 0 ≤ n ∧ n ≤ 1000000
structure SmallD (s : DSt) : Prop where
 nums : ∀ n ∈ [s.move, s.epoch, s.next, s.kind, s.phase, s.shard, s.other, s.node], smN n
 len : s.m.length ≤ 64
 m : ∀ x ∈ s.m, smN x.id ∧ smN x.ep ∧ smN x.node ∧ smN x.st ∧ x.lo.length ≤ 64 ∧ x.hi.length ≤ 64
theorem smN.ok {n : Int} (h : smN n) : nOk n = true := nOk_of (by obtain ⟨h1, h2⟩ := h; omega)
theorem xB_small (s : Bs) (h : s.length ≤ 64) : (xB s).length ≤ 73 := by
 have h1 : ¬ 262144 < s.length := by omega
 have h2 : (xB s).length = (vputM s.length).1.length + s.length := by simp [xB, textM, h1]
 have := vputM_len s.length
 omega
theorem shB_small {x : ShM} (h : x.lo.length ≤ 64 ∧ x.hi.length ≤ 64) : (shB x).length ≤ 182 := by
 have h1 := nB_len x.id
 have h2 := nB_len x.ep
 have h3 := nB_len x.node
 have h4 := nB_len x.st
 have h5 := xB_small x.lo h.1
 have h6 := xB_small x.hi h.2
 simp only [shB, List.length_append]
 omega
theorem flat_small : ∀ (l : List ShM), (∀ x ∈ l, x.lo.length ≤ 64 ∧ x.hi.length ≤ 64) → (l.flatMap shB).length ≤ l.length * 182
 | [], _ => by simp
 | x :: r, h => by
  have h1 := shB_small (h x (by simp))
  have h2 := flat_small r fun y hy => h y (by simp [hy])
  simp only [List.flatMap_cons, List.length_append, List.length_cons]
  omega
theorem SmallD.txt {s : DSt} (h : SmallD s) : TxtOk s := by
 have hn : ∀ n ∈ [s.move, s.epoch, s.next, s.kind, s.phase, s.shard, s.other, s.node], nOk n = true := fun n hn => (h.nums n hn).ok
 simp only [List.mem_cons, List.not_mem_nil, or_false, forall_eq_or_imp, forall_eq] at hn
 obtain ⟨n1, n2, n3, n4, n5, n6, n7, n8⟩ := hn
 have n0 : nOk 0 = true := nOk_of (by decide)
 have n9 : nOk 4 = true := nOk_of (by decide)
 have x0 : xOk [] = true := xOk_of (by simp)
 have hm : s.m.all shOk = true := by
  rw [List.all_eq_true]
  intro x hx
  obtain ⟨a1, a2, a3, a4, a5, a6⟩ := h.m x hx
  simp [shOk, a1.ok, a2.ok, a3.ok, a4.ok, xOk_of (s := x.lo) (by omega), xOk_of (s := x.hi) (by omega)]
 have hl : (s.m.length : Int) ≤ 64 := by have := h.len; omega
 refine ⟨?_, ?_⟩
 ·simp [msgV, msgFit, msgOk, mapMsg, opZ, rpZ, opFit, lFit, fitT, opOk, MsgM.nums, n1, n2, n3, n4, n5, n6, n7, n8, n0, n9, x0, hm, hl]
 ·have b1 := flat_small s.m fun x hx => (h.m x hx).2.2.2.2
  have b2 := h.len
  have x0 : (xB []).length ≤ 73 := xB_small [] (by simp)
  have l4 := nB_len 4
  have l0 := nB_len 0
  have la := nB_len s.shard
  have lb := nB_len s.other
  have lc := nB_len s.epoch
  have ld := nB_len s.node
  have le := nB_len s.next
  have lf := nB_len s.move
  have lg := nB_len s.kind
  have lh := nB_len s.phase
  have li := nB_len s.m.length
  simp only [msgB, tailB, mapMsg, opZ, rpZ, MsgM.nums, opB, hdB, lB, bI, List.flatMap_cons, List.flatMap_nil, List.length_append, List.length_nil, List.append_nil, Nat.add_zero, Int.natCast_zero]
  simp only [Bool.false_eq_true, if_false]
  omega
section ops
variable {X : List O} {L : List Nat} {d dd m : Nat} {nodes : Int} {ss : List DSt} {kc ks : V} {Z : List O}
theorem init_good (hn : 1 ≤ nodes) : GoodS nodes initD where
 txt := SmallD.txt ⟨by intro n hn; simp [initD] at hn; show 0 ≤ n ∧ n ≤ 1000000; omega, by simp [initD], by intro x hx; simp [initD] at hx; subst hx; exact ⟨⟨by decide, by decide⟩, ⟨by decide, by decide⟩, ⟨by decide, by decide⟩, ⟨by decide, by decide⟩, by decide, by decide⟩⟩
 kind := .inl rfl
 cov := by simp [initD, covGo, mayS, ahB]
 nods := by simp [initD, nodeOk]; omega
 fit := .inl ⟨rfl, rfl, rfl, rfl, rfl⟩
 len := by simp [initD]
 num := by simp [initD]
theorem dopen_new {Y : List O} (h : Own X L d ⟨[], -1, false⟩ Y) (hn : 1 ≤ nodes ∧ nodes ≤ 6) :
  Tri Tryz.prog 21 [.ptr d 0, .int .i64 nodes] Y (fun v Z => ∃ dd, v = .tup [.ptr dd 0, .int .i64 0] ∧ DirG X L d dd 0 nodes [initD] .nilp .nilp Z ∧ StayL L Y Z) :=
 (dopen_gen (fs := []) (ss := []) (last := 0) h ⟨List.Pairwise.nil, by simp⟩ (by simp) (by omega) (by simp [opnT]) rfl (by simp) (by simp) (by simp) (init_good hn.1) (init_good hn.1) hn).mono fun v Z ⟨dd, g1, g2, g3⟩ => ⟨dd, g1, ⟨g2, fun s hs => by rw [List.mem_singleton.1 hs]; exact init_good hn.1, by simp, by simp, by omega⟩, g3⟩
theorem dcrash_tri (h : DirG X L d dd m nodes ss kc ks Z) : Tri Tryz.prog 15 [.ptr d 0, .nils] Z (fun v W => v = .int .i64 0 ∧ Own X L d (LD [⟨m, (ss.map textD).flatMap frmB, ((ss.map textD).flatMap frmB).length⟩] (-1) false) W ∧ StayL L Z W) := by
 obtain ⟨⟨lg, w, lts, h1, h2, h3, h4, h5, h6, h7⟩, g1, g2, g3, g4⟩ := h
 have ho := h2.disk.sub (L' := L) (fun i hi => by simp [hi])
 refine (crash0_LD ho ⟨by simp, fun g hg => by simp at hg; rw [hg]; simp only; omega⟩).mono fun v W ⟨e, nf, _, q1, q2⟩ => ⟨e, ?_, q2⟩
 rw [List.map_singleton, cutb_full nf _ rfl] at q1
 exact q1
theorem dagain_tri {W : List O} (h : Own X L d (LD [⟨m, (ss.map textD).flatMap frmB, ((ss.map textD).flatMap frmB).length⟩] (-1) false) W) (hg : ∀ s ∈ ss, GoodS nodes s) (hne : ss ≠ []) (hl : ss.length ≤ 14) (hm : m < 89) (hag : GoodS nodes (againD (lastD ss))) (hn : 1 ≤ nodes ∧ nodes ≤ 6) :
  Tri Tryz.prog 21 [.ptr d 0, .int .i64 nodes] W (fun v Z => ∃ dd, v = .tup [.ptr dd 0, .int .i64 0] ∧ DirG X L d dd (m + 1) nodes [againD (lastD ss)] .nilp .nilp Z ∧ StayL L W Z) := by
 have hts : ∀ t ∈ ss.map textD, t.length ≤ 262144 := by
  intro t ht
  obtain ⟨s, hs, rfl⟩ := List.mem_map.1 ht
  have := (hg s hs).txt.tlen
  omega
 obtain ⟨o1, o2⟩ := openedb (m := m) [] (ss.map textD) ((ss.map textD).flatMap frmB) ((ss.map textD).flatMap frmB).length (by simp) (allF_whole _ hts)
 have hfs := frm_small fun s hs => (hg s hs).txt
 have hlast : GoodS nodes (lastD ss) := by
  obtain ⟨r, x, rfl⟩ : ∃ r x, ss = r ++ [x] := by
   rcases List.eq_nil_or_concat ss with e | ⟨r, x, e⟩
   ·exact absurd e hne
   ·exact ⟨r, x, by rw [e, List.concat_eq_append]⟩
  rw [lastD_snoc]; exact hg x (by simp)
 simp only [HFb, List.mapIdx_nil, List.nil_append, List.length_nil, Nat.add_zero, List.flatten_nil] at o1 o2
 refine (dopen_gen (fs := [⟨m, (ss.map textD).flatMap frmB, ((ss.map textD).flatMap frmB).length⟩]) (ss := ss) (last := m + 1) h ⟨by simp, fun g hg => by simp at hg; rw [hg]; simp only; omega⟩ (by simp) (by omega) o1 o2 (fun f hf => by
  rw [List.mem_singleton.1 hf]; simp only; omega) hg (by omega) hlast hag hn).mono fun v Z ⟨dd, e1, e2, e3⟩ => ⟨dd, e1, ⟨e2, fun s hs => by rw [List.mem_singleton.1 hs]; exact hag, by simp, by simp, by omega⟩, e3⟩
end ops
attribute [local simp ↓] upd_app tl_cons tl_nil
def shI : ShM := ⟨1, [], [], 1, 0, 2⟩
def awS : DSt := ⟨[shI], 2, 2, 4, 5, 1, 1, 0, 0⟩
def awA : ShM := ⟨2, [], [109], 2, 0, 2⟩
def awB : ShM := ⟨3, [109], [], 2, 0, 2⟩
def awE : DSt := ⟨[awA, awB], 2, 2, 4, 0, 0, 0, 0, 0⟩
def awM : MsgM := ⟨14, 0, 0, 0, 0, 5, 2, false, opZ 0 0, rpZ, [awA, awB], [], []⟩
theorem awS_good : GoodS 2 awS where
 txt := SmallD.txt ⟨by intro n hn; simp [awS] at hn; show 0 ≤ n ∧ n ≤ 1000000; omega, by simp [awS], by intro x hx; simp [awS] at hx; subst hx; exact ⟨⟨by decide, by decide⟩, ⟨by decide, by decide⟩, ⟨by decide, by decide⟩, ⟨by decide, by decide⟩, by decide, by decide⟩⟩
 kind := .inr (.inl rfl)
 cov := by simp [awS, shI, covGo, mayS, ahB]
 nods := by simp [awS, shI, nodeOk]
 fit := .inr (.inr ⟨0, shI, by simp [awS, shI, idxI], rfl, by decide, by decide, .inl ⟨rfl, rfl, rfl, rfl⟩⟩)
 len := by simp [awS]
 num := by simp [awS]
theorem awE_good : GoodS 2 awE where
 txt := SmallD.txt ⟨by intro n hn; simp [awE] at hn; show 0 ≤ n ∧ n ≤ 1000000; omega, by simp [awE], by
  intro x hx
  simp [awE] at hx
  rcases hx with rfl | rfl <;> exact ⟨⟨by decide, by decide⟩, ⟨by decide, by decide⟩, ⟨by decide, by decide⟩, ⟨by decide, by decide⟩, by decide, by decide⟩⟩
 kind := .inl rfl
 cov := by simp [awE, awA, awB, covGo, mayS, ahB, Op.bytesLess]
 nods := by simp [awE, awA, awB, nodeOk]
 fit := .inl ⟨rfl, rfl, rfl, rfl, rfl⟩
 len := by simp [awE]
 num := by simp [awE]
theorem aw_split : splitB (lastD [initD]) shI = awS := rfl
theorem aw_ok : SplitOk awS shI awA awB awM := ⟨rfl, rfl, rfl, by decide, ⟨rfl, rfl⟩, rfl, ⟨rfl, rfl, rfl, rfl⟩, by decide, ⟨rfl, rfl⟩⟩
theorem aw_end : overD { awS with m := twoD awS shI awA awB } = awE := rfl
theorem aw_sm : ∀ x ∈ awM.map, x.lo.length ≤ 64 ∧ x.hi.length ≤ 64 := by decide
theorem aw_msg : msgV awM = true := by
 have n0 : nOk 0 = true := nOk_of (by decide)
 have n2 : nOk 2 = true := nOk_of (by decide)
 have n3 : nOk 3 = true := nOk_of (by decide)
 have n5 : nOk 5 = true := nOk_of (by decide)
 have n14 : nOk 14 = true := nOk_of (by decide)
 have x0 : xOk [] = true := xOk_of (by simp)
 have x1 : xOk [109] = true := xOk_of (by simp)
 simp [msgV, msgFit, msgOk, awM, awA, awB, opZ, rpZ, opFit, lFit, fitT, opOk, MsgM.nums, shOk, n0, n2, n3, n5, n14, x0, x1]
theorem aw_big : (msgB awM).length ≤ 70368740000000 := by
 have b1 := flat_small awM.map aw_sm
 have x0 : (xB []).length ≤ 73 := xB_small [] (by simp)
 have n0 := nB_len 0
 have n2 := nB_len 2
 have n5 := nB_len 5
 have n14 := nB_len 14
 simp only [awM, List.length_cons, List.length_nil] at b1
 simp only [msgB, tailB, awM, opZ, rpZ, MsgM.nums, opB, hdB, lB, bI, List.flatMap_cons, List.flatMap_nil, List.length_append, List.length_nil, List.length_cons, List.append_nil, Nat.add_zero, Int.natCast_zero] at b1 ⊢
 simp only [Bool.false_eq_true, if_false] at b1 ⊢
 have := nB_len ((0 + 1 + 1 : Nat) : Int)
 omega
theorem dawake_tri : Tri Tryz.prog 20 [] [] (fun v H => v = .bool true ∧ H = []) := by
 refine Tri.of_run' Tryz.func20 rfl c20_ok (by simp [Tryz.ntmps20]) ?_
 (repeat (first | refine Run.adm rfl ?_ | refine Run.seq ?_ | ((first | apply Run.opS rfl | apply Run.condS); (· (simp -implicitDefEqProofs; first | exact ⟨rfl, rfl⟩ | exact rfl)))))
 refine Run.opC rfl rfl rfl (new_own []) ?_
 rintro v Y0 ⟨d, rfl, h0⟩
 (repeat (first | refine Run.adm rfl ?_ | refine Run.seq ?_ | ((first | apply Run.opS rfl | apply Run.condS); (· (simp -implicitDefEqProofs; first | exact ⟨rfl, rfl⟩ | exact rfl)))))
 refine Run.opC rfl (by simp) rfl (dopen_new h0 (nodes := 2) (by decide)) ?_
 rintro v Y1 ⟨dd, rfl, h1, -⟩
 (repeat (first | refine Run.adm rfl ?_ | refine Run.seq ?_ | ((first | apply Run.opS rfl | apply Run.condS); (· (simp -implicitDefEqProofs; first | exact ⟨rfl, rfl⟩ | exact rfl)))))
 obtain ⟨lg, w, hr, -⟩ := h1.row
 refine Run.opC rfl (by simp) rfl (dbusy_tri hr) ?_
 rintro v H ⟨rfl, e⟩
 replace e := e.symm
 subst e
 rw [show (lastD [initD]).kind = 0 from rfl]
 (repeat (first | refine Run.adm rfl ?_ | refine Run.seq ?_ | ((first | apply Run.opS rfl | apply Run.condS); (· (simp -implicitDefEqProofs; first | exact ⟨rfl, rfl⟩ | exact rfl)))))
 refine Run.opC rfl (by simp) rfl (dsplit_tri h1 (by decide) (x0 := shI) rfl ⟨rfl, rfl⟩ [97] (fun _ => aw_split ▸ awS_good)) ?_
 rintro v Y2 ⟨-, ⟨e, -⟩ | ⟨-, e, -⟩ | ⟨-, -, rfl, h2⟩⟩
 ·exact absurd e (by decide)
 ·exact absurd rfl e
 rw [aw_split] at h2
 (repeat (first | refine Run.adm rfl ?_ | refine Run.seq ?_ | ((first | apply Run.opS rfl | apply Run.condS); (· (simp -implicitDefEqProofs; first | exact ⟨rfl, rfl⟩ | exact rfl)))))
 refine Run.opC rfl (by simp) rfl (dsplit_tri h2 (by decide) (x0 := shI) rfl ⟨rfl, rfl⟩ [97] (fun e => absurd e (by decide))) ?_
 rintro v Y3 ⟨-, ⟨e, -⟩ | ⟨-, -, rfl, h3⟩ | ⟨-, e, -⟩⟩
 ·exact absurd e (by decide)
 rotate_left
 ·exact absurd e (by decide)
 (repeat (first | refine Run.adm rfl ?_ | refine Run.seq ?_ | ((first | apply Run.opS rfl | apply Run.condS); (· (simp -implicitDefEqProofs; first | exact ⟨rfl, rfl⟩ | exact rfl)))))
 obtain ⟨lg3, w3, hr3, -⟩ := h3.row
 refine Run.opC rfl (by simp) rfl (dbusy_tri hr3) ?_
 rintro v H ⟨rfl, e⟩
 replace e := e.symm
 subst e
 rw [show (lastD ([initD] ++ [awS])).kind = 5 from rfl]
 (repeat (first | refine Run.adm rfl ?_ | refine Run.seq ?_ | ((first | apply Run.opS rfl | apply Run.condS); (· (simp -implicitDefEqProofs; first | exact ⟨rfl, rfl⟩ | exact rfl)))))
 refine Run.frzS Y3.length (es := [encSh awA, encSh awB]) (sz := 6) (by simp [awA, awB, encSh]) ?_
 have hle : VsLe (inMsg awM (.vs (awM.map.map encSh) 6)) (encMsg awM) := inMsg_le awM ⟨rfl, rfl, rfl, rfl⟩ (VLe.refl _)
 refine run_to [(1, .ptr d 0), (2, .ptr dd 0), (49, .ptr dd 0), (50, .agg (encMsg awM))] (fun Z => DirG [] [] d dd 0 2 ([initD] ++ [awS]) .nilp .nilp Z) ?_ ?_ ?_
 ·simp
  exact VLe.agg hle
 ·exact (h3.keep (((Kept.refl _ []).app _).set _ _ (.inr (Nat.le_refl _)))).1
 intro Y4 h4
 have hl2 : lastD ([initD] ++ [awS]) = awS := rfl
 have hhe : heardD ([initD] ++ [awS]) awE = [initD] ++ [awS] ++ [awE] := rfl
 have hl3 : lastD ([initD] ++ [awS] ++ [awE]) = awE := rfl
 have hbig : (msgB awM).length ≤ 70368740000000 := aw_big
 refine Run.opC rfl rfl rfl (dhear_tri (frm := 0) (M := awM) (s' := awE) (kc' := .nilp) (ks' := .nilp) (lv := .nils) h4 (by decide) rfl (by decide) aw_msg hbig (by decide) (.inl rfl) rfl (fun L' U hU => ?_) awE_good (fun L' U hU => ?_)) ?_
 ·obtain ⟨lg4, w4, hr4, -⟩ := hU.row
  rw [hl2] at hr4
  refine (splitw_tri (nodes := 2) aw_ok hr4).mono fun v W ⟨e, hk⟩ => ?_
  obtain ⟨q1, q2⟩ := hU.keep hk
  exact ⟨by rw [e, aw_end], q1, q2⟩
 ·obtain ⟨lg4, w4, hr4, -⟩ := hU.row
  rw [hhe, hl3] at hr4
  exact (dtick0_tri hr4 rfl).mono fun v W ⟨e, hW⟩ => ⟨e, by rw [hW]; exact Kept.refl _ _⟩
 rintro v Y5 ⟨rfl, h5, -⟩
 rw [hhe] at h5
 (repeat (first | refine Run.adm rfl ?_ | refine Run.seq ?_ | ((first | apply Run.opS rfl | apply Run.condS); (· (simp -implicitDefEqProofs; first | exact ⟨rfl, rfl⟩ | exact rfl)))))
 refine Run.opC rfl (by simp) rfl (dcrash_tri h5) ?_
 rintro v Y6 ⟨rfl, h6, -⟩
 (repeat (first | refine Run.adm rfl ?_ | refine Run.seq ?_ | ((first | apply Run.opS rfl | apply Run.condS); (· (simp -implicitDefEqProofs; first | exact ⟨rfl, rfl⟩ | exact rfl)))))
 have hgood : ∀ s ∈ [initD] ++ [awS] ++ [awE], GoodS 2 s := by
  intro s hs
  simp only [List.mem_append, List.mem_singleton] at hs
  rcases hs with (rfl | rfl) | rfl
  ·exact init_good (by decide)
  ·exact awS_good
  ·exact awE_good
 refine Run.opC rfl rfl rfl (dagain_tri h6 hgood (by simp) (by decide) (by decide) (by rw [hl3]; exact awE_good) (by decide)) ?_
 rintro v Y7 ⟨dd2, rfl, h7, -⟩
 rw [show againD (lastD ([initD] ++ [awS] ++ [awE])) = awE from rfl] at h7
 obtain ⟨lg7, w7, hr7, -⟩ := h7.row
 rw [show lastD [awE] = awE from rfl] at hr7
 (repeat (first | refine Run.adm rfl ?_ | refine Run.seq ?_ | ((first | apply Run.opS rfl | apply Run.condS); (· (simp -implicitDefEqProofs; first | exact ⟨rfl, rfl⟩ | exact rfl)))))
 refine Run.opC rfl rfl rfl (dmap_tri hr7 (by simp [awE]) (by decide)) ?_
 rintro v H ⟨rfl, e⟩
 replace e := e.symm
 subst e
 rw [show awE.m.map encSh = [encSh awA, encSh awB] from rfl]
 (repeat (first | refine Run.adm rfl ?_ | refine Run.seq ?_ | ((first | apply Run.opS rfl | apply Run.condS); (· (simp -implicitDefEqProofs [encSh, awA, awB]; first | exact ⟨rfl, rfl⟩ | exact rfl)))))
 refine Run.opC rfl (by simp) rfl (dbusy_tri hr7) ?_
 rintro v H ⟨rfl, e⟩
 replace e := e.symm
 subst e
 rw [show awE.kind = 0 from rfl]
 (repeat (first | refine Run.adm rfl ?_ | refine Run.seq ?_ | ((first | apply Run.opS rfl | apply Run.condS); (· (simp -implicitDefEqProofs; first | exact ⟨rfl, rfl⟩ | exact rfl)))))
 refine Run.ret Tryz.func20 r20_ok trivial (by simp -implicitDefEqProofs [r20]; rfl) (fun _ => none) (v' := .bool true) (h' := []) (namesN _) (by simp) ⟨rfl, rfl⟩ trivial
theorem dawake_at (H : List O) : Tri Tryz.prog 20 [] H (fun v H' => v = .bool true ∧ H' = H) := dawake_tri.at rfl rfl H
attribute [local simp ↓] upd_app tl_cons tl_nil
def FirstMax (s : List Int) (k : Nat) : Prop := ∃ m, s[k]? = some m ∧ (∀ x ∈ s, x ≤ m) ∧ ∀ j, j < k → s[j]? ≠ some m
def FirstMin (s : List Int) (k : Nat) : Prop := ∃ m, s[k]? = some m ∧ (∀ x ∈ s, m ≤ x) ∧ ∀ j, j < k → s[j]? ≠ some m
theorem FirstMax.uniq {s : List Int} {k j : Nat} (h : FirstMax s k) (g : FirstMax s j) : k = j := by
 obtain ⟨m, h1, h2, h3⟩ := h
 obtain ⟨n, g1, g2, g3⟩ := g
 have e : m = n := Int.le_antisymm (g2 m (List.mem_of_getElem? h1)) (h2 n (List.mem_of_getElem? g1))
 subst e
 rcases Nat.lt_trichotomy k j with h | h | h
 ·exact absurd h1 (g3 k h)
 ·exact h
 ·exact absurd g1 (h3 j h)
theorem FirstMin.uniq {s : List Int} {k j : Nat} (h : FirstMin s k) (g : FirstMin s j) : k = j := by
 obtain ⟨m, h1, h2, h3⟩ := h
 obtain ⟨n, g1, g2, g3⟩ := g
 have e : m = n := Int.le_antisymm (h2 n (List.mem_of_getElem? g1)) (g2 m (List.mem_of_getElem? h1))
 subst e
 rcases Nat.lt_trichotomy k j with h | h | h
 ·exact absurd h1 (g3 k h)
 ·exact h
 ·exact absurd g1 (h3 j h)
theorem mem_take {α} {s : List α} {i : Nat} {x y : α} (h : s[i]? = some x) (hy : y ∈ s.take (i + 1)) : y ∈ s.take i ∨ y = x := by
 rw [List.take_add_one, h] at hy
 simpa using hy
section lists
variable {U : List O} {id : Nat} {s : List Int} {q : Option Nat}
theorem max_at (h : U[id]? = some (.arr (s.map encN) 1)) (hne : s ≠ []) (hl : s.length ≤ 1000) :
  Tri Tryz.prog 66 [.sl id 0 s.length 1 q] U (fun v W => (∃ m, v = .int .i64 m ∧ m ∈ s ∧ ∀ x ∈ s, x ≤ m) ∧ W = U) := by
 obtain ⟨x0, r, hs⟩ : ∃ x r, s = x :: r := by
  cases s with
  | nil => exact absurd rfl hne
  | cons x r => exact ⟨x, r, rfl⟩
 have hpos : 0 < s.length := by rw [hs]; simp
 have hn1 : ¬ (s.length : Int) < 1 := by omega
 have h0 : s[0]? = some x0 := by rw [hs]; rfl
 have h0i := (List.getElem?_eq_some_iff.1 h0).2
 refine Tri.of_run' Tryz.func66 rfl c66_ok (by simp [Tryz.ntmps66]) ?_
 (repeat (first | refine Run.adm rfl ?_ | refine Run.seq ?_ | ((first | apply Run.opS rfl | apply Run.condS); (· (simp -implicitDefEqProofs [h, hn1, hpos, h0, h0i, encN]; first | exact ⟨rfl, rfl⟩ | exact rfl)))))
 refine Run.sl [(0, .sl id 0 s.length 1 q), (3, .int .i64 x0), (4, .int .i64 (1 : Nat))] (by simp) ?_
 refine Run.loopS (fun (x : Nat × Int) => ([(0, .sl id 0 s.length 1 q), (3, .int .i64 x.2), (4, .int .i64 x.1)], U)) (fun x => x.1 ≤ s.length ∧ 1 ≤ x.1 ∧ x.2 ∈ s.take x.1 ∧ ∀ y ∈ s.take x.1, y ≤ x.2) (fun x => s.length - x.1) ?_ (1, x0)
  ⟨by simp only; omega, Nat.le_refl _, by rw [hs]; simp, by rw [hs]; intro y hy; simp at hy; rw [hy]; exact Int.le_refl _⟩
 rintro ⟨i, m⟩ ⟨hi, h1, hm, hall⟩ ih
 simp only at hi h1 hm hall ih ⊢
 by_cases hlt : i < s.length
 ·obtain ⟨x, hx, hxi, -, -⟩ := getL hlt
  have hlt' : (i : Int) < s.length := by omega
  have hw := wrap_small (n := (i : Int) + 1) (by omega) (by omega)
  (repeat (first | refine Run.adm rfl ?_ | refine Run.seq ?_ | ((first | apply Run.opS rfl | apply Run.condS); (· (simp -implicitDefEqProofs [hlt, hlt', hx, hxi, h, encN]; first | exact ⟨rfl, rfl⟩ | exact rfl)))))
  refine Run.sl _ ?_ (ih (i + 1, if m < x then x else m) ⟨by simp only; omega, by simp only; omega, ?_, ?_⟩ (by simp only; omega))
  ·simp [hw]
  ·simp only; rw [List.take_add_one, hx]
   split
   ·simp
   ·simp [hm]
  ·intro y hy
   simp only
   rcases mem_take hx hy with hy | rfl
   ·have := hall y hy
    split <;> omega
   ·split <;> omega
 ·have : i = s.length := by omega
  subst this
  rw [List.take_length] at hm hall
  (repeat (first | refine Run.adm rfl ?_ | refine Run.seq ?_ | ((first | apply Run.opS rfl | apply Run.condS); (· (simp -implicitDefEqProofs; first | exact ⟨rfl, rfl⟩ | exact rfl)))))
  refine Run.retS Tryz.func66 r66_ok trivial (by simp [r66]; rfl) ?_
  exact ⟨⟨m, by simp, hm, hall⟩, rfl⟩
theorem min_at (h : U[id]? = some (.arr (s.map encN) 1)) (hne : s ≠ []) (hl : s.length ≤ 1000) :
  Tri Tryz.prog 67 [.sl id 0 s.length 1 q] U (fun v W => (∃ m, v = .int .i64 m ∧ m ∈ s ∧ ∀ x ∈ s, m ≤ x) ∧ W = U) := by
 obtain ⟨x0, r, hs⟩ : ∃ x r, s = x :: r := by
  cases s with
  | nil => exact absurd rfl hne
  | cons x r => exact ⟨x, r, rfl⟩
 have hpos : 0 < s.length := by rw [hs]; simp
 have hn1 : ¬ (s.length : Int) < 1 := by omega
 have h0 : s[0]? = some x0 := by rw [hs]; rfl
 have h0i := (List.getElem?_eq_some_iff.1 h0).2
 refine Tri.of_run' Tryz.func67 rfl c67_ok (by simp [Tryz.ntmps67]) ?_
 (repeat (first | refine Run.adm rfl ?_ | refine Run.seq ?_ | ((first | apply Run.opS rfl | apply Run.condS); (· (simp -implicitDefEqProofs [h, hn1, hpos, h0, h0i, encN]; first | exact ⟨rfl, rfl⟩ | exact rfl)))))
 refine Run.sl [(0, .sl id 0 s.length 1 q), (3, .int .i64 x0), (4, .int .i64 (1 : Nat))] (by simp) ?_
 refine Run.loopS (fun (x : Nat × Int) => ([(0, .sl id 0 s.length 1 q), (3, .int .i64 x.2), (4, .int .i64 x.1)], U)) (fun x => x.1 ≤ s.length ∧ 1 ≤ x.1 ∧ x.2 ∈ s.take x.1 ∧ ∀ y ∈ s.take x.1, x.2 ≤ y) (fun x => s.length - x.1) ?_ (1, x0)
  ⟨by simp only; omega, Nat.le_refl _, by rw [hs]; simp, by rw [hs]; intro y hy; simp at hy; rw [hy]; exact Int.le_refl _⟩
 rintro ⟨i, m⟩ ⟨hi, h1, hm, hall⟩ ih
 simp only at hi h1 hm hall ih ⊢
 by_cases hlt : i < s.length
 ·obtain ⟨x, hx, hxi, -, -⟩ := getL hlt
  have hlt' : (i : Int) < s.length := by omega
  have hw := wrap_small (n := (i : Int) + 1) (by omega) (by omega)
  (repeat (first | refine Run.adm rfl ?_ | refine Run.seq ?_ | ((first | apply Run.opS rfl | apply Run.condS); (· (simp -implicitDefEqProofs [hlt, hlt', hx, hxi, h, encN]; first | exact ⟨rfl, rfl⟩ | exact rfl)))))
  refine Run.sl _ ?_ (ih (i + 1, if x < m then x else m) ⟨by simp only; omega, by simp only; omega, ?_, ?_⟩ (by simp only; omega))
  ·simp [hw]
  ·simp only; rw [List.take_add_one, hx]
   split
   ·simp
   ·simp [hm]
  ·intro y hy
   simp only
   rcases mem_take hx hy with hy | rfl
   ·have := hall y hy
    split <;> omega
   ·split <;> omega
 ·have : i = s.length := by omega
  subst this
  rw [List.take_length] at hm hall
  (repeat (first | refine Run.adm rfl ?_ | refine Run.seq ?_ | ((first | apply Run.opS rfl | apply Run.condS); (· (simp -implicitDefEqProofs; first | exact ⟨rfl, rfl⟩ | exact rfl)))))
  refine Run.retS Tryz.func67 r67_ok trivial (by simp [r67]; rfl) ?_
  exact ⟨⟨m, by simp, hm, hall⟩, rfl⟩
theorem index_at {x : Int} (h : U[id]? = some (.arr (s.map encN) 1)) (hx : x ∈ s) (hl : s.length ≤ 1000) :
  Tri Tryz.prog 65 [.sl id 0 s.length 1 q, .int .i64 x] U (fun v W => (∃ k : Nat, v = .int .i64 k ∧ s[k]? = some x ∧ ∀ j, j < k → s[j]? ≠ some x) ∧ W = U) := by
 refine Tri.of_run' Tryz.func65 rfl c65_ok (by simp [Tryz.ntmps65]) ?_
 (repeat (first | refine Run.adm rfl ?_ | refine Run.seq ?_ | ((first | apply Run.opS rfl | apply Run.condS); (· (simp -implicitDefEqProofs; first | exact ⟨rfl, rfl⟩ | exact rfl)))))
 refine Run.sl [(0, .sl id 0 s.length 1 q), (1, .int .i64 x), (7, .int .i64 s.length), (8, .int .i64 (0 : Nat))] (by simp) ?_
 refine Run.loopS (fun (i : Nat) => ([(0, .sl id 0 s.length 1 q), (1, .int .i64 x), (7, .int .i64 s.length), (8, .int .i64 i)], U)) (fun i => i ≤ s.length ∧ ∀ j, j < i → s[j]? ≠ some x) (fun i => s.length - i) ?_ 0 ⟨Nat.zero_le _, fun j hj => by omega⟩
 rintro i ⟨hi, hno⟩ ih
 by_cases hlt : i < s.length
 ·obtain ⟨y, hy, hyi, -, -⟩ := getL hlt
  have hlt' : (i : Int) < s.length := by omega
  have hw := wrap_small (n := (i : Int) + 1) (by omega) (by omega)
  by_cases he : x = y
  ·(repeat (first | refine Run.adm rfl ?_ | refine Run.seq ?_ | ((first | apply Run.opS rfl | apply Run.condS); (· (simp -implicitDefEqProofs [hlt, hlt', hy, hyi, h, encN, he]; first | exact ⟨rfl, rfl⟩ | exact rfl)))))
   refine Run.retS Tryz.func65 r65_ok trivial (by simp [r65]; rfl) ?_
   exact ⟨⟨i, by simp, by rw [hy, he], hno⟩, rfl⟩
  ·(repeat (first | refine Run.adm rfl ?_ | refine Run.seq ?_ | ((first | apply Run.opS rfl | apply Run.condS); (· (simp -implicitDefEqProofs [hlt, hlt', hy, hyi, h, encN, he]; first | exact ⟨rfl, rfl⟩ | exact rfl)))))
   refine Run.sl _ ?_ (ih (i + 1) ⟨by omega, fun j hj => ?_⟩ (by omega))
   ·simp [hw]
   ·rcases Nat.lt_or_ge j i with hj' | hj'
    ·exact hno j hj'
    ·have : j = i := by omega
     subst this
     rw [hy]; intro e; exact he (Option.some.inj e).symm
 ·obtain ⟨k, hk⟩ := List.getElem?_of_mem hx
  exact absurd hk (hno k (by have := (List.getElem?_eq_some_iff.1 hk).1; omega))
theorem max_an {n : Nat} (hn : s.length = n) (h : U[id]? = some (.arr (s.map encN) 1)) (hne : s ≠ []) (hl : s.length ≤ 1000) :
  Tri Tryz.prog 66 [.sl id 0 n 1 q] U (fun v W => (∃ m, v = .int .i64 m ∧ m ∈ s ∧ ∀ x ∈ s, x ≤ m) ∧ W = U) := hn ▸ max_at h hne hl
theorem min_an {n : Nat} (hn : s.length = n) (h : U[id]? = some (.arr (s.map encN) 1)) (hne : s ≠ []) (hl : s.length ≤ 1000) :
  Tri Tryz.prog 67 [.sl id 0 n 1 q] U (fun v W => (∃ m, v = .int .i64 m ∧ m ∈ s ∧ ∀ x ∈ s, m ≤ x) ∧ W = U) := hn ▸ min_at h hne hl
theorem index_an {n : Nat} (hn : s.length = n) {x : Int} (h : U[id]? = some (.arr (s.map encN) 1)) (hx : x ∈ s) (hl : s.length ≤ 1000) :
  Tri Tryz.prog 65 [.sl id 0 n 1 q, .int .i64 x] U (fun v W => (∃ k : Nat, v = .int .i64 k ∧ s[k]? = some x ∧ ∀ j, j < k → s[j]? ≠ some x) ∧ W = U) := hn ▸ index_at h hx hl
end lists
attribute [local simp ↓] upd_app tl_cons tl_nil
def adOk (nodes : Int) (p : ShM × Int) : Bool := decide (0 ≤ p.1.node) && decide (p.1.node < nodes) && decide (0 ≤ p.2) && decide (p.2 ≤ 1099511627775)
def sumK (ps : List (ShM × Int)) (k : Nat) : Int := (ps.map fun p => if p.1.node = (k : Int) then p.2 else 0).sum
def manyK (ps : List (ShM × Int)) (k : Nat) : Int := (ps.map fun p => if p.1.node = (k : Int) then 1 else 0).sum
def sums (n : Nat) (ps : List (ShM × Int)) : List Int := (List.range n).map (sumK ps)
def manys (n : Nat) (ps : List (ShM × Int)) : List Int := (List.range n).map (manyK ps)
theorem sums_len (n ps) : (sums n ps).length = n := by simp [sums]
theorem manys_len (n ps) : (manys n ps).length = n := by simp [manys]
theorem sumK_snoc (ps p k) : sumK (ps ++ [p]) k = sumK ps k + if p.1.node = (k : Int) then p.2 else 0 := by simp [sumK]
theorem manyK_snoc (ps p k) : manyK (ps ++ [p]) k = manyK ps k + if p.1.node = (k : Int) then 1 else 0 := by simp [manyK]
theorem sums_get {n ps} {k : Nat} (h : k < n) : (sums n ps)[k]? = some (sumK ps k) := by simp [sums, h]
theorem manys_get {n ps} {k : Nat} (h : k < n) : (manys n ps)[k]? = some (manyK ps k) := by simp [manys, h]
theorem sums_set {n : Nat} {ps : List (ShM × Int)} {p : ShM × Int} {k : Nat} (hk : p.1.node = (k : Int)) (h : k < n) : (sums n ps).set k (sumK ps k + p.2) = sums n (ps ++ [p]) := by
 apply List.ext_getElem?
 intro j
 by_cases hj : j = k
 ·subst hj
  rw [List.getElem?_set_self (by simpa [sums] using h), sums_get h, sumK_snoc, if_pos hk]
 ·rw [List.getElem?_set_ne (Ne.symm hj)]
  by_cases hjn : j < n
  ·rw [sums_get hjn, sums_get hjn, sumK_snoc, if_neg (by rw [hk]; omega)]; simp
  ·rw [List.getElem?_eq_none (by simp [sums]; omega), List.getElem?_eq_none (by simp [sums]; omega)]
theorem manys_set {n : Nat} {ps : List (ShM × Int)} {p : ShM × Int} {k : Nat} (hk : p.1.node = (k : Int)) (h : k < n) : (manys n ps).set k (manyK ps k + 1) = manys n (ps ++ [p]) := by
 apply List.ext_getElem?
 intro j
 by_cases hj : j = k
 ·subst hj
  rw [List.getElem?_set_self (by simpa [manys] using h), manys_get h, manyK_snoc, if_pos hk]
 ·rw [List.getElem?_set_ne (Ne.symm hj)]
  by_cases hjn : j < n
  ·rw [manys_get hjn, manys_get hjn, manyK_snoc, if_neg (by rw [hk]; omega)]; simp
  ·rw [List.getElem?_eq_none (by simp [manys]; omega), List.getElem?_eq_none (by simp [manys]; omega)]
theorem sumK_le {nodes : Int} : ∀ {ps : List (ShM × Int)}, (∀ p ∈ ps, adOk nodes p = true) → ∀ k, 0 ≤ sumK ps k ∧ sumK ps k ≤ ps.length * 1099511627775
 | [], _, k => by simp [sumK]
 | p :: r, h, k => by
  have h1 := h p (by simp)
  have h2 := sumK_le (ps := r) (fun x hx => h x (by simp [hx])) k
  simp only [adOk, Bool.and_eq_true, decide_eq_true_eq] at h1
  have e : sumK (p :: r) k = (if p.1.node = (k : Int) then p.2 else 0) + sumK r k := by simp [sumK]
  rw [e, List.length_cons]
  split <;> (push_cast; omega)
theorem manyK_le : ∀ (ps : List (ShM × Int)) k, 0 ≤ manyK ps k ∧ manyK ps k ≤ ps.length
 | [], k => by simp [manyK]
 | p :: r, k => by
  have h2 := manyK_le r k
  have e : manyK (p :: r) k = (if p.1.node = (k : Int) then 1 else 0) + manyK r k := by simp [manyK]
  rw [e, List.length_cons]
  split <;> (push_cast; omega)
theorem sumK_some {ps : List (ShM × Int)} {k : Nat} (h : sumK ps k ≠ 0) : ∃ p ∈ ps, p.1.node = (k : Int) := by
 induction ps with
 | nil => exact absurd rfl h
 | cons p r ih =>
  by_cases hp : p.1.node = (k : Int)
  ·exact ⟨p, by simp, hp⟩
  ·have e : sumK (p :: r) k = sumK r k := by simp [sumK, hp]
   rw [e] at h
   obtain ⟨y, hy, h2⟩ := ih h
   exact ⟨y, by simp [hy], h2⟩
def hotGo (s : List Int) : Nat → Nat
 | 0 => 0
 | i + 1 => if s.getD (hotGo s i) 0 < s.getD i 0 then i else hotGo s i
def coldGo (s : List Int) : Nat → Nat
 | 0 => 0
 | i + 1 => if s.getD i 0 < s.getD (coldGo s i) 0 then i else coldGo s i
theorem hotGo_lt {s : List Int} (h : s ≠ []) : ∀ i, i ≤ s.length → hotGo s i < s.length
 | 0, _ => List.length_pos_iff.2 h
 | i + 1, hi => by
  have := hotGo_lt h i (by omega)
  simp only [hotGo]; split <;> omega
theorem coldGo_lt {s : List Int} (h : s ≠ []) : ∀ i, i ≤ s.length → coldGo s i < s.length
 | 0, _ => List.length_pos_iff.2 h
 | i + 1, hi => by
  have := coldGo_lt h i (by omega)
  simp only [coldGo]; split <;> omega
theorem hotGo_inv (s : List Int) : ∀ i, i ≤ s.length → (∀ j, j < i → s.getD j 0 ≤ s.getD (hotGo s i) 0) ∧ ∀ j, j < hotGo s i → s.getD j 0 < s.getD (hotGo s i) 0
 | 0, _ => ⟨fun j hj => by omega, fun j hj => by simp [hotGo] at hj⟩
 | i + 1, hi => by
  obtain ⟨h1, h2⟩ := hotGo_inv s i (by omega)
  simp only [hotGo]
  split
  ·rename_i h
   refine ⟨fun j hj => ?_, fun j hj => ?_⟩
   ·rcases Nat.lt_or_ge j i with hj' | hj'
    ·have := h1 j hj'; omega
    ·have : j = i := by omega
     subst this; exact Int.le_refl _
   ·have := h1 j hj; omega
  ·rename_i h
   refine ⟨fun j hj => ?_, h2⟩
   rcases Nat.lt_or_ge j i with hj' | hj'
   ·exact h1 j hj'
   ·have : j = i := by omega
    subst this; omega
theorem coldGo_inv (s : List Int) : ∀ i, i ≤ s.length → (∀ j, j < i → s.getD (coldGo s i) 0 ≤ s.getD j 0) ∧ ∀ j, j < coldGo s i → s.getD (coldGo s i) 0 < s.getD j 0
 | 0, _ => ⟨fun j hj => by omega, fun j hj => by simp [coldGo] at hj⟩
 | i + 1, hi => by
  obtain ⟨h1, h2⟩ := coldGo_inv s i (by omega)
  simp only [coldGo]
  split
  ·rename_i h
   refine ⟨fun j hj => ?_, fun j hj => ?_⟩
   ·rcases Nat.lt_or_ge j i with hj' | hj'
    ·have := h1 j hj'; omega
    ·have : j = i := by omega
     subst this; exact Int.le_refl _
   ·have := h1 j hj; omega
  ·rename_i h
   refine ⟨fun j hj => ?_, h2⟩
   rcases Nat.lt_or_ge j i with hj' | hj'
   ·exact h1 j hj'
   ·have : j = i := by omega
    subst this; omega
theorem hot_first {s : List Int} (h : s ≠ []) : FirstMax s (hotGo s s.length) := by
 have hl := hotGo_lt h s.length (Nat.le_refl _)
 obtain ⟨h1, h2⟩ := hotGo_inv s s.length (Nat.le_refl _)
 have hg : s[hotGo s s.length]? = some (s.getD (hotGo s s.length) 0) := by
  rw [List.getD_eq_getElem?_getD, List.getElem?_eq_getElem hl]; rfl
 refine ⟨_, hg, fun x hx => ?_, fun j hj e => ?_⟩
 ·obtain ⟨j, hj⟩ := List.getElem?_of_mem hx
  have := h1 j (List.getElem?_eq_some_iff.1 hj).1
  rwa [List.getD_eq_getElem?_getD, hj] at this
 ·have := h2 j hj
  rw [List.getD_eq_getElem?_getD, e] at this
  simp at this
theorem cold_first {s : List Int} (h : s ≠ []) : FirstMin s (coldGo s s.length) := by
 have hl := coldGo_lt h s.length (Nat.le_refl _)
 obtain ⟨h1, h2⟩ := coldGo_inv s s.length (Nat.le_refl _)
 have hg : s[coldGo s s.length]? = some (s.getD (coldGo s s.length) 0) := by
  rw [List.getD_eq_getElem?_getD, List.getElem?_eq_getElem hl]; rfl
 refine ⟨_, hg, fun x hx => ?_, fun j hj e => ?_⟩
 ·obtain ⟨j, hj⟩ := List.getElem?_of_mem hx
  have := h1 j (List.getElem?_eq_some_iff.1 hj).1
  have e : s.getD j 0 = x := by rw [List.getD_eq_getElem?_getD, hj]; rfl
  rwa [e] at this
 ·have := h2 j hj
  have e2 : s.getD j 0 = s.getD (coldGo s s.length) 0 := by rw [List.getD_eq_getElem?_getD, e]; rfl
  omega
def bestGo (l : List ShM) (lo : List Int) (hot : Int) : Nat → Int
 | 0 => -1
 | i + 1 => if ((l[i]?.map ShM.node).getD (-1) = hot ∧ (bestGo l lo hot i < 0 ∨ lo.getD (bestGo l lo hot i).toNat 0 < lo.getD i 0)) then i else bestGo l lo hot i
theorem bestGo_lt (l lo hot) : ∀ i, bestGo l lo hot i < i ∧ -1 ≤ bestGo l lo hot i
 | 0 => by simp [bestGo]
 | i + 1 => by
  have := bestGo_lt l lo hot i
  simp only [bestGo]; split <;> omega
theorem bestGo_some {l : List ShM} {lo : List Int} {hot : Int} : ∀ {i j : Nat} {x : ShM}, l[j]? = some x → x.node = hot → j < i → 0 ≤ bestGo l lo hot i
 | 0, _, _, _, _, h => by omega
 | i + 1, j, x, hx, hn, h => by
  simp only [bestGo]
  rcases Nat.lt_or_ge j i with hj | hj
  ·have := bestGo_some (lo := lo) hx hn hj
   split <;> omega
  ·have : j = i := by omega
   subst this
   split
   ·omega
   ·rename_i hc
    rw [hx] at hc
    simp only [Option.map_some, Option.getD_some, hn, true_and, not_or] at hc
    omega
def advV (kind n : Int) (key : Bs) : V := .agg [.int .i64 kind, .int .i64 0, .int .i64 n, .str key, .nils, .int .i64 0, .str [], .str [], .str [], .bool false, .nils, .str [], .str [], .int .i64 0]
def keyA (s : Bs) : Bs := if s = [] then [0] else s
def adviseN (l : List ShM) (lo : List Int) (s m : List Int) : V :=
 if s.getD (hotGo s s.length) 0 ≤ 2 * s.getD (coldGo s s.length) 0 + 8 then .tup [advV 0 0 [], .bool false] else
 if 1 < m.getD (hotGo s s.length) 0 ∧ lo.getD (bestGo l lo (hotGo s s.length) l.length).toNat 0 + s.getD (coldGo s s.length) 0 < s.getD (hotGo s s.length) 0 then
  .tup [advV 4 (coldGo s s.length) (keyA ((l[(bestGo l lo (hotGo s s.length) l.length).toNat]?.map ShM.lo).getD [])), .bool true]
 else .tup [advV 2 0 (keyA ((l[(bestGo l lo (hotGo s s.length) l.length).toNat]?.map ShM.lo).getD [])), .bool true]
def adviseM (l : List ShM) (lo : List Int) (nodes : Int) : V :=
 if l.length ≠ lo.length ∨ nodes < 1 ∨ 6 < nodes ∨ 64 < l.length ∨ (l.zip lo).all (adOk nodes) = false then .tup [advV 0 0 [], .bool false] else
 adviseN l lo (sums nodes.toNat (l.zip lo)) (manys nodes.toNat (l.zip lo))
attribute [local simp ↓] upd_app tl_cons tl_nil
theorem adviseM_bad {l lo nodes} (h : l.length ≠ lo.length ∨ nodes < 1 ∨ 6 < nodes ∨ 64 < l.length ∨ (l.zip lo).all (adOk nodes) = false) : adviseM l lo nodes = .tup [advV 0 0 [], .bool false] := by rw [adviseM, if_pos h]
theorem zip_get {l : List ShM} {lo : List Int} {i : Nat} {x : ShM} {n : Int} (hx : l[i]? = some x) (hn : lo[i]? = some n) : (l.zip lo)[i]? = some (x, n) := by
 rw [List.getElem?_zip_eq_some]; exact ⟨hx, hn⟩
theorem zip_take {l : List ShM} {lo : List Int} {i : Nat} {p : ShM × Int} (h : (l.zip lo)[i]? = some p) : (l.zip lo).take (i + 1) = (l.zip lo).take i ++ [p] := by rw [List.take_add_one, h]; rfl
theorem zip_bad {l : List ShM} {lo : List Int} {nodes : Int} {i : Nat} {p : ShM × Int} (h : (l.zip lo)[i]? = some p) (hb : adOk nodes p = false) : (l.zip lo).all (adOk nodes) = false := by
 rw [Bool.eq_false_iff]; intro hh
 have := List.all_eq_true.1 hh p (List.mem_of_getElem? h)
 rw [hb] at this; cases this
theorem sums0 (n) : sums n [] = List.replicate n 0 := List.eq_replicate_iff.2 ⟨by simp [sums], fun b hb => by obtain ⟨k, -, rfl⟩ := List.mem_map.1 hb; rfl⟩
theorem manys0 (n) : manys n [] = List.replicate n 0 := List.eq_replicate_iff.2 ⟨by simp [manys], fun b hb => by obtain ⟨k, -, rfl⟩ := List.mem_map.1 hb; rfl⟩
set_option maxHeartbeats 4000000 in
theorem dadvise_tri (l : List ShM) (lo : List Int) (nodes : Int) (hl : l.length ≤ 70) (hlo : lo.length ≤ 70) :
  Tri Tryz.prog 32 [.vs (l.map encSh) 6, .vs (lo.map encN) 1, .int .i64 nodes] [] (fun v H => v = adviseM l lo nodes ∧ H = []) := by
 refine Tri.of_run' Tryz.func32 rfl c32_ok (by simp [Tryz.ntmps32]) ?_
 by_cases hlen : l.length = lo.length
 rotate_left
 ·have h2 : ¬ (l.length : Int) = lo.length := by omega
  (repeat (first | refine Run.adm rfl ?_ | refine Run.seq ?_ | ((first | apply Run.opS rfl | apply Run.condS); (· (simp -implicitDefEqProofs [hlen, h2]; first | exact ⟨rfl, rfl⟩ | exact rfl)))))
  rw [adviseM_bad (.inl hlen)]
  refine Run.ret Tryz.func32 r32_ok trivial (by simp -implicitDefEqProofs [r32, advV]; rfl) (fun _ => none) (v' := .tup [advV 0 0 [], .bool false]) (h' := []) (namesN _) (by simp [advV]) ⟨rfl, rfl⟩ trivial
 have hlenI : (l.length : Int) = lo.length := by omega
 by_cases hn1 : nodes < 1
 ·(repeat (first | refine Run.adm rfl ?_ | refine Run.seq ?_ | ((first | apply Run.opS rfl | apply Run.condS); (· (simp -implicitDefEqProofs [hlen, hlenI, hn1]; first | exact ⟨rfl, rfl⟩ | exact rfl)))))
  rw [adviseM_bad (.inr (.inl hn1))]
  refine Run.ret Tryz.func32 r32_ok trivial (by simp -implicitDefEqProofs [r32, advV]; rfl) (fun _ => none) (v' := .tup [advV 0 0 [], .bool false]) (h' := []) (namesN _) (by simp [advV]) ⟨rfl, rfl⟩ trivial
 by_cases hn2 : 6 < nodes
 ·(repeat (first | refine Run.adm rfl ?_ | refine Run.seq ?_ | ((first | apply Run.opS rfl | apply Run.condS); (· (simp -implicitDefEqProofs [hlen, hlenI, hn1, hn2]; first | exact ⟨rfl, rfl⟩ | exact rfl)))))
  rw [adviseM_bad (.inr (.inr (.inl hn2)))]
  refine Run.ret Tryz.func32 r32_ok trivial (by simp -implicitDefEqProofs [r32, advV]; rfl) (fun _ => none) (v' := .tup [advV 0 0 [], .bool false]) (h' := []) (namesN _) (by simp [advV]) ⟨rfl, rfl⟩ trivial
 obtain ⟨n, rfl⟩ : ∃ n : Nat, nodes = n := ⟨nodes.toNat, by omega⟩
 have hn3 : (n : Int) ≤ 70368744177664 := by omega
 have hn4 : (n : Int) * 8 ≤ 70368744177664 := by omega
 (repeat (first | refine Run.adm rfl ?_ | refine Run.seq ?_ | ((first | apply Run.opS rfl | apply Run.condS); (· (simp -implicitDefEqProofs [hlen, hlenI, hn1, hn2, hn3, hn4]; first | exact ⟨rfl, rfl⟩ | exact rfl)))))
 have hpos : 0 < n := by omega
 refine Run.loopC [0, 1, 2] (fun (i : Nat) => ([(0, .vs (l.map encSh) 6), (1, .vs (lo.map encN) 1), (2, .int .i64 n), (6, .ptr 0 0), (7, .bool false), (8, .sl 1 0 n 1 (some n)), (9, .sl 2 0 n 1 (some n)), (36, .vs (l.map encSh) 6), (37, .int .i64 lo.length), (38, .int .i64 i)],
   [.row [.int .i64 0, .int .i64 0, .int .i64 0, .str [], .nils, .int .i64 0, .str [], .str [], .str [], .bool false, .nils, .str [], .str [], .int .i64 0], .arr ((sums n ((l.zip lo).take i)).map encN) 1, .arr ((manys n ((l.zip lo).take i)).map encN) 1]))
  (fun i => i ≤ l.length ∧ ((l.zip lo).take i).all (adOk n) = true ∧ (0 < i → l.length ≤ 64)) (fun i => l.length - i) 0 ⟨Nat.zero_le _, rfl, fun h => by omega⟩ (by rfl) (by decide) (by simp) (by simp [sums0, manys0, encN]) ?_
 ·rintro i ⟨hi, hall, h64⟩ ih
  by_cases hlt : i < l.length
  ·obtain ⟨x, hx, hxi, -, -⟩ := getL hlt
   have hlt2 : i < lo.length := by omega
   obtain ⟨ld, hd, hdi, -, -⟩ := getL hlt2
   have hlt' : (i : Int) < lo.length := by omega
   have hlt'' : (i : Int) < l.length := by omega
   have hz := zip_get hx hd
   have hw := wrap_small (n := (i : Int) + 1) (by omega) (by omega)
   obtain ⟨ps, hps⟩ : ∃ ps, ps = (l.zip lo).take i := ⟨_, rfl⟩
   have hpl : ps.length ≤ 70 := by rw [hps]; simp; omega
   have hsn := zip_take hz
   rw [← hps] at hsn hall
   by_cases b1 : x.node < 0
   ·(repeat (first | refine Run.adm rfl ?_ | refine Run.seq ?_ | ((first | apply Run.opS rfl | apply Run.condS); (· (simp -implicitDefEqProofs [hlt, hlt', hlt'', hlt2, hx, hxi, encSh, b1]; first | exact ⟨rfl, rfl⟩ | exact rfl)))))
    rw [adviseM_bad (.inr (.inr (.inr (.inr (zip_bad hz (by simp [adOk]; omega))))))]
    refine Run.ret Tryz.func32 r32_ok trivial (by simp -implicitDefEqProofs [r32, advV]; rfl) (fun _ => none) (v' := .tup [advV 0 0 [], .bool false]) (h' := []) (namesN _) (by simp [advV]) ⟨rfl, rfl⟩ trivial
   by_cases b2 : (n : Int) ≤ x.node
   ·(repeat (first | refine Run.adm rfl ?_ | refine Run.seq ?_ | ((first | apply Run.opS rfl | apply Run.condS); (· (simp -implicitDefEqProofs [hlt, hlt', hlt'', hlt2, hx, hxi, encSh, b1, b2]; first | exact ⟨rfl, rfl⟩ | exact rfl)))))
    rw [adviseM_bad (.inr (.inr (.inr (.inr (zip_bad hz (by simp [adOk]; omega))))))]
    refine Run.ret Tryz.func32 r32_ok trivial (by simp -implicitDefEqProofs [r32, advV]; rfl) (fun _ => none) (v' := .tup [advV 0 0 [], .bool false]) (h' := []) (namesN _) (by simp [advV]) ⟨rfl, rfl⟩ trivial
   by_cases b3 : ld < 0
   ·(repeat (first | refine Run.adm rfl ?_ | refine Run.seq ?_ | ((first | apply Run.opS rfl | apply Run.condS); (· (simp -implicitDefEqProofs [hlt, hlt', hlt'', hlt2, hx, hxi, hd, hdi, encN, encSh, b1, b2, b3]; first | exact ⟨rfl, rfl⟩ | exact rfl)))))
    rw [adviseM_bad (.inr (.inr (.inr (.inr (zip_bad hz (by simp [adOk]; omega))))))]
    refine Run.ret Tryz.func32 r32_ok trivial (by simp -implicitDefEqProofs [r32, advV]; rfl) (fun _ => none) (v' := .tup [advV 0 0 [], .bool false]) (h' := []) (namesN _) (by simp [advV]) ⟨rfl, rfl⟩ trivial
   by_cases b4 : 1099511627775 < ld
   ·(repeat (first | refine Run.adm rfl ?_ | refine Run.seq ?_ | ((first | apply Run.opS rfl | apply Run.condS); (· (simp -implicitDefEqProofs [hlt, hlt', hlt'', hlt2, hx, hxi, hd, hdi, encN, encSh, b1, b2, b3, b4]; first | exact ⟨rfl, rfl⟩ | exact rfl)))))
    rw [adviseM_bad (.inr (.inr (.inr (.inr (zip_bad hz (by simp [adOk]; omega))))))]
    refine Run.ret Tryz.func32 r32_ok trivial (by simp -implicitDefEqProofs [r32, advV]; rfl) (fun _ => none) (v' := .tup [advV 0 0 [], .bool false]) (h' := []) (namesN _) (by simp [advV]) ⟨rfl, rfl⟩ trivial
   by_cases b5 : 64 < l.length
   ·have b5' : (64 : Int) < lo.length := by omega
    have b5'' : 64 < lo.length := by omega
    (repeat (first | refine Run.adm rfl ?_ | refine Run.seq ?_ | ((first | apply Run.opS rfl | apply Run.condS); (· (simp -implicitDefEqProofs [hlt, hlt', hlt'', hlt2, hx, hxi, hd, hdi, encN, encSh, b1, b2, b3, b4, b5, b5', b5'', hlenI]; first | exact ⟨rfl, rfl⟩ | exact rfl)))))
    rw [adviseM_bad (.inr (.inr (.inr (.inl b5))))]
    refine Run.ret Tryz.func32 r32_ok trivial (by simp -implicitDefEqProofs [r32, advV]; rfl) (fun _ => none) (v' := .tup [advV 0 0 [], .bool false]) (h' := []) (namesN _) (by simp [advV]) ⟨rfl, rfl⟩ trivial
   have b5' : ¬ (64 : Int) < lo.length := by omega
   have b5'' : ¬ 64 < lo.length := by omega
   obtain ⟨k, hk⟩ : ∃ k : Nat, x.node = k := ⟨x.node.toNat, by omega⟩
   have hkn : k < n := by omega
   have hkn' : (k : Int) < n := by omega
   have hsg := sums_get (ps := ps) hkn
   have hsgi := (List.getElem?_eq_some_iff.1 hsg).2
   have hmg := manys_get (ps := ps) hkn
   have hmgi := (List.getElem?_eq_some_iff.1 hmg).2
   have hle := sumK_le (nodes := n) (ps := ps) (fun p hp => List.all_eq_true.1 hall p hp) k
   have hle2 := manyK_le ps k
   have hw2 := wrap_small (n := sumK ps k + ld) (by omega) (by omega)
   have hw3 := wrap_small (n := manyK ps k + 1) (by omega) (by omega)
   have hs1 := sums_set (n := n) (ps := ps) (p := (x, ld)) hk hkn
   have hs2 := manys_set (n := n) (ps := ps) (p := (x, ld)) hk hkn
   have hok : adOk n (x, ld) = true := by simp [adOk]; omega
   rw [← hps]
   (repeat (first | refine Run.adm rfl ?_ | refine Run.seq ?_ | ((first | apply Run.opS rfl | apply Run.condS); (· (simp -implicitDefEqProofs [hlt, hlt', hlt'', hlt2, hx, hxi, hd, hdi, encN, encSh, b1, b2, b3, b4, b5, b5', b5'', hlenI]; first | exact ⟨rfl, rfl⟩ | exact rfl)))))
   refine Run.qchain prog_mixed 10 (by kernel_rfl) ?_
   (repeat (first | refine execQ_E rfl ?_ | (apply execQ_S rfl; (· (simp -implicitDefEqProofs [hk, hkn, hkn', hsg, hsgi, sums_len, hlt2, hlt', hd, hdi, encN, encSh, hw2]; exact ⟨rfl, rfl⟩)))))
   (repeat (first | refine SeqR.E rfl ?_ | (apply SeqR.o0 rfl; (· (simp -implicitDefEqProofs [sums_len, hkn, hkn', hsg, hsgi, encN]; exact ⟨rfl, rfl⟩))) | (apply SeqR.A rfl; (· (simp -implicitDefEqProofs [sums_len, hkn, hkn', hsg, hsgi, encN]; done)); (· (simp -implicitDefEqProofs [sums_len, hkn, hkn', hsg, hsgi, encN]; exact ⟨rfl, rfl⟩))) | (apply SeqR.N rfl; (· (simp -implicitDefEqProofs [sums_len, hkn, hkn', hsg, hsgi, encN]; done)))))
   (repeat (first | refine Run.adm rfl ?_ | refine Run.seq ?_ | ((first | apply Run.opS rfl | apply Run.condS); (· (simp -implicitDefEqProofs [hk, hkn, hkn', hmg, hmgi, manys_len, encN, encSh, hw3]; first | exact ⟨rfl, rfl⟩ | exact rfl)))))
   have hq1 : ((sums n ps).map encN).set k [.int .i64 (sumK ps k + ld)] = (sums n ((l.zip lo).take (i + 1))).map encN := by rw [hsn, ← hs1, List.map_set]; rfl
   have hq2 : ((manys n ps).map encN).set k [.int .i64 (manyK ps k + 1)] = (manys n ((l.zip lo).take (i + 1))).map encN := by rw [hsn, ← hs2, List.map_set]; rfl
   refine Run.mv [0, 1, 2] _ _ (by rfl) (by decide) (by simp -implicitDefEqProofs [hw, hq1, hq2]) (by simp -implicitDefEqProofs [hw, hq1, hq2]) (ih (i + 1) ?_ ?_)
   ·exact ⟨by omega, by rw [hsn, List.all_append, hall]; simp [hok], fun _ => by omega⟩
   ·omega
  ·have : i = l.length := by omega
   subst this
   have h1 : ¬ (l.length : Int) < lo.length := by omega
   have htk : (l.zip lo).take l.length = l.zip lo := List.take_of_length_le (by simp; omega)
   rw [htk] at hall ⊢
   have h64' : ¬ 64 < l.length := by
    intro h
    exact absurd (h64 (by omega)) (by omega)
   (repeat (first | refine Run.adm rfl ?_ | refine Run.seq ?_ | ((first | apply Run.opS rfl | apply Run.condS); (· (simp -implicitDefEqProofs [h1]; first | exact ⟨rfl, rfl⟩ | exact rfl)))))
   refine Run.sl [(0, .vs (l.map encSh) 6), (1, .vs (lo.map encN) 1), (2, .int .i64 n), (6, .ptr 0 0), (7, .bool false), (8, .sl 1 0 n 1 (some n)), (9, .sl 2 0 n 1 (some n)), (91, .sl 1 0 n 1 (some n)), (92, .sl 1 0 n 1 (some n))] (by simp) ?_
   have hgood : ¬ (l.length ≠ lo.length ∨ (n : Int) < 1 ∨ 6 < (n : Int) ∨ 64 < l.length ∨ (l.zip lo).all (adOk n) = false) := by rw [hall]; simp [hlen, hn1, hn2]; omega
   have hadv : adviseM l lo n = adviseN l lo (sums n (l.zip lo)) (manys n (l.zip lo)) := by rw [adviseM, if_neg hgood, Int.toNat_natCast]
   rw [hadv]
   have hsl := sums_len n (l.zip lo)
   have hml := manys_len n (l.zip lo)
   have hsb : ∀ x ∈ sums n (l.zip lo), 0 ≤ x ∧ x ≤ 76965813944320 := by
    intro x hx
    obtain ⟨k, -, rfl⟩ := List.mem_map.1 hx
    have h1 := sumK_le (nodes := n) (ps := l.zip lo) (fun p hp => List.all_eq_true.1 hall p hp) k
    have h2 : (l.zip lo).length ≤ 70 := by simp; omega
    omega
   have hso : ∀ {k : Nat}, (sums n (l.zip lo)).getD k 0 ≠ 0 → ∃ (j : Nat) (y : ShM), l[j]? = some y ∧ y.node = k := by
    intro k hk
    have hkn : k < n := by
     refine Nat.lt_of_not_le fun h => hk ?_
     rw [List.getD_eq_getElem?_getD, List.getElem?_eq_none (by omega)]; rfl
    rw [List.getD_eq_getElem?_getD, sums_get hkn] at hk
    obtain ⟨p, hp, h2⟩ := sumK_some (by simpa using hk)
    obtain ⟨j, hj⟩ := List.getElem?_of_mem hp
    rw [List.getElem?_zip_eq_some] at hj
    exact ⟨j, p.1, hj.1, h2⟩
   generalize sums n (l.zip lo) = s at *
   generalize manys n (l.zip lo) = m at *
   have hne : s ≠ [] := by intro e; rw [e] at hsl; simp at hsl; omega
   have hsl2 : s.length ≤ 1000 := by omega
   refine Run.opC rfl rfl rfl (max_an hsl rfl hne hsl2) ?_
   rintro v W ⟨⟨mx, rfl, hmx1, hmx2⟩, e⟩
   replace e := e.symm
   subst e
   (repeat (first | refine Run.adm rfl ?_ | refine Run.seq ?_ | ((first | apply Run.opS rfl | apply Run.condS); (· (simp -implicitDefEqProofs; first | exact ⟨rfl, rfl⟩ | exact rfl)))))
   refine Run.opC rfl rfl rfl (index_an hsl rfl hmx1 hsl2) ?_
   rintro v W ⟨⟨hot, rfl, hh1, hh2⟩, e⟩
   replace e := e.symm
   subst e
   have ehot : hotGo s s.length = hot := (FirstMax.uniq ⟨mx, hh1, hmx2, hh2⟩ (hot_first hne)).symm
   (repeat (first | refine Run.adm rfl ?_ | refine Run.seq ?_ | ((first | apply Run.opS rfl | apply Run.condS); (· (simp -implicitDefEqProofs; first | exact ⟨rfl, rfl⟩ | exact rfl)))))
   refine Run.opC rfl rfl rfl (min_an hsl rfl hne hsl2) ?_
   rintro v W ⟨⟨mn, rfl, hmn1, hmn2⟩, e⟩
   replace e := e.symm
   subst e
   (repeat (first | refine Run.adm rfl ?_ | refine Run.seq ?_ | ((first | apply Run.opS rfl | apply Run.condS); (· (simp -implicitDefEqProofs; first | exact ⟨rfl, rfl⟩ | exact rfl)))))
   refine Run.opC rfl rfl rfl (index_an hsl rfl hmn1 hsl2) ?_
   rintro v W ⟨⟨cold, rfl, hc1, hc2⟩, e⟩
   replace e := e.symm
   subst e
   have ecold : coldGo s s.length = cold := (FirstMin.uniq ⟨mn, hc1, hmn2, hc2⟩ (cold_first hne)).symm
   rw [adviseN, ehot, ecold]
   have gh : s.getD hot 0 = mx := by rw [List.getD_eq_getElem?_getD, hh1]; rfl
   have gc : s.getD cold 0 = mn := by rw [List.getD_eq_getElem?_getD, hc1]; rfl
   rw [gh, gc]
   have hhl := (List.getElem?_eq_some_iff.1 hh1).1
   have hcl := (List.getElem?_eq_some_iff.1 hc1).1
   have hhi := (List.getElem?_eq_some_iff.1 hh1).2
   have hci := (List.getElem?_eq_some_iff.1 hc1).2
   have bmx := hsb mx hmx1
   have bmn := hsb mn hmn1
   have wm1 := wrap_small (n := 2 * mn) (by omega) (by omega)
   have wm2 := wrap_small (n := 2 * mn + 8) (by omega) (by omega)
   have hhn : hot < n := by omega
   have hhn' : (hot : Int) < n := by omega
   have hcn : cold < n := by omega
   have hcn' : (cold : Int) < n := by omega
   (repeat (first | refine Run.adm rfl ?_ | refine Run.seq ?_ | ((first | apply Run.opS rfl | apply Run.condS); (· (simp -implicitDefEqProofs; first | exact ⟨rfl, rfl⟩ | exact rfl)))))
   refine Run.quiet prog_mixed (by kernel_rfl) ?_
   (repeat (first | refine execQ_E rfl ?_ | (apply execQ_S rfl; (· (simp -implicitDefEqProofs [hhn, hhn', hcn, hcn', hh1, hhi, hc1, hci, hsl, encN, wm1, wm2]; exact ⟨rfl, rfl⟩)))))
   by_cases hcalm : mx ≤ 2 * mn + 8
   ·(repeat (first | refine Run.adm rfl ?_ | refine Run.seq ?_ | ((first | apply Run.opS rfl | apply Run.condS); (· (simp -implicitDefEqProofs [hcalm]; first | exact ⟨rfl, rfl⟩ | exact rfl)))))
    rw [if_pos hcalm]
    refine Run.ret Tryz.func32 r32_ok trivial (by simp -implicitDefEqProofs [r32, advV]; rfl) (fun _ => none) (v' := .tup [advV 0 0 [], .bool false]) (h' := []) (namesN _) (by simp [advV]) ⟨rfl, rfl⟩ trivial
   rw [if_neg hcalm]
   have hcalm' : ¬ mx ≤ 2 * mn + 8 := hcalm
   (repeat (first | refine Run.adm rfl ?_ | refine Run.seq ?_ | ((first | apply Run.opS rfl | apply Run.condS); (· (simp -implicitDefEqProofs [hcalm]; first | exact ⟨rfl, rfl⟩ | exact rfl)))))
   refine Run.loopC [0, 1, 2] (fun (i : Nat) => ([(0, .vs (l.map encSh) 6), (1, .vs (lo.map encN) 1), (6, .ptr 0 0), (7, .bool false), (8, .sl 1 0 n 1 (some n)), (9, .sl 2 0 n 1 (some n)), (12, .int .i64 hot), (13, .int .i64 cold), (14, .int .i64 (bestGo l lo hot i)), (111, .vs (l.map encSh) 6), (112, .int .i64 l.length), (113, .int .i64 i)],
    [.row [.int .i64 0, .int .i64 0, .int .i64 0, .str [], .nils, .int .i64 0, .str [], .str [], .str [], .bool false, .nils, .str [], .str [], .int .i64 0], .arr (s.map encN) 1, .arr (m.map encN) 1])) (fun i => i ≤ l.length) (fun i => l.length - i) 0 (Nat.zero_le _) (by rfl) (by decide) (by simp [bestGo]) (by simp) ?_
   intro i hi ih
   have hbl := bestGo_lt l lo hot i
   by_cases hlt : i < l.length
   ·obtain ⟨x, hx, hxi, -, -⟩ := getL hlt
    have hlt2 : i < lo.length := by omega
    obtain ⟨ld, hd, hdi, -, -⟩ := getL hlt2
    have hlt' : (i : Int) < l.length := by omega
    have hlt2' : (i : Int) < lo.length := by omega
    have hw := wrap_small (n := (i : Int) + 1) (by omega) (by omega)
    have hgd : lo.getD i 0 = ld := by rw [List.getD_eq_getElem?_getD, hd]; rfl
    by_cases c1 : x.node = hot
    ·by_cases c2 : bestGo l lo hot i < 0
     ·have hb : bestGo l lo hot (i + 1) = i := by simp only [bestGo]; rw [if_pos]; rw [hx]; exact ⟨c1, .inl c2⟩
      (repeat (first | refine Run.adm rfl ?_ | refine Run.seq ?_ | ((first | apply Run.opS rfl | apply Run.condS); (· (simp -implicitDefEqProofs [hlt, hlt', hx, hxi, encSh]; first | exact ⟨rfl, rfl⟩ | exact rfl)))))
      refine Run.quiet prog_mixed (by kernel_rfl) ?_
      (repeat (first | refine execQ_E rfl ?_ | (apply execQ_S rfl; (· (simp -implicitDefEqProofs [c1, c2]; exact ⟨rfl, rfl⟩)))))
      (repeat (first | refine Run.adm rfl ?_ | refine Run.seq ?_ | ((first | apply Run.opS rfl | apply Run.condS); (· (simp -implicitDefEqProofs; first | exact ⟨rfl, rfl⟩ | exact rfl)))))
      refine Run.mv [0, 1, 2] _ _ (by rfl) (by decide) (by simp -implicitDefEqProofs [hw, hb]) (by simp -implicitDefEqProofs [hw, hb]) (ih (i + 1) ?_ ?_)
      ·omega
      ·omega
     ·obtain ⟨b, hb⟩ : ∃ b : Nat, bestGo l lo hot i = b := ⟨(bestGo l lo hot i).toNat, by omega⟩
      rw [hb] at hbl
      have hbl2 : b < lo.length := by omega
      have hbl2' : (b : Int) < lo.length := by omega
      obtain ⟨lb, hlb, hlbi, -, -⟩ := getL hbl2
      have hgb : lo.getD b 0 = lb := by rw [List.getD_eq_getElem?_getD, hlb]; rfl
      have hb0 : ¬ (b : Int) < 0 := by omega
      rw [hb]
      by_cases c3 : lb < ld
      ·have hb' : bestGo l lo hot (i + 1) = i := by simp only [bestGo]; rw [if_pos]; rw [hx, hb, Int.toNat_natCast, hgb, hgd]; exact ⟨c1, .inr c3⟩
       (repeat (first | refine Run.adm rfl ?_ | refine Run.seq ?_ | ((first | apply Run.opS rfl | apply Run.condS); (· (simp -implicitDefEqProofs [hlt, hlt', hx, hxi, encSh]; first | exact ⟨rfl, rfl⟩ | exact rfl)))))
       refine Run.quiet prog_mixed (by kernel_rfl) ?_
       (repeat (first | refine execQ_E rfl ?_ | (apply execQ_S rfl; (· (simp -implicitDefEqProofs [c1, hb0, hlt2, hlt2', hd, hdi, hbl2, hbl2', hlb, hlbi, encN, c3]; exact ⟨rfl, rfl⟩)))))
       (repeat (first | refine Run.adm rfl ?_ | refine Run.seq ?_ | ((first | apply Run.opS rfl | apply Run.condS); (· (simp -implicitDefEqProofs [c3]; first | exact ⟨rfl, rfl⟩ | exact rfl)))))
       refine Run.mv [0, 1, 2] _ _ (by rfl) (by decide) (by simp -implicitDefEqProofs [hw, hb']) (by simp -implicitDefEqProofs [hw, hb']) (ih (i + 1) ?_ ?_)
       ·omega
       ·omega
      ·have hb' : bestGo l lo hot (i + 1) = b := by simp only [bestGo]; rw [if_neg, hb]; rw [hx, hb, Int.toNat_natCast, hgb, hgd]; rintro ⟨-, h | h⟩ <;> omega
       (repeat (first | refine Run.adm rfl ?_ | refine Run.seq ?_ | ((first | apply Run.opS rfl | apply Run.condS); (· (simp -implicitDefEqProofs [hlt, hlt', hx, hxi, encSh]; first | exact ⟨rfl, rfl⟩ | exact rfl)))))
       refine Run.quiet prog_mixed (by kernel_rfl) ?_
       (repeat (first | refine execQ_E rfl ?_ | (apply execQ_S rfl; (· (simp -implicitDefEqProofs [c1, hb0, hlt2, hlt2', hd, hdi, hbl2, hbl2', hlb, hlbi, encN, c3]; exact ⟨rfl, rfl⟩)))))
       (repeat (first | refine Run.adm rfl ?_ | refine Run.seq ?_ | ((first | apply Run.opS rfl | apply Run.condS); (· (simp -implicitDefEqProofs [c3]; first | exact ⟨rfl, rfl⟩ | exact rfl)))))
       refine Run.mv [0, 1, 2] _ _ (by rfl) (by decide) (by simp -implicitDefEqProofs [hw, hb']) (by simp -implicitDefEqProofs [hw, hb']) (ih (i + 1) ?_ ?_)
       ·omega
       ·omega
    ·have hb' : bestGo l lo hot (i + 1) = bestGo l lo hot i := by simp only [bestGo]; rw [if_neg]; rw [hx]; rintro ⟨h, -⟩; exact c1 h
     (repeat (first | refine Run.adm rfl ?_ | refine Run.seq ?_ | ((first | apply Run.opS rfl | apply Run.condS); (· (simp -implicitDefEqProofs [hlt, hlt', hx, hxi, encSh]; first | exact ⟨rfl, rfl⟩ | exact rfl)))))
     refine Run.quiet prog_mixed (by kernel_rfl) ?_
     (repeat (first | refine execQ_E rfl ?_ | (apply execQ_S rfl; (· (simp -implicitDefEqProofs [c1]; exact ⟨rfl, rfl⟩)))))
     (repeat (first | refine Run.adm rfl ?_ | refine Run.seq ?_ | ((first | apply Run.opS rfl | apply Run.condS); (· (simp -implicitDefEqProofs; first | exact ⟨rfl, rfl⟩ | exact rfl)))))
     refine Run.mv [0, 1, 2] _ _ (by rfl) (by decide) (by simp -implicitDefEqProofs [hw, hb']) (by simp -implicitDefEqProofs [hw, hb']) (ih (i + 1) ?_ ?_)
     ·omega
     ·omega
   have : i = l.length := by omega
   subst this
   have hb0 : 0 ≤ bestGo l lo hot l.length := by
    obtain ⟨j, y, hj, hy⟩ := hso (k := hot) (by rw [gh]; omega)
    exact bestGo_some hj hy (List.getElem?_eq_some_iff.1 hj).1
   obtain ⟨b, hb⟩ : ∃ b : Nat, bestGo l lo hot l.length = b := ⟨(bestGo l lo hot l.length).toNat, by omega⟩
   rw [hb] at hbl ⊢
   have hbn : b < l.length := by omega
   obtain ⟨x, hx, hxi, -, -⟩ := getL hbn
   have hbn2 : b < lo.length := by omega
   obtain ⟨lb, hlb, hlbi, -, -⟩ := getL hbn2
   have hbn' : (b : Int) < l.length := by omega
   have hbn2' : (b : Int) < lo.length := by omega
   have hgb : lo.getD b 0 = lb := by rw [List.getD_eq_getElem?_getD, hlb]; rfl
   have hlbb := List.all_eq_true.1 hall _ (List.mem_of_getElem? (zip_get hx hlb))
   simp only [adOk, Bool.and_eq_true, decide_eq_true_eq] at hlbb
   have hwb := wrap_small (n := lb + mn) (by omega) (by omega)
   have hhm : hot < m.length := by omega
   obtain ⟨mh, hmh, hmhi, -, -⟩ := getL hhm
   have hgm : m.getD hot 0 = mh := by rw [List.getD_eq_getElem?_getD, hmh]; rfl
   rw [Int.toNat_natCast, hgb, hgm, hx, Option.map_some, Option.getD_some]
   by_cases ck : x.lo = []
   ·rw [keyA, if_pos ck]
    (repeat (first | refine Run.adm rfl ?_ | refine Run.seq ?_ | ((first | apply Run.opS rfl | apply Run.condS); (· (simp -implicitDefEqProofs [hbn, hbn', hx, hxi, encSh, ck]; first | exact ⟨rfl, rfl⟩ | exact rfl)))))
    by_cases c1 : 1 < mh
    ·by_cases c2 : lb + mn < mx
     ·rw [if_pos ⟨c1, c2⟩]
      refine Run.quiet prog_mixed (by kernel_rfl) ?_
      (repeat (first | refine execQ_E rfl ?_ | (apply execQ_S rfl; (· (simp -implicitDefEqProofs [hhn, hhn', hcn, hcn', hh1, hhi, hc1, hci, hsl, hml, hmh, hmhi, hbn2, hbn2', hlb, hlbi, hwb, encN, c1, c2]; exact ⟨rfl, rfl⟩)))))
      (repeat (first | refine Run.adm rfl ?_ | refine Run.seq ?_ | ((first | apply Run.opS rfl | apply Run.condS); (· (simp -implicitDefEqProofs [c2]; first | exact ⟨rfl, rfl⟩ | exact rfl)))))
      refine Run.ret Tryz.func32 r32_ok trivial (by simp -implicitDefEqProofs [r32, advV]; rfl) (fun _ => none) (v' := .tup [advV 4 cold [0], .bool true]) (h' := []) (namesN _) (by simp [advV]) ⟨rfl, rfl⟩ trivial
     ·rw [if_neg (fun h => c2 h.2)]
      refine Run.quiet prog_mixed (by kernel_rfl) ?_
      (repeat (first | refine execQ_E rfl ?_ | (apply execQ_S rfl; (· (simp -implicitDefEqProofs [hhn, hhn', hcn, hcn', hh1, hhi, hc1, hci, hsl, hml, hmh, hmhi, hbn2, hbn2', hlb, hlbi, hwb, encN, c1, c2]; exact ⟨rfl, rfl⟩)))))
      (repeat (first | refine Run.adm rfl ?_ | refine Run.seq ?_ | ((first | apply Run.opS rfl | apply Run.condS); (· (simp -implicitDefEqProofs [c2]; first | exact ⟨rfl, rfl⟩ | exact rfl)))))
      refine Run.ret Tryz.func32 r32_ok trivial (by simp -implicitDefEqProofs [r32, advV]; rfl) (fun _ => none) (v' := .tup [advV 2 0 [0], .bool true]) (h' := []) (namesN _) (by simp [advV]) ⟨rfl, rfl⟩ trivial
    ·rw [if_neg (fun h => c1 h.1)]
     refine Run.quiet prog_mixed (by kernel_rfl) ?_
     (repeat (first | refine execQ_E rfl ?_ | (apply execQ_S rfl; (· (simp -implicitDefEqProofs [hhn, hhn', hsl, hml, hmh, hmhi, encN, c1]; exact ⟨rfl, rfl⟩)))))
     (repeat (first | refine Run.adm rfl ?_ | refine Run.seq ?_ | ((first | apply Run.opS rfl | apply Run.condS); (· (simp -implicitDefEqProofs [c1]; first | exact ⟨rfl, rfl⟩ | exact rfl)))))
     refine Run.ret Tryz.func32 r32_ok trivial (by simp -implicitDefEqProofs [r32, advV]; rfl) (fun _ => none) (v' := .tup [advV 2 0 [0], .bool true]) (h' := []) (namesN _) (by simp [advV]) ⟨rfl, rfl⟩ trivial
   ·rw [keyA, if_neg ck]
    (repeat (first | refine Run.adm rfl ?_ | refine Run.seq ?_ | ((first | apply Run.opS rfl | apply Run.condS); (· (simp -implicitDefEqProofs [hbn, hbn', hx, hxi, encSh, ck]; first | exact ⟨rfl, rfl⟩ | exact rfl)))))
    by_cases c1 : 1 < mh
    ·by_cases c2 : lb + mn < mx
     ·rw [if_pos ⟨c1, c2⟩]
      refine Run.quiet prog_mixed (by kernel_rfl) ?_
      (repeat (first | refine execQ_E rfl ?_ | (apply execQ_S rfl; (· (simp -implicitDefEqProofs [hhn, hhn', hcn, hcn', hh1, hhi, hc1, hci, hsl, hml, hmh, hmhi, hbn2, hbn2', hlb, hlbi, hwb, encN, c1, c2]; exact ⟨rfl, rfl⟩)))))
      (repeat (first | refine Run.adm rfl ?_ | refine Run.seq ?_ | ((first | apply Run.opS rfl | apply Run.condS); (· (simp -implicitDefEqProofs [c2]; first | exact ⟨rfl, rfl⟩ | exact rfl)))))
      refine Run.ret Tryz.func32 r32_ok trivial (by simp -implicitDefEqProofs [r32, advV]; rfl) (fun _ => none) (v' := .tup [advV 4 cold x.lo, .bool true]) (h' := []) (namesN _) (by simp [advV]) ⟨rfl, rfl⟩ trivial
     ·rw [if_neg (fun h => c2 h.2)]
      refine Run.quiet prog_mixed (by kernel_rfl) ?_
      (repeat (first | refine execQ_E rfl ?_ | (apply execQ_S rfl; (· (simp -implicitDefEqProofs [hhn, hhn', hcn, hcn', hh1, hhi, hc1, hci, hsl, hml, hmh, hmhi, hbn2, hbn2', hlb, hlbi, hwb, encN, c1, c2]; exact ⟨rfl, rfl⟩)))))
      (repeat (first | refine Run.adm rfl ?_ | refine Run.seq ?_ | ((first | apply Run.opS rfl | apply Run.condS); (· (simp -implicitDefEqProofs [c2]; first | exact ⟨rfl, rfl⟩ | exact rfl)))))
      refine Run.ret Tryz.func32 r32_ok trivial (by simp -implicitDefEqProofs [r32, advV]; rfl) (fun _ => none) (v' := .tup [advV 2 0 x.lo, .bool true]) (h' := []) (namesN _) (by simp [advV]) ⟨rfl, rfl⟩ trivial
    ·rw [if_neg (fun h => c1 h.1)]
     refine Run.quiet prog_mixed (by kernel_rfl) ?_
     (repeat (first | refine execQ_E rfl ?_ | (apply execQ_S rfl; (· (simp -implicitDefEqProofs [hhn, hhn', hsl, hml, hmh, hmhi, encN, c1]; exact ⟨rfl, rfl⟩)))))
     (repeat (first | refine Run.adm rfl ?_ | refine Run.seq ?_ | ((first | apply Run.opS rfl | apply Run.condS); (· (simp -implicitDefEqProofs [c1]; first | exact ⟨rfl, rfl⟩ | exact rfl)))))
     refine Run.ret Tryz.func32 r32_ok trivial (by simp -implicitDefEqProofs [r32, advV]; rfl) (fun _ => none) (v' := .tup [advV 2 0 x.lo, .bool true]) (h' := []) (namesN _) (by simp [advV]) ⟨rfl, rfl⟩ trivial
attribute [local simp ↓] upd_app tl_cons tl_nil
set_option maxHeartbeats 4000000 in
theorem radvise_tri (l : List ShM) (lo : List Int) (nodes : Int) (hl : l.length ≤ 70) (hlo : lo.length ≤ 70) :
  Tri Tryz.prog 33 [.vs (l.map encSh) 6, .vs (lo.map encN) 1, .int .i64 nodes] [] (fun v H => v = adviseM l lo nodes ∧ H = []) := by
 refine Tri.of_run' Tryz.func33 rfl c33_ok (by simp [Tryz.ntmps33]) ?_
 by_cases hlen : l.length = lo.length
 rotate_left
 ·have h2 : ¬ (l.length : Int) = lo.length := by omega
  (repeat (first | refine Run.adm rfl ?_ | refine Run.seq ?_ | ((first | apply Run.opS rfl | apply Run.condS); (· (simp -implicitDefEqProofs [hlen, h2]; first | exact ⟨rfl, rfl⟩ | exact rfl)))))
  rw [adviseM_bad (.inl hlen)]
  refine Run.ret Tryz.func33 r33_ok trivial (by simp -implicitDefEqProofs [r33, advV]; rfl) (fun _ => none) (v' := .tup [advV 0 0 [], .bool false]) (h' := []) (namesN _) (by simp [advV]) ⟨rfl, rfl⟩ trivial
 have hlenI : (l.length : Int) = lo.length := by omega
 by_cases hl64 : 64 < l.length
 ·have hl64' : (64 : Int) < l.length := by omega
  have hl642 : 64 < lo.length := by omega
  have hl642' : (64 : Int) < lo.length := by omega
  (repeat (first | refine Run.adm rfl ?_ | refine Run.seq ?_ | ((first | apply Run.opS rfl | apply Run.condS); (· (simp -implicitDefEqProofs [hlen, hlenI, hl64, hl64', hl642, hl642']; first | exact ⟨rfl, rfl⟩ | exact rfl)))))
  rw [adviseM_bad (.inr (.inr (.inr (.inl hl64))))]
  refine Run.ret Tryz.func33 r33_ok trivial (by simp -implicitDefEqProofs [r33, advV]; rfl) (fun _ => none) (v' := .tup [advV 0 0 [], .bool false]) (h' := []) (namesN _) (by simp [advV]) ⟨rfl, rfl⟩ trivial
 have hl64' : ¬ (64 : Int) < l.length := by omega
 have hl642 : ¬ 64 < lo.length := by omega
 have hl642' : ¬ (64 : Int) < lo.length := by omega
 by_cases hn1 : nodes < 1
 ·(repeat (first | refine Run.adm rfl ?_ | refine Run.seq ?_ | ((first | apply Run.opS rfl | apply Run.condS); (· (simp -implicitDefEqProofs [hlen, hlenI, hl64, hl64', hl642, hl642', hn1]; first | exact ⟨rfl, rfl⟩ | exact rfl)))))
  rw [adviseM_bad (.inr (.inl hn1))]
  refine Run.ret Tryz.func33 r33_ok trivial (by simp -implicitDefEqProofs [r33, advV]; rfl) (fun _ => none) (v' := .tup [advV 0 0 [], .bool false]) (h' := []) (namesN _) (by simp [advV]) ⟨rfl, rfl⟩ trivial
 by_cases hn2 : 6 < nodes
 ·(repeat (first | refine Run.adm rfl ?_ | refine Run.seq ?_ | ((first | apply Run.opS rfl | apply Run.condS); (· (simp -implicitDefEqProofs [hlen, hlenI, hl64, hl64', hl642, hl642', hn1, hn2]; first | exact ⟨rfl, rfl⟩ | exact rfl)))))
  rw [adviseM_bad (.inr (.inr (.inl hn2)))]
  refine Run.ret Tryz.func33 r33_ok trivial (by simp -implicitDefEqProofs [r33, advV]; rfl) (fun _ => none) (v' := .tup [advV 0 0 [], .bool false]) (h' := []) (namesN _) (by simp [advV]) ⟨rfl, rfl⟩ trivial
 obtain ⟨n, rfl⟩ : ∃ n : Nat, nodes = n := ⟨nodes.toNat, by omega⟩
 have hn3 : (n : Int) ≤ 70368744177664 := by omega
 have hn4 : (n : Int) * 8 ≤ 70368744177664 := by omega
 (repeat (first | refine Run.adm rfl ?_ | refine Run.seq ?_ | ((first | apply Run.opS rfl | apply Run.condS); (· (simp -implicitDefEqProofs [hlen, hlenI, hl64, hl64', hl642, hl642', hn1, hn2, hn3, hn4]; first | exact ⟨rfl, rfl⟩ | exact rfl)))))
 have hpos : 0 < n := by omega
 refine Run.loopC [0, 1, 2] (fun (i : Nat) => ([(0, .vs (l.map encSh) 6), (1, .vs (lo.map encN) 1), (2, .int .i64 n), (6, .ptr 0 0), (7, .bool false), (8, .sl 1 0 n 1 (some n)), (9, .sl 2 0 n 1 (some n)), (10, .int .i64 i)],
   [.row [.int .i64 0, .int .i64 0, .int .i64 0, .str [], .nils, .int .i64 0, .str [], .str [], .str [], .bool false, .nils, .str [], .str [], .int .i64 0], .arr ((sums n ((l.zip lo).take i)).map encN) 1, .arr ((manys n ((l.zip lo).take i)).map encN) 1]))
  (fun i => i ≤ l.length ∧ ((l.zip lo).take i).all (adOk n) = true ) (fun i => l.length - i) 0 ⟨Nat.zero_le _, rfl⟩ (by rfl) (by decide) (by simp) (by simp [sums0, manys0, encN]) ?_
 ·rintro i ⟨hi, hall⟩ ih
  by_cases hlt : i < l.length
  ·obtain ⟨x, hx, hxi, -, -⟩ := getL hlt
   have hlt2 : i < lo.length := by omega
   obtain ⟨ld, hd, hdi, -, -⟩ := getL hlt2
   have hlt' : (i : Int) < lo.length := by omega
   have hlt'' : (i : Int) < l.length := by omega
   have hz := zip_get hx hd
   have hw := wrap_small (n := (i : Int) + 1) (by omega) (by omega)
   obtain ⟨ps, hps⟩ : ∃ ps, ps = (l.zip lo).take i := ⟨_, rfl⟩
   have hpl : ps.length ≤ 70 := by rw [hps]; simp; omega
   have hsn := zip_take hz
   rw [← hps] at hsn hall
   by_cases b1 : x.node < 0
   ·(repeat (first | refine Run.adm rfl ?_ | refine Run.seq ?_ | ((first | apply Run.opS rfl | apply Run.condS); (· (simp -implicitDefEqProofs [hlt, hlt', hlt'', hlt2, hx, hxi, encSh, b1]; first | exact ⟨rfl, rfl⟩ | exact rfl)))))
    rw [adviseM_bad (.inr (.inr (.inr (.inr (zip_bad hz (by simp [adOk]; omega))))))]
    refine Run.ret Tryz.func33 r33_ok trivial (by simp -implicitDefEqProofs [r33, advV]; rfl) (fun _ => none) (v' := .tup [advV 0 0 [], .bool false]) (h' := []) (namesN _) (by simp [advV]) ⟨rfl, rfl⟩ trivial
   by_cases b2 : (n : Int) ≤ x.node
   ·(repeat (first | refine Run.adm rfl ?_ | refine Run.seq ?_ | ((first | apply Run.opS rfl | apply Run.condS); (· (simp -implicitDefEqProofs [hlt, hlt', hlt'', hlt2, hx, hxi, encSh, b1, b2]; first | exact ⟨rfl, rfl⟩ | exact rfl)))))
    rw [adviseM_bad (.inr (.inr (.inr (.inr (zip_bad hz (by simp [adOk]; omega))))))]
    refine Run.ret Tryz.func33 r33_ok trivial (by simp -implicitDefEqProofs [r33, advV]; rfl) (fun _ => none) (v' := .tup [advV 0 0 [], .bool false]) (h' := []) (namesN _) (by simp [advV]) ⟨rfl, rfl⟩ trivial
   by_cases b3 : ld < 0
   ·(repeat (first | refine Run.adm rfl ?_ | refine Run.seq ?_ | ((first | apply Run.opS rfl | apply Run.condS); (· (simp -implicitDefEqProofs [hlt, hlt', hlt'', hlt2, hx, hxi, hd, hdi, encN, encSh, b1, b2, b3]; first | exact ⟨rfl, rfl⟩ | exact rfl)))))
    rw [adviseM_bad (.inr (.inr (.inr (.inr (zip_bad hz (by simp [adOk]; omega))))))]
    refine Run.ret Tryz.func33 r33_ok trivial (by simp -implicitDefEqProofs [r33, advV]; rfl) (fun _ => none) (v' := .tup [advV 0 0 [], .bool false]) (h' := []) (namesN _) (by simp [advV]) ⟨rfl, rfl⟩ trivial
   by_cases b4 : 1099511627775 < ld
   ·(repeat (first | refine Run.adm rfl ?_ | refine Run.seq ?_ | ((first | apply Run.opS rfl | apply Run.condS); (· (simp -implicitDefEqProofs [hlt, hlt', hlt'', hlt2, hx, hxi, hd, hdi, encN, encSh, b1, b2, b3, b4]; first | exact ⟨rfl, rfl⟩ | exact rfl)))))
    rw [adviseM_bad (.inr (.inr (.inr (.inr (zip_bad hz (by simp [adOk]; omega))))))]
    refine Run.ret Tryz.func33 r33_ok trivial (by simp -implicitDefEqProofs [r33, advV]; rfl) (fun _ => none) (v' := .tup [advV 0 0 [], .bool false]) (h' := []) (namesN _) (by simp [advV]) ⟨rfl, rfl⟩ trivial
   obtain ⟨k, hk⟩ : ∃ k : Nat, x.node = k := ⟨x.node.toNat, by omega⟩
   have hkn : k < n := by omega
   have hkn' : (k : Int) < n := by omega
   have hsg := sums_get (ps := ps) hkn
   have hsgi := (List.getElem?_eq_some_iff.1 hsg).2
   have hmg := manys_get (ps := ps) hkn
   have hmgi := (List.getElem?_eq_some_iff.1 hmg).2
   have hle := sumK_le (nodes := n) (ps := ps) (fun p hp => List.all_eq_true.1 hall p hp) k
   have hle2 := manyK_le ps k
   have hw2 := wrap_small (n := sumK ps k + ld) (by omega) (by omega)
   have hw3 := wrap_small (n := manyK ps k + 1) (by omega) (by omega)
   have hs1 := sums_set (n := n) (ps := ps) (p := (x, ld)) hk hkn
   have hs2 := manys_set (n := n) (ps := ps) (p := (x, ld)) hk hkn
   have hok : adOk n (x, ld) = true := by simp [adOk]; omega
   rw [← hps]
   (repeat (first | refine Run.adm rfl ?_ | refine Run.seq ?_ | ((first | apply Run.opS rfl | apply Run.condS); (· (simp -implicitDefEqProofs [hlt, hlt', hlt'', hlt2, hx, hxi, hd, hdi, encN, encSh, b1, b2, b3, b4]; first | exact ⟨rfl, rfl⟩ | exact rfl)))))
   refine Run.qchain prog_mixed 19 (by kernel_rfl) ?_
   (repeat (first | refine execQ_E rfl ?_ | (apply execQ_S rfl; (· (simp -implicitDefEqProofs [hlt, hlt'', hx, hxi, hk, hkn, hkn', hsg, hsgi, sums_len, hlt2, hlt', hd, hdi, encN, encSh, hw2]; exact ⟨rfl, rfl⟩)))))
   (repeat (first | refine SeqR.E rfl ?_ | (apply SeqR.o0 rfl; (· (simp -implicitDefEqProofs [sums_len, hkn, hkn', hsg, hsgi, encN]; exact ⟨rfl, rfl⟩))) | (apply SeqR.A rfl; (· (simp -implicitDefEqProofs [sums_len, hkn, hkn', hsg, hsgi, encN]; done)); (· (simp -implicitDefEqProofs [sums_len, hkn, hkn', hsg, hsgi, encN]; exact ⟨rfl, rfl⟩))) | (apply SeqR.N rfl; (· (simp -implicitDefEqProofs [sums_len, hkn, hkn', hsg, hsgi, encN]; done)))))
   (repeat (first | refine Run.adm rfl ?_ | refine Run.seq ?_ | ((first | apply Run.opS rfl | apply Run.condS); (· (simp -implicitDefEqProofs [hlt, hlt'', hx, hxi, hk, hkn, hkn', hmg, hmgi, manys_len, encN, encSh, hw3]; first | exact ⟨rfl, rfl⟩ | exact rfl)))))
   have hq1 : ((sums n ps).map encN).set k [.int .i64 (sumK ps k + ld)] = (sums n ((l.zip lo).take (i + 1))).map encN := by rw [hsn, ← hs1, List.map_set]; rfl
   have hq2 : ((manys n ps).map encN).set k [.int .i64 (manyK ps k + 1)] = (manys n ((l.zip lo).take (i + 1))).map encN := by rw [hsn, ← hs2, List.map_set]; rfl
   refine Run.mv [0, 1, 2] _ _ (by rfl) (by decide) (by simp -implicitDefEqProofs [hw, hq1, hq2]) (by simp -implicitDefEqProofs [hw, hq1, hq2]) (ih (i + 1) ?_ ?_)
   ·exact ⟨by omega, by rw [hsn, List.all_append, hall]; simp [hok]⟩
   ·omega
  ·have : i = l.length := by omega
   subst this
   have h1 : ¬ (l.length : Int) < lo.length := by omega
   have htk : (l.zip lo).take l.length = l.zip lo := List.take_of_length_le (by simp; omega)
   rw [htk] at hall ⊢
   (repeat (first | refine Run.adm rfl ?_ | refine Run.seq ?_ | ((first | apply Run.opS rfl | apply Run.condS); (· (simp -implicitDefEqProofs [h1]; first | exact ⟨rfl, rfl⟩ | exact rfl)))))
   refine Run.sl [(0, .vs (l.map encSh) 6), (1, .vs (lo.map encN) 1), (2, .int .i64 n), (6, .ptr 0 0), (7, .bool false), (8, .sl 1 0 n 1 (some n)), (9, .sl 2 0 n 1 (some n)), (11, .int .i64 (0 : Nat)), (12, .int .i64 (0 : Nat)), (13, .int .i64 (0 : Nat))] (by simp) ?_
   have hgood : ¬ (l.length ≠ lo.length ∨ (n : Int) < 1 ∨ 6 < (n : Int) ∨ 64 < l.length ∨ (l.zip lo).all (adOk n) = false) := by rw [hall]; simp [hlen, hn1, hn2]; omega
   have hadv : adviseM l lo n = adviseN l lo (sums n (l.zip lo)) (manys n (l.zip lo)) := by rw [adviseM, if_neg hgood, Int.toNat_natCast]
   rw [hadv]
   have hsl := sums_len n (l.zip lo)
   have hml := manys_len n (l.zip lo)
   have hsb : ∀ x ∈ sums n (l.zip lo), 0 ≤ x ∧ x ≤ 76965813944320 := by
    intro x hx
    obtain ⟨k, -, rfl⟩ := List.mem_map.1 hx
    have h1 := sumK_le (nodes := n) (ps := l.zip lo) (fun p hp => List.all_eq_true.1 hall p hp) k
    have h2 : (l.zip lo).length ≤ 70 := by simp; omega
    omega
   have hso : ∀ {k : Nat}, (sums n (l.zip lo)).getD k 0 ≠ 0 → ∃ (j : Nat) (y : ShM), l[j]? = some y ∧ y.node = k := by
    intro k hk
    have hkn : k < n := by
     refine Nat.lt_of_not_le fun h => hk ?_
     rw [List.getD_eq_getElem?_getD, List.getElem?_eq_none (by omega)]; rfl
    rw [List.getD_eq_getElem?_getD, sums_get hkn] at hk
    obtain ⟨p, hp, h2⟩ := sumK_some (by simpa using hk)
    obtain ⟨j, hj⟩ := List.getElem?_of_mem hp
    rw [List.getElem?_zip_eq_some] at hj
    exact ⟨j, p.1, hj.1, h2⟩
   generalize sums n (l.zip lo) = s at *
   generalize manys n (l.zip lo) = m at *
   have hne : s ≠ [] := by intro e; rw [e] at hsl; simp at hsl; omega
   have hsl2 : s.length ≤ 1000 := by omega
   refine Run.loopC [0, 1, 2] (fun (i : Nat) => ([(0, .vs (l.map encSh) 6), (1, .vs (lo.map encN) 1), (2, .int .i64 n), (6, .ptr 0 0), (7, .bool false), (8, .sl 1 0 n 1 (some n)), (9, .sl 2 0 n 1 (some n)), (11, .int .i64 (hotGo s i)), (12, .int .i64 (coldGo s i)), (13, .int .i64 i)],
    [.row [.int .i64 0, .int .i64 0, .int .i64 0, .str [], .nils, .int .i64 0, .str [], .str [], .str [], .bool false, .nils, .str [], .str [], .int .i64 0], .arr (s.map encN) 1, .arr (m.map encN) 1])) (fun i => i ≤ n) (fun i => n - i) 0 (Nat.zero_le _) (by rfl) (by decide) (by simp [hotGo, coldGo]) (by simp) ?_
   intro i hi ih
   by_cases hlt : i < n
   ·have hlt' : (i : Int) < n := by omega
    have hw := wrap_small (n := (i : Int) + 1) (by omega) (by omega)
    have his : i < s.length := by omega
    obtain ⟨x, hx, hxi, -, -⟩ := getL his
    have hhl := hotGo_lt hne i (by omega)
    have hcl := coldGo_lt hne i (by omega)
    obtain ⟨y, hy, hyi, -, -⟩ := getL hhl
    obtain ⟨u, hu, hui, -, -⟩ := getL hcl
    have hhn : hotGo s i < n := by omega
    have hcn : coldGo s i < n := by omega
    have hhn' : (hotGo s i : Int) < n := by omega
    have hcn' : (coldGo s i : Int) < n := by omega
    have g1 : s.getD i 0 = x := by rw [List.getD_eq_getElem?_getD, hx]; rfl
    have g2 : s.getD (hotGo s i) 0 = y := by rw [List.getD_eq_getElem?_getD, hy]; rfl
    have g3 : s.getD (coldGo s i) 0 = u := by rw [List.getD_eq_getElem?_getD, hu]; rfl
    have e1 : hotGo s (i + 1) = if y < x then i else hotGo s i := by rw [hotGo, g1, g2]
    have e2 : coldGo s (i + 1) = if x < u then i else coldGo s i := by rw [coldGo, g1, g3]
    (repeat (first | refine Run.adm rfl ?_ | refine Run.seq ?_ | ((first | apply Run.opS rfl | apply Run.condS); (· (simp -implicitDefEqProofs [hlt, hlt']; first | exact ⟨rfl, rfl⟩ | exact rfl)))))
    refine Run.quiet prog_mixed (by kernel_rfl) ?_
    (repeat (first | refine execQ_E rfl ?_ | (apply execQ_S rfl; (· (simp -implicitDefEqProofs [hlt, hlt', hx, hxi, hhn, hhn', hy, hyi, hsl, encN]; exact ⟨rfl, rfl⟩)))))
    by_cases c1 : y < x
    ·rw [if_pos c1] at e1
     (repeat (first | refine Run.adm rfl ?_ | refine Run.seq ?_ | ((first | apply Run.opS rfl | apply Run.condS); (· (simp -implicitDefEqProofs [c1]; first | exact ⟨rfl, rfl⟩ | exact rfl)))))
     refine Run.quiet prog_mixed (by kernel_rfl) ?_
     (repeat (first | refine execQ_E rfl ?_ | (apply execQ_S rfl; (· (simp -implicitDefEqProofs [hlt, hlt', hx, hxi, hcn, hcn', hu, hui, hsl, encN]; exact ⟨rfl, rfl⟩)))))
     by_cases c2 : x < u
     ·rw [if_pos c2] at e2
      (repeat (first | refine Run.adm rfl ?_ | refine Run.seq ?_ | ((first | apply Run.opS rfl | apply Run.condS); (· (simp -implicitDefEqProofs [c2]; first | exact ⟨rfl, rfl⟩ | exact rfl)))))
      refine Run.mv [0, 1, 2] _ _ (by rfl) (by decide) (by simp -implicitDefEqProofs [hw, e1, e2]) (by simp -implicitDefEqProofs [hw, e1, e2]) (ih (i + 1) ?_ ?_)
      ·omega
      ·omega
     ·rw [if_neg c2] at e2
      (repeat (first | refine Run.adm rfl ?_ | refine Run.seq ?_ | ((first | apply Run.opS rfl | apply Run.condS); (· (simp -implicitDefEqProofs [c2]; first | exact ⟨rfl, rfl⟩ | exact rfl)))))
      refine Run.mv [0, 1, 2] _ _ (by rfl) (by decide) (by simp -implicitDefEqProofs [hw, e1, e2]) (by simp -implicitDefEqProofs [hw, e1, e2]) (ih (i + 1) ?_ ?_)
      ·omega
      ·omega
    ·rw [if_neg c1] at e1
     (repeat (first | refine Run.adm rfl ?_ | refine Run.seq ?_ | ((first | apply Run.opS rfl | apply Run.condS); (· (simp -implicitDefEqProofs [c1]; first | exact ⟨rfl, rfl⟩ | exact rfl)))))
     refine Run.quiet prog_mixed (by kernel_rfl) ?_
     (repeat (first | refine execQ_E rfl ?_ | (apply execQ_S rfl; (· (simp -implicitDefEqProofs [hlt, hlt', hx, hxi, hcn, hcn', hu, hui, hsl, encN]; exact ⟨rfl, rfl⟩)))))
     by_cases c2 : x < u
     ·rw [if_pos c2] at e2
      (repeat (first | refine Run.adm rfl ?_ | refine Run.seq ?_ | ((first | apply Run.opS rfl | apply Run.condS); (· (simp -implicitDefEqProofs [c2]; first | exact ⟨rfl, rfl⟩ | exact rfl)))))
      refine Run.mv [0, 1, 2] _ _ (by rfl) (by decide) (by simp -implicitDefEqProofs [hw, e1, e2]) (by simp -implicitDefEqProofs [hw, e1, e2]) (ih (i + 1) ?_ ?_)
      ·omega
      ·omega
     ·rw [if_neg c2] at e2
      (repeat (first | refine Run.adm rfl ?_ | refine Run.seq ?_ | ((first | apply Run.opS rfl | apply Run.condS); (· (simp -implicitDefEqProofs [c2]; first | exact ⟨rfl, rfl⟩ | exact rfl)))))
      refine Run.mv [0, 1, 2] _ _ (by rfl) (by decide) (by simp -implicitDefEqProofs [hw, e1, e2]) (by simp -implicitDefEqProofs [hw, e1, e2]) (ih (i + 1) ?_ ?_)
      ·omega
      ·omega
   have : i = s.length := by omega
   subst this
   (repeat (first | refine Run.adm rfl ?_ | refine Run.seq ?_ | ((first | apply Run.opS rfl | apply Run.condS); (· (simp -implicitDefEqProofs [hsl]; first | exact ⟨rfl, rfl⟩ | exact rfl)))))
   obtain ⟨mx, hh1, hmx2, hh2⟩ := hot_first hne
   obtain ⟨mn, hc1, hmn2, hc2⟩ := cold_first hne
   have hmx1 := List.mem_of_getElem? hh1
   have hmn1 := List.mem_of_getElem? hc1
   rw [adviseN]
   generalize hotGo s s.length = hot at *
   generalize coldGo s s.length = cold at *
   refine Run.sl [(0, .vs (l.map encSh) 6), (1, .vs (lo.map encN) 1), (6, .ptr 0 0), (7, .bool false), (8, .sl 1 0 n 1 (some n)), (9, .sl 2 0 n 1 (some n)), (11, .int .i64 hot), (12, .int .i64 cold)] (by simp) ?_
   have gh : s.getD hot 0 = mx := by rw [List.getD_eq_getElem?_getD, hh1]; rfl
   have gc : s.getD cold 0 = mn := by rw [List.getD_eq_getElem?_getD, hc1]; rfl
   rw [gh, gc]
   have hhl := (List.getElem?_eq_some_iff.1 hh1).1
   have hcl := (List.getElem?_eq_some_iff.1 hc1).1
   have hhi := (List.getElem?_eq_some_iff.1 hh1).2
   have hci := (List.getElem?_eq_some_iff.1 hc1).2
   have bmx := hsb mx hmx1
   have bmn := hsb mn hmn1
   have wm1 := wrap_small (n := 2 * mn) (by omega) (by omega)
   have wm2 := wrap_small (n := 2 * mn + 8) (by omega) (by omega)
   have hhn : hot < n := by omega
   have hhn' : (hot : Int) < n := by omega
   have hcn : cold < n := by omega
   have hcn' : (cold : Int) < n := by omega
   refine Run.quiet prog_mixed (by kernel_rfl) ?_
   (repeat (first | refine execQ_E rfl ?_ | (apply execQ_S rfl; (· (simp -implicitDefEqProofs [hhn, hhn', hcn, hcn', hh1, hhi, hc1, hci, hsl, encN, wm1, wm2]; exact ⟨rfl, rfl⟩)))))
   by_cases hcalm : mx ≤ 2 * mn + 8
   ·(repeat (first | refine Run.adm rfl ?_ | refine Run.seq ?_ | ((first | apply Run.opS rfl | apply Run.condS); (· (simp -implicitDefEqProofs [hcalm]; first | exact ⟨rfl, rfl⟩ | exact rfl)))))
    rw [if_pos hcalm]
    refine Run.ret Tryz.func33 r33_ok trivial (by simp -implicitDefEqProofs [r33, advV]; rfl) (fun _ => none) (v' := .tup [advV 0 0 [], .bool false]) (h' := []) (namesN _) (by simp [advV]) ⟨rfl, rfl⟩ trivial
   rw [if_neg hcalm]
   have hcalm' : ¬ mx ≤ 2 * mn + 8 := hcalm
   (repeat (first | refine Run.adm rfl ?_ | refine Run.seq ?_ | ((first | apply Run.opS rfl | apply Run.condS); (· (simp -implicitDefEqProofs [hcalm]; first | exact ⟨rfl, rfl⟩ | exact rfl)))))
   refine Run.loopC [0, 1, 2] (fun (i : Nat) => ([(0, .vs (l.map encSh) 6), (1, .vs (lo.map encN) 1), (6, .ptr 0 0), (7, .bool false), (8, .sl 1 0 n 1 (some n)), (9, .sl 2 0 n 1 (some n)), (11, .int .i64 hot), (12, .int .i64 cold), (14, .int .i64 (bestGo l lo hot i)), (15, .int .i64 i)],
    [.row [.int .i64 0, .int .i64 0, .int .i64 0, .str [], .nils, .int .i64 0, .str [], .str [], .str [], .bool false, .nils, .str [], .str [], .int .i64 0], .arr (s.map encN) 1, .arr (m.map encN) 1])) (fun i => i ≤ l.length) (fun i => l.length - i) 0 (Nat.zero_le _) (by rfl) (by decide) (by simp [bestGo]) (by simp) ?_
   intro i hi ih
   have hbl := bestGo_lt l lo hot i
   by_cases hlt : i < l.length
   ·obtain ⟨x, hx, hxi, -, -⟩ := getL hlt
    have hlt2 : i < lo.length := by omega
    obtain ⟨ld, hd, hdi, -, -⟩ := getL hlt2
    have hlt' : (i : Int) < l.length := by omega
    have hlt2' : (i : Int) < lo.length := by omega
    have hw := wrap_small (n := (i : Int) + 1) (by omega) (by omega)
    have hgd : lo.getD i 0 = ld := by rw [List.getD_eq_getElem?_getD, hd]; rfl
    by_cases c1 : x.node = hot
    ·by_cases c2 : bestGo l lo hot i < 0
     ·have hb : bestGo l lo hot (i + 1) = i := by simp only [bestGo]; rw [if_pos]; rw [hx]; exact ⟨c1, .inl c2⟩
      (repeat (first | refine Run.adm rfl ?_ | refine Run.seq ?_ | ((first | apply Run.opS rfl | apply Run.condS); (· (simp -implicitDefEqProofs [hlt, hlt']; first | exact ⟨rfl, rfl⟩ | exact rfl)))))
      refine Run.quiet prog_mixed (by kernel_rfl) ?_
      (repeat (first | refine execQ_E rfl ?_ | (apply execQ_S rfl; (· (simp -implicitDefEqProofs [hlt, hlt', hx, hxi, encSh, c1, c2]; exact ⟨rfl, rfl⟩)))))
      (repeat (first | refine Run.adm rfl ?_ | refine Run.seq ?_ | ((first | apply Run.opS rfl | apply Run.condS); (· (simp -implicitDefEqProofs; first | exact ⟨rfl, rfl⟩ | exact rfl)))))
      refine Run.mv [0, 1, 2] _ _ (by rfl) (by decide) (by simp -implicitDefEqProofs [hw, hb]) (by simp -implicitDefEqProofs [hw, hb]) (ih (i + 1) ?_ ?_)
      ·omega
      ·omega
     ·obtain ⟨b, hb⟩ : ∃ b : Nat, bestGo l lo hot i = b := ⟨(bestGo l lo hot i).toNat, by omega⟩
      rw [hb] at hbl
      have hbl2 : b < lo.length := by omega
      have hbl2' : (b : Int) < lo.length := by omega
      obtain ⟨lb, hlb, hlbi, -, -⟩ := getL hbl2
      have hgb : lo.getD b 0 = lb := by rw [List.getD_eq_getElem?_getD, hlb]; rfl
      have hb0 : ¬ (b : Int) < 0 := by omega
      rw [hb]
      by_cases c3 : lb < ld
      ·have hb' : bestGo l lo hot (i + 1) = i := by simp only [bestGo]; rw [if_pos]; rw [hx, hb, Int.toNat_natCast, hgb, hgd]; exact ⟨c1, .inr c3⟩
       (repeat (first | refine Run.adm rfl ?_ | refine Run.seq ?_ | ((first | apply Run.opS rfl | apply Run.condS); (· (simp -implicitDefEqProofs [hlt, hlt']; first | exact ⟨rfl, rfl⟩ | exact rfl)))))
       refine Run.quiet prog_mixed (by kernel_rfl) ?_
       (repeat (first | refine execQ_E rfl ?_ | (apply execQ_S rfl; (· (simp -implicitDefEqProofs [hlt, hlt', hx, hxi, encSh, c1, hb0, hlt2, hlt2', hd, hdi, hbl2, hbl2', hlb, hlbi, encN, c3]; exact ⟨rfl, rfl⟩)))))
       (repeat (first | refine Run.adm rfl ?_ | refine Run.seq ?_ | ((first | apply Run.opS rfl | apply Run.condS); (· (simp -implicitDefEqProofs [c3]; first | exact ⟨rfl, rfl⟩ | exact rfl)))))
       refine Run.mv [0, 1, 2] _ _ (by rfl) (by decide) (by simp -implicitDefEqProofs [hw, hb']) (by simp -implicitDefEqProofs [hw, hb']) (ih (i + 1) ?_ ?_)
       ·omega
       ·omega
      ·have hb' : bestGo l lo hot (i + 1) = b := by simp only [bestGo]; rw [if_neg, hb]; rw [hx, hb, Int.toNat_natCast, hgb, hgd]; rintro ⟨-, h | h⟩ <;> omega
       (repeat (first | refine Run.adm rfl ?_ | refine Run.seq ?_ | ((first | apply Run.opS rfl | apply Run.condS); (· (simp -implicitDefEqProofs [hlt, hlt']; first | exact ⟨rfl, rfl⟩ | exact rfl)))))
       refine Run.quiet prog_mixed (by kernel_rfl) ?_
       (repeat (first | refine execQ_E rfl ?_ | (apply execQ_S rfl; (· (simp -implicitDefEqProofs [hlt, hlt', hx, hxi, encSh, c1, hb0, hlt2, hlt2', hd, hdi, hbl2, hbl2', hlb, hlbi, encN, c3]; exact ⟨rfl, rfl⟩)))))
       (repeat (first | refine Run.adm rfl ?_ | refine Run.seq ?_ | ((first | apply Run.opS rfl | apply Run.condS); (· (simp -implicitDefEqProofs [c3]; first | exact ⟨rfl, rfl⟩ | exact rfl)))))
       refine Run.mv [0, 1, 2] _ _ (by rfl) (by decide) (by simp -implicitDefEqProofs [hw, hb']) (by simp -implicitDefEqProofs [hw, hb']) (ih (i + 1) ?_ ?_)
       ·omega
       ·omega
    ·have hb' : bestGo l lo hot (i + 1) = bestGo l lo hot i := by simp only [bestGo]; rw [if_neg]; rw [hx]; rintro ⟨h, -⟩; exact c1 h
     (repeat (first | refine Run.adm rfl ?_ | refine Run.seq ?_ | ((first | apply Run.opS rfl | apply Run.condS); (· (simp -implicitDefEqProofs [hlt, hlt']; first | exact ⟨rfl, rfl⟩ | exact rfl)))))
     refine Run.quiet prog_mixed (by kernel_rfl) ?_
     (repeat (first | refine execQ_E rfl ?_ | (apply execQ_S rfl; (· (simp -implicitDefEqProofs [hlt, hlt', hx, hxi, encSh, c1]; exact ⟨rfl, rfl⟩)))))
     (repeat (first | refine Run.adm rfl ?_ | refine Run.seq ?_ | ((first | apply Run.opS rfl | apply Run.condS); (· (simp -implicitDefEqProofs; first | exact ⟨rfl, rfl⟩ | exact rfl)))))
     refine Run.mv [0, 1, 2] _ _ (by rfl) (by decide) (by simp -implicitDefEqProofs [hw, hb']) (by simp -implicitDefEqProofs [hw, hb']) (ih (i + 1) ?_ ?_)
     ·omega
     ·omega
   have : i = l.length := by omega
   subst this
   have hb0 : 0 ≤ bestGo l lo hot l.length := by
    obtain ⟨j, y, hj, hy⟩ := hso (k := hot) (by rw [gh]; omega)
    exact bestGo_some hj hy (List.getElem?_eq_some_iff.1 hj).1
   obtain ⟨b, hb⟩ : ∃ b : Nat, bestGo l lo hot l.length = b := ⟨(bestGo l lo hot l.length).toNat, by omega⟩
   rw [hb] at hbl ⊢
   have hbn : b < l.length := by omega
   obtain ⟨x, hx, hxi, -, -⟩ := getL hbn
   have hbn2 : b < lo.length := by omega
   obtain ⟨lb, hlb, hlbi, -, -⟩ := getL hbn2
   have hbn' : (b : Int) < l.length := by omega
   have hbn2' : (b : Int) < lo.length := by omega
   have hgb : lo.getD b 0 = lb := by rw [List.getD_eq_getElem?_getD, hlb]; rfl
   have hlbb := List.all_eq_true.1 hall _ (List.mem_of_getElem? (zip_get hx hlb))
   simp only [adOk, Bool.and_eq_true, decide_eq_true_eq] at hlbb
   have hwb := wrap_small (n := lb + mn) (by omega) (by omega)
   have hhm : hot < m.length := by omega
   obtain ⟨mh, hmh, hmhi, -, -⟩ := getL hhm
   have hgm : m.getD hot 0 = mh := by rw [List.getD_eq_getElem?_getD, hmh]; rfl
   rw [Int.toNat_natCast, hgb, hgm, hx, Option.map_some, Option.getD_some]
   by_cases ck : x.lo = []
   ·rw [keyA, if_pos ck]
    (repeat (first | refine Run.adm rfl ?_ | refine Run.seq ?_ | ((first | apply Run.opS rfl | apply Run.condS); (· (simp -implicitDefEqProofs [hbn, hbn', hx, hxi, encSh, ck]; first | exact ⟨rfl, rfl⟩ | exact rfl)))))
    by_cases c1 : 1 < mh
    ·by_cases c2 : lb + mn < mx
     ·rw [if_pos ⟨c1, c2⟩]
      refine Run.quiet prog_mixed (by kernel_rfl) ?_
      (repeat (first | refine execQ_E rfl ?_ | (apply execQ_S rfl; (· (simp -implicitDefEqProofs [hhn, hhn', hcn, hcn', hh1, hhi, hc1, hci, hsl, hml, hmh, hmhi, hbn2, hbn2', hlb, hlbi, hwb, encN, c1, c2]; exact ⟨rfl, rfl⟩)))))
      (repeat (first | refine Run.adm rfl ?_ | refine Run.seq ?_ | ((first | apply Run.opS rfl | apply Run.condS); (· (simp -implicitDefEqProofs [c2]; first | exact ⟨rfl, rfl⟩ | exact rfl)))))
      refine Run.ret Tryz.func33 r33_ok trivial (by simp -implicitDefEqProofs [r33, advV]; rfl) (fun _ => none) (v' := .tup [advV 4 cold [0], .bool true]) (h' := []) (namesN _) (by simp [advV]) ⟨rfl, rfl⟩ trivial
     ·rw [if_neg (fun h => c2 h.2)]
      refine Run.quiet prog_mixed (by kernel_rfl) ?_
      (repeat (first | refine execQ_E rfl ?_ | (apply execQ_S rfl; (· (simp -implicitDefEqProofs [hhn, hhn', hcn, hcn', hh1, hhi, hc1, hci, hsl, hml, hmh, hmhi, hbn2, hbn2', hlb, hlbi, hwb, encN, c1, c2]; exact ⟨rfl, rfl⟩)))))
      (repeat (first | refine Run.adm rfl ?_ | refine Run.seq ?_ | ((first | apply Run.opS rfl | apply Run.condS); (· (simp -implicitDefEqProofs [c2]; first | exact ⟨rfl, rfl⟩ | exact rfl)))))
      refine Run.ret Tryz.func33 r33_ok trivial (by simp -implicitDefEqProofs [r33, advV]; rfl) (fun _ => none) (v' := .tup [advV 2 0 [0], .bool true]) (h' := []) (namesN _) (by simp [advV]) ⟨rfl, rfl⟩ trivial
    ·rw [if_neg (fun h => c1 h.1)]
     refine Run.quiet prog_mixed (by kernel_rfl) ?_
     (repeat (first | refine execQ_E rfl ?_ | (apply execQ_S rfl; (· (simp -implicitDefEqProofs [hhn, hhn', hsl, hml, hmh, hmhi, encN, c1]; exact ⟨rfl, rfl⟩)))))
     (repeat (first | refine Run.adm rfl ?_ | refine Run.seq ?_ | ((first | apply Run.opS rfl | apply Run.condS); (· (simp -implicitDefEqProofs [c1]; first | exact ⟨rfl, rfl⟩ | exact rfl)))))
     refine Run.ret Tryz.func33 r33_ok trivial (by simp -implicitDefEqProofs [r33, advV]; rfl) (fun _ => none) (v' := .tup [advV 2 0 [0], .bool true]) (h' := []) (namesN _) (by simp [advV]) ⟨rfl, rfl⟩ trivial
   ·rw [keyA, if_neg ck]
    (repeat (first | refine Run.adm rfl ?_ | refine Run.seq ?_ | ((first | apply Run.opS rfl | apply Run.condS); (· (simp -implicitDefEqProofs [hbn, hbn', hx, hxi, encSh, ck]; first | exact ⟨rfl, rfl⟩ | exact rfl)))))
    by_cases c1 : 1 < mh
    ·by_cases c2 : lb + mn < mx
     ·rw [if_pos ⟨c1, c2⟩]
      refine Run.quiet prog_mixed (by kernel_rfl) ?_
      (repeat (first | refine execQ_E rfl ?_ | (apply execQ_S rfl; (· (simp -implicitDefEqProofs [hhn, hhn', hcn, hcn', hh1, hhi, hc1, hci, hsl, hml, hmh, hmhi, hbn2, hbn2', hlb, hlbi, hwb, encN, c1, c2]; exact ⟨rfl, rfl⟩)))))
      (repeat (first | refine Run.adm rfl ?_ | refine Run.seq ?_ | ((first | apply Run.opS rfl | apply Run.condS); (· (simp -implicitDefEqProofs [c2]; first | exact ⟨rfl, rfl⟩ | exact rfl)))))
      refine Run.ret Tryz.func33 r33_ok trivial (by simp -implicitDefEqProofs [r33, advV]; rfl) (fun _ => none) (v' := .tup [advV 4 cold x.lo, .bool true]) (h' := []) (namesN _) (by simp [advV]) ⟨rfl, rfl⟩ trivial
     ·rw [if_neg (fun h => c2 h.2)]
      refine Run.quiet prog_mixed (by kernel_rfl) ?_
      (repeat (first | refine execQ_E rfl ?_ | (apply execQ_S rfl; (· (simp -implicitDefEqProofs [hhn, hhn', hcn, hcn', hh1, hhi, hc1, hci, hsl, hml, hmh, hmhi, hbn2, hbn2', hlb, hlbi, hwb, encN, c1, c2]; exact ⟨rfl, rfl⟩)))))
      (repeat (first | refine Run.adm rfl ?_ | refine Run.seq ?_ | ((first | apply Run.opS rfl | apply Run.condS); (· (simp -implicitDefEqProofs [c2]; first | exact ⟨rfl, rfl⟩ | exact rfl)))))
      refine Run.ret Tryz.func33 r33_ok trivial (by simp -implicitDefEqProofs [r33, advV]; rfl) (fun _ => none) (v' := .tup [advV 2 0 x.lo, .bool true]) (h' := []) (namesN _) (by simp [advV]) ⟨rfl, rfl⟩ trivial
    ·rw [if_neg (fun h => c1 h.1)]
     refine Run.quiet prog_mixed (by kernel_rfl) ?_
     (repeat (first | refine execQ_E rfl ?_ | (apply execQ_S rfl; (· (simp -implicitDefEqProofs [hhn, hhn', hsl, hml, hmh, hmhi, encN, c1]; exact ⟨rfl, rfl⟩)))))
     (repeat (first | refine Run.adm rfl ?_ | refine Run.seq ?_ | ((first | apply Run.opS rfl | apply Run.condS); (· (simp -implicitDefEqProofs [c1]; first | exact ⟨rfl, rfl⟩ | exact rfl)))))
     refine Run.ret Tryz.func33 r33_ok trivial (by simp -implicitDefEqProofs [r33, advV]; rfl) (fun _ => none) (v' := .tup [advV 2 0 x.lo, .bool true]) (h' := []) (namesN _) (by simp [advV]) ⟨rfl, rfl⟩ trivial
attribute [local simp ↓] upd_app tl_cons tl_nil
theorem adviseM_form (l lo nodes) : ∃ k n key ok, adviseM l lo nodes = .tup [advV k n key, .bool ok] := by
 simp only [adviseM, adviseN]
 split
 ·exact ⟨_, _, _, _, rfl⟩
 ·split
  ·exact ⟨_, _, _, _, rfl⟩
  ·split
   ·exact ⟨_, _, _, _, rfl⟩
   ·exact ⟨_, _, _, _, rfl⟩
theorem advises_law (l : List ShM) (lo : List Int) (nodes : Int) :
  Tri Tryz.prog 7 [.vs (l.map encSh) 6, .vs (lo.map encN) 1, .int .i64 nodes] [] (fun v H => v = .bool true ∧ H = []) := by
 refine Tri.of_run' Tryz.func7 rfl c7_ok (by simp [Tryz.ntmps7]) ?_
 by_cases h1 : 70 < l.length
 ·have h1' : (70 : Int) < l.length := by omega
  (repeat (first | refine Run.adm rfl ?_ | refine Run.seq ?_ | ((first | apply Run.opS rfl | apply Run.condS); (· (simp -implicitDefEqProofs [h1, h1']; first | exact ⟨rfl, rfl⟩ | exact rfl)))))
  refine Run.opC rfl rfl rfl (dawake_at _) ?_
  rintro v H ⟨rfl, rfl⟩
  (repeat (first | refine Run.adm rfl ?_ | refine Run.seq ?_ | ((first | apply Run.opS rfl | apply Run.condS); (· (simp -implicitDefEqProofs; first | exact ⟨rfl, rfl⟩ | exact rfl)))))
  refine Run.ret Tryz.func7 r7_ok trivial (by simp -implicitDefEqProofs [r7]; rfl) (fun _ => none) (v' := .bool true) (h' := []) (namesN _) (by simp) ⟨rfl, rfl⟩ trivial
 have h1' : ¬ (70 : Int) < l.length := by omega
 by_cases h2 : 70 < lo.length
 ·have h2' : (70 : Int) < lo.length := by omega
  (repeat (first | refine Run.adm rfl ?_ | refine Run.seq ?_ | ((first | apply Run.opS rfl | apply Run.condS); (· (simp -implicitDefEqProofs [h1, h1', h2, h2']; first | exact ⟨rfl, rfl⟩ | exact rfl)))))
  refine Run.opC rfl rfl rfl (dawake_at _) ?_
  rintro v H ⟨rfl, rfl⟩
  (repeat (first | refine Run.adm rfl ?_ | refine Run.seq ?_ | ((first | apply Run.opS rfl | apply Run.condS); (· (simp -implicitDefEqProofs; first | exact ⟨rfl, rfl⟩ | exact rfl)))))
  refine Run.ret Tryz.func7 r7_ok trivial (by simp -implicitDefEqProofs [r7]; rfl) (fun _ => none) (v' := .bool true) (h' := []) (namesN _) (by simp) ⟨rfl, rfl⟩ trivial
 have h2' : ¬ (70 : Int) < lo.length := by omega
 (repeat (first | refine Run.adm rfl ?_ | refine Run.seq ?_ | ((first | apply Run.opS rfl | apply Run.condS); (· (simp -implicitDefEqProofs [h1, h1', h2, h2']; first | exact ⟨rfl, rfl⟩ | exact rfl)))))
 refine Run.loopC [] (fun (i : Nat) => ([(0, .vs (l.map encSh) 6), (1, .vs (lo.map encN) 1), (2, .int .i64 nodes), (7, .int .i64 i)], [])) (fun i => i ≤ l.length) (fun i => l.length - i) 0 (Nat.zero_le _) (by rfl) (by decide) (by simp) (by simp) ?_
 intro i hi ih
 by_cases hlt : i < l.length
 ·obtain ⟨x, hx, hxi, -, -⟩ := getL hlt
  have hlt' : (i : Int) < l.length := by omega
  have hw := wrap_small (n := (i : Int) + 1) (by omega) (by omega)
  by_cases h3 : 100 < x.lo.length
  ·have h3' : (100 : Int) < x.lo.length := by omega
   (repeat (first | refine Run.adm rfl ?_ | refine Run.seq ?_ | ((first | apply Run.opS rfl | apply Run.condS); (· (simp -implicitDefEqProofs [hlt, hlt', hx, hxi, encSh, h3, h3']; first | exact ⟨rfl, rfl⟩ | exact rfl)))))
   refine Run.opC rfl rfl rfl (dawake_at _) ?_
   rintro v H ⟨rfl, rfl⟩
   (repeat (first | refine Run.adm rfl ?_ | refine Run.seq ?_ | ((first | apply Run.opS rfl | apply Run.condS); (· (simp -implicitDefEqProofs; first | exact ⟨rfl, rfl⟩ | exact rfl)))))
   refine Run.ret Tryz.func7 r7_ok trivial (by simp -implicitDefEqProofs [r7]; rfl) (fun _ => none) (v' := .bool true) (h' := []) (namesN _) (by simp) ⟨rfl, rfl⟩ trivial
  ·have h3' : ¬ (100 : Int) < x.lo.length := by omega
   (repeat (first | refine Run.adm rfl ?_ | refine Run.seq ?_ | ((first | apply Run.opS rfl | apply Run.condS); (· (simp -implicitDefEqProofs [hlt, hlt', hx, hxi, encSh, h3, h3']; first | exact ⟨rfl, rfl⟩ | exact rfl)))))
   refine Run.mv [] _ _ (by rfl) (by decide) (by simp -implicitDefEqProofs [hw]) (by simp -implicitDefEqProofs [hw]) (ih (i + 1) ?_ ?_)
   ·omega
   ·omega
 have : i = l.length := by omega
 subst this
 obtain ⟨k, n, key, ok, hf⟩ := adviseM_form l lo nodes
 (repeat (first | refine Run.adm rfl ?_ | refine Run.seq ?_ | ((first | apply Run.opS rfl | apply Run.condS); (· (simp -implicitDefEqProofs; first | exact ⟨rfl, rfl⟩ | exact rfl)))))
 have d1 := dadvise_tri l lo nodes (by omega) (by omega)
 have d2 := radvise_tri l lo nodes (by omega) (by omega)
 rw [hf] at d1 d2
 refine Run.opC rfl rfl rfl d1 ?_
 rintro v H ⟨rfl, rfl⟩
 (repeat (first | refine Run.adm rfl ?_ | refine Run.seq ?_ | ((first | apply Run.opS rfl | apply Run.condS); (· (simp -implicitDefEqProofs [advV]; first | exact ⟨rfl, rfl⟩ | exact rfl)))))
 refine Run.opC rfl rfl rfl (d2.at rfl rfl _) ?_
 rintro v H ⟨rfl, rfl⟩
 (repeat (first | refine Run.adm rfl ?_ | refine Run.seq ?_ | ((first | apply Run.opS rfl | apply Run.condS); (· (simp -implicitDefEqProofs [advV]; first | exact ⟨rfl, rfl⟩ | exact rfl)))))
 refine Run.opC rfl (by simp) rfl (dawake_at _) ?_
 rintro v H ⟨rfl, rfl⟩
 (repeat (first | refine Run.adm rfl ?_ | refine Run.seq ?_ | ((first | apply Run.opS rfl | apply Run.condS); (· (simp -implicitDefEqProofs; first | exact ⟨rfl, rfl⟩ | exact rfl)))))
 refine Run.ret Tryz.func7 r7_ok trivial (by simp -implicitDefEqProofs [r7]; rfl) (fun _ => none) (v' := .bool true) (h' := []) (namesN _) (by simp) ⟨rfl, rfl⟩ trivial
open Sx Go Go.RowKit
theorem dec_num (e : List V) (h : VShs [.i .i64] e) : ∃ x : Int, e = encN x := by
 obtain ⟨a1, r1, rfl, g1, h1⟩ := dec_cons h; obtain ⟨s, rfl, -⟩ := dec_i g1
 obtain rfl := dec_nil h1
 exact ⟨s, rfl⟩
theorem dec_nums {v : V} (h : VSh (.l [.i .i64]) v) : ∃ l : List Int, v = .vs (l.map encN) 1 := dec_sl rfl dec_num h
theorem dec_shard (e : List V) (h : VShs [.i .i64, .s, .s, .i .i64, .i .i64, .i .i64] e) : ∃ x, e = encSh x := by
 obtain ⟨v1, r1, rfl, g1, h1⟩ := dec_cons h; obtain ⟨a, rfl, -⟩ := dec_i g1
 obtain ⟨v2, r2, rfl, g2, h2⟩ := dec_cons h1; obtain ⟨b, rfl⟩ := dec_s g2
 obtain ⟨v3, r3, rfl, g3, h3⟩ := dec_cons h2; obtain ⟨c, rfl⟩ := dec_s g3
 obtain ⟨v4, r4, rfl, g4, h4⟩ := dec_cons h3; obtain ⟨d, rfl, -⟩ := dec_i g4
 obtain ⟨v5, r5, rfl, g5, h5⟩ := dec_cons h4; obtain ⟨f, rfl, -⟩ := dec_i g5
 obtain ⟨v6, r6, rfl, g6, h6⟩ := dec_cons h5; obtain ⟨g, rfl, -⟩ := dec_i g6
 obtain rfl := dec_nil h6
 exact ⟨⟨a, b, c, d, f, g⟩, rfl⟩
theorem dec_shards {v : V} (h : VSh (.l [.i .i64, .s, .s, .i .i64, .i .i64, .i .i64]) v) : ∃ l : List ShM, v = .vs (l.map encSh) 6 := dec_sl rfl dec_shard h
end Go.Proofs.YthphkcpbglhabaaGreatDoor
