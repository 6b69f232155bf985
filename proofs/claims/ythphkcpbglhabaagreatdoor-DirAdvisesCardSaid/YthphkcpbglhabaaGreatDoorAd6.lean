/-
  Texts of this claim, laid together by a program (wip/tools/shrink.py).
-/
import Derived.Test.YthphkcpbglhabaaGreatDoorAd5
namespace Go.Proofs.YthphkcpbglhabaaGreatDoor
open Sx Go
set_option maxRecDepth 100000
set_option linter.unusedSimpArgs false
set_option linter.unusedVariables false
set_option linter.unnecessarySimpa false
attribute [local simp] stepV condR boundsC appendG appendO copyV srcC guardB isCall opStep Opd.ev put readAt aBin aUn args0 V.celled V.ones V.one V.cells putAt bounds bound1 elemsOf srcOf appendV fillAt fillEl V.pures V.pure unwind evs ARes.ev mkRes V.ren V.renL O.ren eqCells eq1 aEq aMM hasTy hasTyN okTy mmGo Known HLe OLe VsLe.refl VLe.refl VLe.cap Stay VsLe V.frz V.frzL O.frz fr clearV rn KnownR Objs OLeO ObjsE nm back V.calls setAll ren_ite take_map_len List.take_of_length_le
attribute [local simp ↓] upd_app tl_cons tl_nil
attribute [local simp] encS_ren encS_ones encS_len encS_take KnownS VLe.refl
theorem StayX.refl (L m Y) : StayX L m Y Y := fun _ _ _ => rfl
theorem StayX.trans {L m Y Z W} (h : StayX L m Y Z) (k : StayX L m Z W) : StayX L m Y W := fun i hi hn => (k i hi hn).trans (h i hi hn)
def fitT {α : Type} (_ : α) : Bool := true
def OneO {α : Type} (f : Nat) (enc : α → List V) (B : α → Bs) (okE fit : α → Bool) : Prop := ∀ {L r c x a t o Y e}, WS true L r x a (B e ++ t) o (enc e) Y → c ∈ L → c ≠ x → Y[c]? = some (.row [.ifc (WTy true) r]) →
 Tri Tryz.prog f [.ptr x 0, .ptr c 0] Y (fun v Z => v = .bool (fit e) ∧ (∃ a' q cs, WS true L r x a' t q cs Z ∧ a'.length ≤ a.length + (B e).length ∧ (fit e = true → a' = a ++ B e ∧ q = (o && okE e))) ∧ StayX L x Y Z)
structure WrM where
 key : Bs
 val : Bs
 gone : Bool
def encW (w : WrM) : List V := [.str w.key, .str w.val, .bool w.gone]
def wrB (w : WrM) : Bs := xB w.key ++ (xB w.val ++ nB (bI w.gone))
def wrOk (w : WrM) : Bool := xOk w.key && xOk w.val
theorem oneW : OneO 208 encW wrB wrOk fitT := by
 intro L r c x a t o Y e h hc hcx hw
 have st := StayX.refl L x Y
 simp only [wrB, List.append_assoc] at h
 show Tri Tryz.prog 208 _ _ _
 refine Tri.of_run' Tryz.func208 rfl c208_ok (by simp [Tryz.ntmps208]) ?_
 (repeat (first | refine Run.adm rfl ?_ | refine Run.seq ?_ | ((first | apply Run.opS rfl | apply Run.condS); (· (simp -implicitDefEqProofs; first | exact ⟨rfl, rfl⟩ | exact rfl)))))
 refine Run.qchain prog_mixed 7 (by kernel_rfl) ?_
 (repeat (first | refine execQ_E rfl ?_ | (apply execQ_S rfl; (· (simp -implicitDefEqProofs [hw, wtxt_m]; exact ⟨rfl, rfl⟩)))))
 refine SeqR.C rfl rfl (by simp [wtxt_tbl]) (ws_txt (x := e.key) (off := 0) h rfl (fun _ => rfl) (fun e => by cases e)) ?_
 rintro v Z ⟨rfl, h2, s2⟩
 replace hw := (s2 c hc hcx).trans hw
 replace st := st.trans s2
 replace h := h2
 clear h2 s2
 (repeat (first | refine SeqR.E rfl ?_ | (apply SeqR.o0 rfl; (· (simp -implicitDefEqProofs; exact ⟨rfl, rfl⟩))) | (apply SeqR.A rfl; (· (simp -implicitDefEqProofs; done)); (· (simp -implicitDefEqProofs; exact ⟨rfl, rfl⟩))) | (apply SeqR.N rfl; (· (simp -implicitDefEqProofs; done)))))
 (repeat (first | refine Run.adm rfl ?_ | refine Run.seq ?_ | ((first | apply Run.opS rfl | apply Run.condS); (· (simp -implicitDefEqProofs; first | exact ⟨rfl, rfl⟩ | exact rfl)))))
 refine Run.qchain prog_mixed 7 (by kernel_rfl) ?_
 (repeat (first | refine execQ_E rfl ?_ | (apply execQ_S rfl; (· (simp -implicitDefEqProofs [hw, wtxt_m]; exact ⟨rfl, rfl⟩)))))
 refine SeqR.C rfl rfl (by simp [wtxt_tbl]) (ws_txt (x := e.val) (off := 1) h rfl (fun _ => rfl) (fun e => by cases e)) ?_
 rintro v Z ⟨rfl, h2, s2⟩
 replace hw := (s2 c hc hcx).trans hw
 replace st := st.trans s2
 replace h := h2
 clear h2 s2
 (repeat (first | refine SeqR.E rfl ?_ | (apply SeqR.o0 rfl; (· (simp -implicitDefEqProofs; exact ⟨rfl, rfl⟩))) | (apply SeqR.A rfl; (· (simp -implicitDefEqProofs; done)); (· (simp -implicitDefEqProofs; exact ⟨rfl, rfl⟩))) | (apply SeqR.N rfl; (· (simp -implicitDefEqProofs; done)))))
 (repeat (first | refine Run.adm rfl ?_ | refine Run.seq ?_ | ((first | apply Run.opS rfl | apply Run.condS); (· (simp -implicitDefEqProofs; first | exact ⟨rfl, rfl⟩ | exact rfl)))))
 refine Run.qchain prog_mixed 4 (by kernel_rfl) ?_
 (repeat (first | refine execQ_E rfl ?_ | (apply execQ_S rfl; (· (simp -implicitDefEqProofs [hw]; exact ⟨rfl, rfl⟩)))))
 refine SeqR.C rfl rfl rfl (flag_tri (b := e.gone) (off := 2) h rfl (fun _ => rfl)) ?_
 rintro v Z ⟨rfl, h2, s2⟩
 replace hw := (s2 c hc hcx).trans hw
 replace st := st.trans s2
 replace h := h2
 clear h2 s2
 (repeat (first | refine SeqR.E rfl ?_ | (apply SeqR.o0 rfl; (· (simp -implicitDefEqProofs; exact ⟨rfl, rfl⟩))) | (apply SeqR.A rfl; (· (simp -implicitDefEqProofs; done)); (· (simp -implicitDefEqProofs; exact ⟨rfl, rfl⟩))) | (apply SeqR.N rfl; (· (simp -implicitDefEqProofs; done)))))
 (repeat (first | refine Run.adm rfl ?_ | refine Run.seq ?_ | ((first | apply Run.opS rfl | apply Run.condS); (· (simp -implicitDefEqProofs; first | exact ⟨rfl, rfl⟩ | exact rfl)))))
 refine Run.retS Tryz.func208 r208_ok trivial (by simp [r208]; rfl) ?_
 exact ⟨rfl, ⟨_, _, _, h, by simp [wrB, Nat.add_assoc], fun _ => ⟨by simp [wrB], by simp [wrOk, Bool.and_assoc]⟩⟩, st⟩
structure PrM where
 key : Bs
 val : Bs
def encPr (w : PrM) : List V := [.str w.key, .str w.val]
def prB (w : PrM) : Bs := xB w.key ++ xB w.val
def prOk (w : PrM) : Bool := xOk w.key && xOk w.val
theorem onePr : OneO 175 encPr prB prOk fitT := by
 intro L r c x a t o Y e h hc hcx hw
 have st := StayX.refl L x Y
 simp only [prB, List.append_assoc] at h
 show Tri Tryz.prog 175 _ _ _
 refine Tri.of_run' Tryz.func175 rfl c175_ok (by simp [Tryz.ntmps175]) ?_
 (repeat (first | refine Run.adm rfl ?_ | refine Run.seq ?_ | ((first | apply Run.opS rfl | apply Run.condS); (· (simp -implicitDefEqProofs; first | exact ⟨rfl, rfl⟩ | exact rfl)))))
 refine Run.qchain prog_mixed 7 (by kernel_rfl) ?_
 (repeat (first | refine execQ_E rfl ?_ | (apply execQ_S rfl; (· (simp -implicitDefEqProofs [hw, wtxt_m]; exact ⟨rfl, rfl⟩)))))
 refine SeqR.C rfl rfl (by simp [wtxt_tbl]) (ws_txt (x := e.key) (off := 0) h rfl (fun _ => rfl) (fun e => by cases e)) ?_
 rintro v Z ⟨rfl, h2, s2⟩
 replace hw := (s2 c hc hcx).trans hw
 replace st := st.trans s2
 replace h := h2
 clear h2 s2
 (repeat (first | refine SeqR.E rfl ?_ | (apply SeqR.o0 rfl; (· (simp -implicitDefEqProofs; exact ⟨rfl, rfl⟩))) | (apply SeqR.A rfl; (· (simp -implicitDefEqProofs; done)); (· (simp -implicitDefEqProofs; exact ⟨rfl, rfl⟩))) | (apply SeqR.N rfl; (· (simp -implicitDefEqProofs; done)))))
 (repeat (first | refine Run.adm rfl ?_ | refine Run.seq ?_ | ((first | apply Run.opS rfl | apply Run.condS); (· (simp -implicitDefEqProofs; first | exact ⟨rfl, rfl⟩ | exact rfl)))))
 refine Run.qchain prog_mixed 7 (by kernel_rfl) ?_
 (repeat (first | refine execQ_E rfl ?_ | (apply execQ_S rfl; (· (simp -implicitDefEqProofs [hw, wtxt_m]; exact ⟨rfl, rfl⟩)))))
 refine SeqR.C rfl rfl (by simp [wtxt_tbl]) (ws_txt (x := e.val) (off := 1) h rfl (fun _ => rfl) (fun e => by cases e)) ?_
 rintro v Z ⟨rfl, h2, s2⟩
 replace hw := (s2 c hc hcx).trans hw
 replace st := st.trans s2
 replace h := h2
 clear h2 s2
 (repeat (first | refine SeqR.E rfl ?_ | (apply SeqR.o0 rfl; (· (simp -implicitDefEqProofs; exact ⟨rfl, rfl⟩))) | (apply SeqR.A rfl; (· (simp -implicitDefEqProofs; done)); (· (simp -implicitDefEqProofs; exact ⟨rfl, rfl⟩))) | (apply SeqR.N rfl; (· (simp -implicitDefEqProofs; done)))))
 (repeat (first | refine Run.adm rfl ?_ | refine Run.seq ?_ | ((first | apply Run.opS rfl | apply Run.condS); (· (simp -implicitDefEqProofs; first | exact ⟨rfl, rfl⟩ | exact rfl)))))
 refine Run.retS Tryz.func175 r175_ok trivial (by simp [r175]; rfl) ?_
 exact ⟨rfl, ⟨_, _, _, h, by simp [prB, Nat.add_assoc], fun _ => ⟨by simp [prB], by simp [prOk, Bool.and_assoc]⟩⟩, st⟩
structure ETM where
 key : Bs
 val : Bs
 gone : Bool
 seq : Int
def encET (w : ETM) : List V := [.str w.key, .str w.val, .bool w.gone, .int .i64 w.seq]
def etB (w : ETM) : Bs := xB w.key ++ (xB w.val ++ (nB (bI w.gone) ++ nB w.seq))
def etOk (w : ETM) : Bool := xOk w.key && xOk w.val && nOk w.seq
theorem oneET : OneO 179 encET etB etOk fitT := by
 intro L r c x a t o Y e h hc hcx hw
 have st := StayX.refl L x Y
 simp only [etB, List.append_assoc] at h
 show Tri Tryz.prog 179 _ _ _
 refine Tri.of_run' Tryz.func179 rfl c179_ok (by simp [Tryz.ntmps179]) ?_
 (repeat (first | refine Run.adm rfl ?_ | refine Run.seq ?_ | ((first | apply Run.opS rfl | apply Run.condS); (· (simp -implicitDefEqProofs; first | exact ⟨rfl, rfl⟩ | exact rfl)))))
 refine Run.qchain prog_mixed 7 (by kernel_rfl) ?_
 (repeat (first | refine execQ_E rfl ?_ | (apply execQ_S rfl; (· (simp -implicitDefEqProofs [hw, wtxt_m]; exact ⟨rfl, rfl⟩)))))
 refine SeqR.C rfl rfl (by simp [wtxt_tbl]) (ws_txt (x := e.key) (off := 0) h rfl (fun _ => rfl) (fun e => by cases e)) ?_
 rintro v Z ⟨rfl, h2, s2⟩
 replace hw := (s2 c hc hcx).trans hw
 replace st := st.trans s2
 replace h := h2
 clear h2 s2
 (repeat (first | refine SeqR.E rfl ?_ | (apply SeqR.o0 rfl; (· (simp -implicitDefEqProofs; exact ⟨rfl, rfl⟩))) | (apply SeqR.A rfl; (· (simp -implicitDefEqProofs; done)); (· (simp -implicitDefEqProofs; exact ⟨rfl, rfl⟩))) | (apply SeqR.N rfl; (· (simp -implicitDefEqProofs; done)))))
 (repeat (first | refine Run.adm rfl ?_ | refine Run.seq ?_ | ((first | apply Run.opS rfl | apply Run.condS); (· (simp -implicitDefEqProofs; first | exact ⟨rfl, rfl⟩ | exact rfl)))))
 refine Run.qchain prog_mixed 7 (by kernel_rfl) ?_
 (repeat (first | refine execQ_E rfl ?_ | (apply execQ_S rfl; (· (simp -implicitDefEqProofs [hw, wtxt_m]; exact ⟨rfl, rfl⟩)))))
 refine SeqR.C rfl rfl (by simp [wtxt_tbl]) (ws_txt (x := e.val) (off := 1) h rfl (fun _ => rfl) (fun e => by cases e)) ?_
 rintro v Z ⟨rfl, h2, s2⟩
 replace hw := (s2 c hc hcx).trans hw
 replace st := st.trans s2
 replace h := h2
 clear h2 s2
 (repeat (first | refine SeqR.E rfl ?_ | (apply SeqR.o0 rfl; (· (simp -implicitDefEqProofs; exact ⟨rfl, rfl⟩))) | (apply SeqR.A rfl; (· (simp -implicitDefEqProofs; done)); (· (simp -implicitDefEqProofs; exact ⟨rfl, rfl⟩))) | (apply SeqR.N rfl; (· (simp -implicitDefEqProofs; done)))))
 (repeat (first | refine Run.adm rfl ?_ | refine Run.seq ?_ | ((first | apply Run.opS rfl | apply Run.condS); (· (simp -implicitDefEqProofs; first | exact ⟨rfl, rfl⟩ | exact rfl)))))
 refine Run.qchain prog_mixed 4 (by kernel_rfl) ?_
 (repeat (first | refine execQ_E rfl ?_ | (apply execQ_S rfl; (· (simp -implicitDefEqProofs [hw]; exact ⟨rfl, rfl⟩)))))
 refine SeqR.C rfl rfl rfl (flag_tri (b := e.gone) (off := 2) h rfl (fun _ => rfl)) ?_
 rintro v Z ⟨rfl, h2, s2⟩
 replace hw := (s2 c hc hcx).trans hw
 replace st := st.trans s2
 replace h := h2
 clear h2 s2
 (repeat (first | refine SeqR.E rfl ?_ | (apply SeqR.o0 rfl; (· (simp -implicitDefEqProofs; exact ⟨rfl, rfl⟩))) | (apply SeqR.A rfl; (· (simp -implicitDefEqProofs; done)); (· (simp -implicitDefEqProofs; exact ⟨rfl, rfl⟩))) | (apply SeqR.N rfl; (· (simp -implicitDefEqProofs; done)))))
 (repeat (first | refine Run.adm rfl ?_ | refine Run.seq ?_ | ((first | apply Run.opS rfl | apply Run.condS); (· (simp -implicitDefEqProofs; first | exact ⟨rfl, rfl⟩ | exact rfl)))))
 refine Run.qchain prog_mixed 7 (by kernel_rfl) ?_
 (repeat (first | refine execQ_E rfl ?_ | (apply execQ_S rfl; (· (simp -implicitDefEqProofs [hw, wnum_m]; exact ⟨rfl, rfl⟩)))))
 refine SeqR.C rfl rfl (by simp [wnum_tbl]) (ws_num (n := e.seq) (off := 3) h rfl (fun _ => rfl) (fun e => by cases e)) ?_
 rintro v Z ⟨rfl, h2, s2⟩
 replace hw := (s2 c hc hcx).trans hw
 replace st := st.trans s2
 replace h := h2
 clear h2 s2
 (repeat (first | refine SeqR.E rfl ?_ | (apply SeqR.o0 rfl; (· (simp -implicitDefEqProofs; exact ⟨rfl, rfl⟩))) | (apply SeqR.A rfl; (· (simp -implicitDefEqProofs; done)); (· (simp -implicitDefEqProofs; exact ⟨rfl, rfl⟩))) | (apply SeqR.N rfl; (· (simp -implicitDefEqProofs; done)))))
 (repeat (first | refine Run.adm rfl ?_ | refine Run.seq ?_ | ((first | apply Run.opS rfl | apply Run.condS); (· (simp -implicitDefEqProofs; first | exact ⟨rfl, rfl⟩ | exact rfl)))))
 refine Run.retS Tryz.func179 r179_ok trivial (by simp [r179]; rfl) ?_
 exact ⟨rfl, ⟨_, _, _, h, by simp [etB, Nat.add_assoc], fun _ => ⟨by simp [etB], by simp [etOk, Bool.and_assoc]⟩⟩, st⟩
attribute [local simp ↓] upd_app tl_cons tl_nil
def hdB (e : Int) (v : Bs) (b : Bool) : Bs := nB e ++ (xB v ++ nB (bI b))
theorem lset_ne {cs : List V} {i j : Nat} {v x : V} (h : cs[j]? = some x) (hn : i ≠ j) : (cs.set i v)[j]? = some x := by rw [List.getElem?_set_ne hn]; exact h
theorem head_tri {k : Bool} {L : List Nat} {r m off : Nat} {a t : Bs} {ok : Bool} {cs : List V} {Y : List O} {e e0 : Int} {v v0 : Bs} {b b0 : Bool} (h : WS k L r m a (hdB e v b ++ t) ok cs Y) (c0 : cs[off]? = some (.int .i64 e0)) (c1 : cs[off + 1]? = some (.str v0)) (c2 : cs[off + 2]? = some (.bool b0))
  (ho : k = true → e0 = e ∧ v0 = v ∧ b0 = b) (hi : k = false → nOk e = true ∧ xOk v = true) :
  Tri Tryz.prog 173 [.ifc (WTy k) r, .ptr m off] Y (fun w Z => w = .bool true ∧ WS k L r m (a ++ hdB e v b) t (ok && (nOk e && xOk v)) (((cs.set off (.int .i64 e)).set (off + 1) (.str v)).set (off + 2) (.bool b)) Z ∧ StayX L m Y Z) := by
 have hlt := h.lt m h.mem
 have hY := h.row
 simp only [hdB, List.append_assoc] at h
 have h1 : WS k (Y.length :: L) r Y.length a (nB e ++ (xB v ++ (nB (bI b) ++ t))) ok [.int .i64 e0] (Y ++ [.row [.int .i64 e0]]) := ⟨h.way.more _, by simp, by simp, h.len⟩
 have hlo : off + 1 ≤ cs.length := (List.getElem?_eq_some_iff.1 c0).1
 have htri := ws_num (off := 0) h1 rfl (fun e => (ho e).1) (fun e => (hi e).1)
 have hYm : ∀ o, (Y ++ [o])[m]? = some (.row cs) := fun o => getA hY _
 refine Tri.of_run' Tryz.func173 rfl c173_ok (by simp [Tryz.ntmps173]) ?_
 (repeat (first | refine Run.adm rfl ?_ | refine Run.seq ?_ | ((first | apply Run.opS rfl | apply Run.condS); (· (simp -implicitDefEqProofs [hY, hYm, c0]; first | exact ⟨rfl, rfl⟩ | exact rfl)))))
 refine Run.opC rfl rfl (by simp [wnum_tbl]) htri ?_
 rintro v' Z ⟨rfl, h2, st⟩
 have g0 : ∀ i ∈ L, Z[i]? = Y[i]? := fun i hi => by
  have := h.lt i hi
  rw [st i (by simp [hi]) (by omega), List.getElem?_append_left this]
 have g1 : Z[m]? = some (.row cs) := by rw [g0 m h.mem]; exact hY
 have z1 : Z[Y.length]? = some (.row [.int .i64 e]) := h2.row
 have h3 : WS k L r m (a ++ nB e) (xB v ++ (nB (bI b) ++ t)) (ok && nOk e) cs Z := ⟨h2.way.sub (fun i hi => by simp [hi]), h.mem, g1, h2.len⟩
 replace h3 := h3.put (cs.set off (.int .i64 e))
 have s3 : StayX L m Y (Z.set m (.row (cs.set off (.int .i64 e)))) := fun i hi hn => by rw [setN (Ne.symm hn)]; exact g0 i hi
 (repeat (first | refine Run.adm rfl ?_ | refine Run.seq ?_ | ((first | apply Run.opS rfl | apply Run.condS); (· (simp -implicitDefEqProofs [g1, z1, hlo, set_at c0]; first | exact ⟨rfl, rfl⟩ | exact rfl)))))
 generalize Z.set m (.row (cs.set off (.int .i64 e))) = W at h3 s3 ⊢
 refine Run.qchain prog_mixed 7 (by kernel_rfl) ?_
 (repeat (first | refine execQ_E rfl ?_ | (apply execQ_S rfl; (· (simp -implicitDefEqProofs [wtxt_m]; exact ⟨rfl, rfl⟩)))))
 refine SeqR.C rfl rfl (by simp [wtxt_tbl]) (ws_txt (x := v) (off := off + 1) h3 (lset_ne c1 (by omega)) (fun e => (ho e).2.1) (fun e => (hi e).2)) ?_
 rintro v' W2 ⟨rfl, h4, s4⟩
 (repeat (first | refine SeqR.E rfl ?_ | (apply SeqR.o0 rfl; (· (simp -implicitDefEqProofs; exact ⟨rfl, rfl⟩))) | (apply SeqR.A rfl; (· (simp -implicitDefEqProofs; done)); (· (simp -implicitDefEqProofs; exact ⟨rfl, rfl⟩))) | (apply SeqR.N rfl; (· (simp -implicitDefEqProofs; done)))))
 (repeat (first | refine Run.adm rfl ?_ | refine Run.seq ?_ | ((first | apply Run.opS rfl | apply Run.condS); (· (simp -implicitDefEqProofs; first | exact ⟨rfl, rfl⟩ | exact rfl)))))
 refine Run.opC rfl rfl rfl (flag_tri (b := b) (off := off + 2) h4 (lset_ne (lset_ne c2 (by omega)) (by omega)) (fun e => (ho e).2.2)) ?_
 rintro v' W3 ⟨rfl, h5, s5⟩
 (repeat (first | refine Run.adm rfl ?_ | refine Run.seq ?_ | ((first | apply Run.opS rfl | apply Run.condS); (· (simp -implicitDefEqProofs; first | exact ⟨rfl, rfl⟩ | exact rfl)))))
 refine Run.retS Tryz.func173 r173_ok trivial (by simp [r173]; rfl) ?_
 exact ⟨rfl, by simpa [hdB, Bool.and_assoc] using h5, (s3.trans s4).trans s5⟩
structure ShM where
 id : Int
 lo : Bs
 hi : Bs
 ep : Int
 node : Int
 st : Int
def encSh (x : ShM) : List V := [.int .i64 x.id, .str x.lo, .str x.hi, .int .i64 x.ep, .int .i64 x.node, .int .i64 x.st]
def shB (x : ShM) : Bs := nB x.id ++ (xB x.lo ++ (xB x.hi ++ (nB x.ep ++ (nB x.node ++ nB x.st))))
def shOk (x : ShM) : Bool := nOk x.id && xOk x.lo && xOk x.hi && nOk x.ep && nOk x.node && nOk x.st
theorem oneShG {k : Bool} {L : List Nat} {r c x : Nat} {a t : Bs} {o : Bool} {Y : List O} {e e0 : ShM} (h : WS k L r x a (shB e ++ t) o (encSh e0) Y) (hc : c ∈ L) (hcx : c ≠ x) (hw : Y[c]? = some (.row [.ifc (WTy k) r])) (ho : k = true → e0 = e) (hi : k = false → shOk e = true) :
  Tri Tryz.prog 177 [.ptr x 0, .ptr c 0] Y (fun v Z => v = .bool true ∧ WS k L r x (a ++ shB e) t (o && shOk e) (encSh e) Z ∧ StayX L x Y Z) := by
 have st := StayX.refl L x Y
 have i1 : k = false → nOk e.id = true ∧ xOk e.lo = true ∧ xOk e.hi = true ∧ nOk e.ep = true ∧ nOk e.node = true ∧ nOk e.st = true := fun q => by have := hi q; simp only [shOk, Bool.and_eq_true] at this; simp [this]
 simp only [shB, List.append_assoc] at h
 refine Tri.of_run' Tryz.func177 rfl c177_ok (by simp [Tryz.ntmps177]) ?_
 (repeat (first | refine Run.adm rfl ?_ | refine Run.seq ?_ | ((first | apply Run.opS rfl | apply Run.condS); (· (simp -implicitDefEqProofs; first | exact ⟨rfl, rfl⟩ | exact rfl)))))
 refine Run.qchain prog_mixed 7 (by kernel_rfl) ?_
 (repeat (first | refine execQ_E rfl ?_ | (apply execQ_S rfl; (· (simp -implicitDefEqProofs [hw, wnum_m]; exact ⟨rfl, rfl⟩)))))
 refine SeqR.C rfl rfl (by simp [wnum_tbl]) (ws_num (n := e.id) (off := 0) h rfl (fun q => by rw [ho q]) (fun q => (i1 q).1)) ?_
 rintro v Z ⟨rfl, h2, s2⟩
 replace hw := (s2 c hc hcx).trans hw
 replace st := st.trans s2
 replace h := h2
 clear h2 s2
 (repeat (first | refine SeqR.E rfl ?_ | (apply SeqR.o0 rfl; (· (simp -implicitDefEqProofs; exact ⟨rfl, rfl⟩))) | (apply SeqR.A rfl; (· (simp -implicitDefEqProofs; done)); (· (simp -implicitDefEqProofs; exact ⟨rfl, rfl⟩))) | (apply SeqR.N rfl; (· (simp -implicitDefEqProofs; done)))))
 (repeat (first | refine Run.adm rfl ?_ | refine Run.seq ?_ | ((first | apply Run.opS rfl | apply Run.condS); (· (simp -implicitDefEqProofs; first | exact ⟨rfl, rfl⟩ | exact rfl)))))
 refine Run.qchain prog_mixed 8 (by kernel_rfl) ?_
 (repeat (first | refine execQ_E rfl ?_ | (apply execQ_S rfl; (· (simp -implicitDefEqProofs [hw, wtxt_m]; exact ⟨rfl, rfl⟩)))))
 refine SeqR.C rfl rfl (by simp [wtxt_tbl]) (ws_txt (x := e.lo) (off := 1) h rfl (fun q => by rw [ho q]) (fun q => (i1 q).2.1)) ?_
 rintro v Z ⟨rfl, h2, s2⟩
 replace hw := (s2 c hc hcx).trans hw
 replace st := st.trans s2
 replace h := h2
 clear h2 s2
 (repeat (first | refine SeqR.E rfl ?_ | (apply SeqR.o0 rfl; (· (simp -implicitDefEqProofs; exact ⟨rfl, rfl⟩))) | (apply SeqR.A rfl; (· (simp -implicitDefEqProofs; done)); (· (simp -implicitDefEqProofs; exact ⟨rfl, rfl⟩))) | (apply SeqR.N rfl; (· (simp -implicitDefEqProofs; done)))))
 (repeat (first | refine Run.adm rfl ?_ | refine Run.seq ?_ | ((first | apply Run.opS rfl | apply Run.condS); (· (simp -implicitDefEqProofs; first | exact ⟨rfl, rfl⟩ | exact rfl)))))
 refine Run.qchain prog_mixed 8 (by kernel_rfl) ?_
 (repeat (first | refine execQ_E rfl ?_ | (apply execQ_S rfl; (· (simp -implicitDefEqProofs [hw, wtxt_m]; exact ⟨rfl, rfl⟩)))))
 refine SeqR.C rfl rfl (by simp [wtxt_tbl]) (ws_txt (x := e.hi) (off := 2) h rfl (fun q => by rw [ho q]) (fun q => (i1 q).2.2.1)) ?_
 rintro v Z ⟨rfl, h2, s2⟩
 replace hw := (s2 c hc hcx).trans hw
 replace st := st.trans s2
 replace h := h2
 clear h2 s2
 (repeat (first | refine SeqR.E rfl ?_ | (apply SeqR.o0 rfl; (· (simp -implicitDefEqProofs; exact ⟨rfl, rfl⟩))) | (apply SeqR.A rfl; (· (simp -implicitDefEqProofs; done)); (· (simp -implicitDefEqProofs; exact ⟨rfl, rfl⟩))) | (apply SeqR.N rfl; (· (simp -implicitDefEqProofs; done)))))
 (repeat (first | refine Run.adm rfl ?_ | refine Run.seq ?_ | ((first | apply Run.opS rfl | apply Run.condS); (· (simp -implicitDefEqProofs; first | exact ⟨rfl, rfl⟩ | exact rfl)))))
 refine Run.qchain prog_mixed 7 (by kernel_rfl) ?_
 (repeat (first | refine execQ_E rfl ?_ | (apply execQ_S rfl; (· (simp -implicitDefEqProofs [hw, wnum_m]; exact ⟨rfl, rfl⟩)))))
 refine SeqR.C rfl rfl (by simp [wnum_tbl]) (ws_num (n := e.ep) (off := 3) h rfl (fun q => by rw [ho q]) (fun q => (i1 q).2.2.2.1)) ?_
 rintro v Z ⟨rfl, h2, s2⟩
 replace hw := (s2 c hc hcx).trans hw
 replace st := st.trans s2
 replace h := h2
 clear h2 s2
 (repeat (first | refine SeqR.E rfl ?_ | (apply SeqR.o0 rfl; (· (simp -implicitDefEqProofs; exact ⟨rfl, rfl⟩))) | (apply SeqR.A rfl; (· (simp -implicitDefEqProofs; done)); (· (simp -implicitDefEqProofs; exact ⟨rfl, rfl⟩))) | (apply SeqR.N rfl; (· (simp -implicitDefEqProofs; done)))))
 (repeat (first | refine Run.adm rfl ?_ | refine Run.seq ?_ | ((first | apply Run.opS rfl | apply Run.condS); (· (simp -implicitDefEqProofs; first | exact ⟨rfl, rfl⟩ | exact rfl)))))
 refine Run.qchain prog_mixed 7 (by kernel_rfl) ?_
 (repeat (first | refine execQ_E rfl ?_ | (apply execQ_S rfl; (· (simp -implicitDefEqProofs [hw, wnum_m]; exact ⟨rfl, rfl⟩)))))
 refine SeqR.C rfl rfl (by simp [wnum_tbl]) (ws_num (n := e.node) (off := 4) h rfl (fun q => by rw [ho q]) (fun q => (i1 q).2.2.2.2.1)) ?_
 rintro v Z ⟨rfl, h2, s2⟩
 replace hw := (s2 c hc hcx).trans hw
 replace st := st.trans s2
 replace h := h2
 clear h2 s2
 (repeat (first | refine SeqR.E rfl ?_ | (apply SeqR.o0 rfl; (· (simp -implicitDefEqProofs; exact ⟨rfl, rfl⟩))) | (apply SeqR.A rfl; (· (simp -implicitDefEqProofs; done)); (· (simp -implicitDefEqProofs; exact ⟨rfl, rfl⟩))) | (apply SeqR.N rfl; (· (simp -implicitDefEqProofs; done)))))
 (repeat (first | refine Run.adm rfl ?_ | refine Run.seq ?_ | ((first | apply Run.opS rfl | apply Run.condS); (· (simp -implicitDefEqProofs; first | exact ⟨rfl, rfl⟩ | exact rfl)))))
 refine Run.qchain prog_mixed 7 (by kernel_rfl) ?_
 (repeat (first | refine execQ_E rfl ?_ | (apply execQ_S rfl; (· (simp -implicitDefEqProofs [hw, wnum_m]; exact ⟨rfl, rfl⟩)))))
 refine SeqR.C rfl rfl (by simp [wnum_tbl]) (ws_num (n := e.st) (off := 5) h rfl (fun q => by rw [ho q]) (fun q => (i1 q).2.2.2.2.2)) ?_
 rintro v Z ⟨rfl, h2, s2⟩
 replace hw := (s2 c hc hcx).trans hw
 replace st := st.trans s2
 replace h := h2
 clear h2 s2
 (repeat (first | refine SeqR.E rfl ?_ | (apply SeqR.o0 rfl; (· (simp -implicitDefEqProofs; exact ⟨rfl, rfl⟩))) | (apply SeqR.A rfl; (· (simp -implicitDefEqProofs; done)); (· (simp -implicitDefEqProofs; exact ⟨rfl, rfl⟩))) | (apply SeqR.N rfl; (· (simp -implicitDefEqProofs; done)))))
 (repeat (first | refine Run.adm rfl ?_ | refine Run.seq ?_ | ((first | apply Run.opS rfl | apply Run.condS); (· (simp -implicitDefEqProofs; first | exact ⟨rfl, rfl⟩ | exact rfl)))))
 refine Run.retS Tryz.func177 r177_ok trivial (by simp [r177]; rfl) ?_
 exact ⟨rfl, by simpa [shB, shOk, Bool.and_assoc, encSh] using h, st⟩
theorem WS.tag {L : List Nat} {r m : Nat} {a t t' : Bs} {ok : Bool} {cs : List V} {Y : List O} (h : WS true L r m a t ok cs Y) (hl : t'.length ≤ t.length) : WS true L r m a t' ok cs Y := ⟨h.way, h.mem, h.row, by have := h.len; omega⟩
theorem oneSh : OneO 177 encSh shB shOk fitT := by
 intro L r c x a t o Y e h hc hcx hw
 exact (oneShG h hc hcx hw (fun _ => rfl) (fun q => by cases q)).mono fun v Z ⟨g1, g2, g3⟩ => ⟨g1, ⟨_, _, _, g2, by simp, fun _ => ⟨rfl, rfl⟩⟩, g3⟩
structure RpM where
 err : Int
 val : Bs
 has : Bool
 ps : List PrM
 upto : Bs
structure SnM where
 cl : Int
 seq : Int
 rep : RpM
def encRp (x : RpM) : List V := [.int .i64 x.err, .str x.val, .bool x.has, .vs (x.ps.map encPr) 2, .str x.upto]
def encSn (x : SnM) : List V := .int .i64 x.cl :: .int .i64 x.seq :: encRp x.rep
def snB (x : SnM) : Bs := nB x.cl ++ (nB x.seq ++ (hdB x.rep.err x.rep.val x.rep.has ++ xB x.rep.upto))
def snOk (x : SnM) : Bool := nOk x.cl && nOk x.seq && (nOk x.rep.err && xOk x.rep.val) && xOk x.rep.upto
def snFit (x : SnM) : Bool := decide (x.rep.ps.length = 0)
theorem oneSn : OneO 181 encSn snB snOk snFit := by
 intro L r c x a t o Y e h hc hcx hw
 have st := StayX.refl L x Y
 simp only [snB, List.append_assoc] at h
 have hrow := h.row
 show Tri Tryz.prog 181 _ _ _
 refine Tri.of_run' Tryz.func181 rfl c181_ok (by simp [Tryz.ntmps181]) ?_
 (repeat (first | refine Run.adm rfl ?_ | refine Run.seq ?_ | ((first | apply Run.opS rfl | apply Run.condS); (· (simp -implicitDefEqProofs; first | exact ⟨rfl, rfl⟩ | exact rfl)))))
 refine Run.qchain prog_mixed 7 (by kernel_rfl) ?_
 (repeat (first | refine execQ_E rfl ?_ | (apply execQ_S rfl; (· (simp -implicitDefEqProofs [hw, wnum_m]; exact ⟨rfl, rfl⟩)))))
 refine SeqR.C rfl rfl (by simp [wnum_tbl]) (ws_num (n := e.cl) (off := 0) h rfl (fun _ => rfl) (fun e => by cases e)) ?_
 rintro v Z ⟨rfl, h2, s2⟩
 replace hw := (s2 c hc hcx).trans hw
 replace st := st.trans s2
 replace h := h2
 clear h2 s2
 (repeat (first | refine SeqR.E rfl ?_ | (apply SeqR.o0 rfl; (· (simp -implicitDefEqProofs; exact ⟨rfl, rfl⟩))) | (apply SeqR.A rfl; (· (simp -implicitDefEqProofs; done)); (· (simp -implicitDefEqProofs; exact ⟨rfl, rfl⟩))) | (apply SeqR.N rfl; (· (simp -implicitDefEqProofs; done)))))
 (repeat (first | refine Run.adm rfl ?_ | refine Run.seq ?_ | ((first | apply Run.opS rfl | apply Run.condS); (· (simp -implicitDefEqProofs; first | exact ⟨rfl, rfl⟩ | exact rfl)))))
 refine Run.qchain prog_mixed 7 (by kernel_rfl) ?_
 (repeat (first | refine execQ_E rfl ?_ | (apply execQ_S rfl; (· (simp -implicitDefEqProofs [hw, wnum_m]; exact ⟨rfl, rfl⟩)))))
 refine SeqR.C rfl rfl (by simp [wnum_tbl]) (ws_num (n := e.seq) (off := 1) h rfl (fun _ => rfl) (fun e => by cases e)) ?_
 rintro v Z ⟨rfl, h2, s2⟩
 replace hw := (s2 c hc hcx).trans hw
 replace st := st.trans s2
 replace h := h2
 clear h2 s2
 (repeat (first | refine SeqR.E rfl ?_ | (apply SeqR.o0 rfl; (· (simp -implicitDefEqProofs; exact ⟨rfl, rfl⟩))) | (apply SeqR.A rfl; (· (simp -implicitDefEqProofs; done)); (· (simp -implicitDefEqProofs; exact ⟨rfl, rfl⟩))) | (apply SeqR.N rfl; (· (simp -implicitDefEqProofs; done)))))
 (repeat (first | refine Run.adm rfl ?_ | refine Run.seq ?_ | ((first | apply Run.opS rfl | apply Run.condS); (· (simp -implicitDefEqProofs; first | exact ⟨rfl, rfl⟩ | exact rfl)))))
 have hrow := h.row
 simp only [encSn, encRp, List.set_cons_zero, List.set_cons_succ] at hrow
 by_cases hp : e.rep.ps.length = 0
 ·refine Run.qchain prog_mixed 12 (by kernel_rfl) ?_
  have hpI : (e.rep.ps.length : Int) = 0 := by omega
  (repeat (first | refine execQ_E rfl ?_ | (apply execQ_S rfl; (· (simp -implicitDefEqProofs [hw, hrow, hp, hpI]; exact ⟨rfl, rfl⟩)))))
  refine SeqR.C rfl rfl rfl (head_tri (off := 2) h rfl rfl rfl (fun _ => ⟨rfl, rfl, rfl⟩) (fun e => by cases e)) ?_
  rintro v Z ⟨rfl, h2, s2⟩
  replace hw := (s2 c hc hcx).trans hw
  replace st := st.trans s2
  replace h := h2
  (repeat (first | refine SeqR.E rfl ?_ | (apply SeqR.o0 rfl; (· (simp -implicitDefEqProofs; exact ⟨rfl, rfl⟩))) | (apply SeqR.A rfl; (· (simp -implicitDefEqProofs; done)); (· (simp -implicitDefEqProofs; exact ⟨rfl, rfl⟩))) | (apply SeqR.N rfl; (· (simp -implicitDefEqProofs; done)))))
  (repeat (first | refine Run.adm rfl ?_ | refine Run.seq ?_ | ((first | apply Run.opS rfl | apply Run.condS); (· (simp -implicitDefEqProofs; first | exact ⟨rfl, rfl⟩ | exact rfl)))))
  refine Run.qchain prog_mixed 8 (by kernel_rfl) ?_
  (repeat (first | refine execQ_E rfl ?_ | (apply execQ_S rfl; (· (simp -implicitDefEqProofs [hw, wtxt_m]; exact ⟨rfl, rfl⟩)))))
  refine SeqR.C rfl rfl (by simp [wtxt_tbl]) (ws_txt (x := e.rep.upto) (off := 6) h rfl (fun _ => rfl) (fun e => by cases e)) ?_
  rintro v Z ⟨rfl, h2, s2⟩
  replace hw := (s2 c hc hcx).trans hw
  replace st := st.trans s2
  replace h := h2
  clear h2 s2
  (repeat (first | refine SeqR.E rfl ?_ | (apply SeqR.o0 rfl; (· (simp -implicitDefEqProofs; exact ⟨rfl, rfl⟩))) | (apply SeqR.A rfl; (· (simp -implicitDefEqProofs; done)); (· (simp -implicitDefEqProofs; exact ⟨rfl, rfl⟩))) | (apply SeqR.N rfl; (· (simp -implicitDefEqProofs; done)))))
  (repeat (first | refine Run.adm rfl ?_ | refine Run.seq ?_ | ((first | apply Run.opS rfl | apply Run.condS); (· (simp -implicitDefEqProofs; first | exact ⟨rfl, rfl⟩ | exact rfl)))))
  refine Run.retS Tryz.func181 r181_ok trivial (by simp [r181]; rfl) ?_
  exact ⟨by simp [snFit, hp], ⟨_, _, _, h, by simp [snB, Nat.add_assoc], fun _ => ⟨by simp [snB], by simp [snOk, Bool.and_assoc]⟩⟩, st⟩
 ·refine Run.qchain prog_mixed 12 (by kernel_rfl) ?_
  have hpI : ¬ (e.rep.ps.length : Int) = 0 := by omega
  (repeat (first | refine execQ_E rfl ?_ | (apply execQ_S rfl; (· (simp -implicitDefEqProofs [hw, hrow, hp, hpI]; exact ⟨rfl, rfl⟩)))))
  (repeat (first | refine SeqR.E rfl ?_ | (apply SeqR.o0 rfl; (· (simp -implicitDefEqProofs; exact ⟨rfl, rfl⟩))) | (apply SeqR.A rfl; (· (simp -implicitDefEqProofs; done)); (· (simp -implicitDefEqProofs; exact ⟨rfl, rfl⟩))) | (apply SeqR.N rfl; (· (simp -implicitDefEqProofs; done)))))
  (repeat (first | refine Run.adm rfl ?_ | refine Run.seq ?_ | ((first | apply Run.opS rfl | apply Run.condS); (· (simp -implicitDefEqProofs; first | exact ⟨rfl, rfl⟩ | exact rfl)))))
  replace h := h.tag (t' := xB e.rep.upto ++ t) (by simp)
  refine Run.qchain prog_mixed 8 (by kernel_rfl) ?_
  (repeat (first | refine execQ_E rfl ?_ | (apply execQ_S rfl; (· (simp -implicitDefEqProofs [hw, wtxt_m]; exact ⟨rfl, rfl⟩)))))
  refine SeqR.C rfl rfl (by simp [wtxt_tbl]) (ws_txt (x := e.rep.upto) (off := 6) h rfl (fun _ => rfl) (fun e => by cases e)) ?_
  rintro v Z ⟨rfl, h2, s2⟩
  replace hw := (s2 c hc hcx).trans hw
  replace st := st.trans s2
  replace h := h2
  clear h2 s2
  (repeat (first | refine SeqR.E rfl ?_ | (apply SeqR.o0 rfl; (· (simp -implicitDefEqProofs; exact ⟨rfl, rfl⟩))) | (apply SeqR.A rfl; (· (simp -implicitDefEqProofs; done)); (· (simp -implicitDefEqProofs; exact ⟨rfl, rfl⟩))) | (apply SeqR.N rfl; (· (simp -implicitDefEqProofs; done)))))
  (repeat (first | refine Run.adm rfl ?_ | refine Run.seq ?_ | ((first | apply Run.opS rfl | apply Run.condS); (· (simp -implicitDefEqProofs; first | exact ⟨rfl, rfl⟩ | exact rfl)))))
  refine Run.retS Tryz.func181 r181_ok trivial (by simp [r181]; rfl) ?_
  exact ⟨by simp [snFit, hp], ⟨_, _, _, h, by simp [snB], fun e => by simp [snFit, hp] at e⟩, st⟩
attribute [local simp ↓] upd_app tl_cons tl_nil
def lB {α : Type} (B : α → Bs) (l : List α) : Bs := nB l.length ++ l.flatMap B
def lFit {α : Type} (most : Int) (fit : α → Bool) (l : List α) : Bool := decide ((l.length : Int) ≤ most) && l.all fit
theorem flat_snoc {α : Type} {B : α → Bs} {l : List α} {i : Nat} {e : α} (h : l[i]? = some e) : (l.take (i + 1)).flatMap B = (l.take i).flatMap B ++ B e := by rw [List.take_add_one, h]; simp
theorem all_snoc' {α : Type} {p : α → Bool} {l : List α} {i : Nat} {e : α} (h : l[i]? = some e) : (l.take (i + 1)).all p = ((l.take i).all p && p e) := by rw [List.take_add_one, h]; simp
theorem flat_drop {α : Type} {B : α → Bs} {l : List α} {i : Nat} {e : α} (h : l.drop i = e :: l.drop (i + 1)) (t : Bs) : (l.drop i).flatMap B ++ t = B e ++ ((l.drop (i + 1)).flatMap B ++ t) := by rw [h]; simp
theorem flat_take_le {α : Type} (B : α → Bs) (l : List α) (i : Nat) : ((l.take i).flatMap B).length ≤ (l.flatMap B).length := by
 have := congrArg List.length (congrArg (List.flatMap B) (List.take_append_drop i l))
 rw [List.flatMap_append, List.length_append] at this; omega
theorem WS.more {k : Bool} {L : List Nat} {r m : Nat} {a t : Bs} {ok : Bool} {cs : List V} {Y : List O} (h : WS k L r m a t ok cs Y) (cs' : List V) : WS k (Y.length :: L) r Y.length a t ok cs' (Y ++ [.row cs']) := ⟨h.way.more _, by simp, by simp, h.len⟩
theorem lstOPr {L : List Nat} {r m c off : Nat} {a t : Bs} {ok : Bool} {cs : List V} {Y : List O} {l : List PrM} {most : Int} (h : WS true L r m a (lB prB l ++ t) ok cs Y) (hc : cs[off]? = some (.vs (l.map encPr) 2)) (hcL : c ∈ L) (hcm : c ≠ m)
  (hw : Y[c]? = some (.row [.ifc (WTy true) r])) (hm : most ≤ 1000) :
  Tri Tryz.prog 174 [.ifc (WTy true) r, .ptr m off, .int .i64 most, .fn 175 [.ptr c 0]] Y (fun v Z => v = .bool (lFit most fitT l) ∧
   (∃ a' q, WS true L r m a' t q cs Z ∧ a'.length ≤ a.length + (lB prB l).length ∧ (lFit most fitT l = true → a' = a ++ lB prB l ∧ q = (ok && l.all prOk))) ∧ StayX L m Y Z) := by
 have hlt := h.lt m h.mem
 have hY := h.row
 have hml : ((l.map encPr).length : Int) = l.length := by simp
 simp only [lB, List.append_assoc] at h
 have h1 := h.more [.int .i64 l.length]
 have htri := ws_num (off := 0) h1 rfl (fun _ => rfl) (fun e => by cases e)
 have hYm : ∀ o, (Y ++ [o])[m]? = some (.row cs) := fun o => getA hY _
 refine Tri.of_run' Tryz.func174 rfl c174_ok (by simp [Tryz.ntmps174]) ?_
 (repeat (first | refine Run.adm rfl ?_ | refine Run.seq ?_ | ((first | apply Run.opS rfl | apply Run.condS); (· (simp -implicitDefEqProofs [hY, hYm, hc]; first | exact ⟨rfl, rfl⟩ | exact rfl)))))
 refine Run.opC rfl rfl (by simp [wnum_tbl]) htri ?_
 rintro v' Z ⟨rfl, h2, st⟩
 have g0 : ∀ i ∈ L, Z[i]? = Y[i]? := fun i hi => by
  have := h.lt i hi
  rw [st i (by simp [hi]) (by omega), List.getElem?_append_left this]
 have z1 : Z[Y.length]? = some (.row [.int .i64 l.length]) := h2.row
 by_cases hmost : most < (l.length : Int)
 ·(repeat (first | refine Run.adm rfl ?_ | refine Run.seq ?_ | ((first | apply Run.opS rfl | apply Run.condS); (· (simp -implicitDefEqProofs [z1, hmost]; first | exact ⟨rfl, rfl⟩ | exact rfl)))))
  refine Run.retS Tryz.func174 r174_ok trivial (by simp [r174]; rfl) ?_
  exact ⟨by simp [lFit]; omega, ⟨_, _, (⟨h2.way.sub (fun i hi => by simp [hi]), h.mem, (g0 m h.mem).trans hY, h2.len⟩ : WS true L r m _ _ _ _ _).tag (by simp), by simp [lB], fun e => by simp [lFit] at e; omega⟩, fun i hi _ => g0 i hi⟩
 have hnn : nOk l.length = true := nOk_of (by omega)
 rw [hnn, Bool.and_true] at h2
 (repeat (first | refine Run.adm rfl ?_ | refine Run.seq ?_ | ((first | apply Run.opS rfl | apply Run.condS); (· (simp -implicitDefEqProofs [z1, hmost]; first | exact ⟨rfl, rfl⟩ | exact rfl)))))
 refine Run.sl [(0, .ifc (WTy true) r), (1, .ptr m off), (3, .fn 175 [.ptr c 0]), (8, .bool false), (21, .int .i64 l.length), (22, .int .i64 (0 : Nat))] (by simp) ?_
 refine Run.loopS (fun (x : Nat × List O) => ([(0, .ifc (WTy true) r), (1, .ptr m off), (3, .fn 175 [.ptr c 0]), (8, .bool false), (21, .int .i64 l.length), (22, .int .i64 x.1)], x.2))
  (fun x => x.1 ≤ l.length ∧ WS true L r m (a ++ nB l.length ++ (l.take x.1).flatMap prB) ((l.drop x.1).flatMap prB ++ t) (ok && (l.take x.1).all prOk) cs x.2 ∧ StayX L m Y x.2 ∧ (l.take x.1).all fitT = true) (fun x => l.length - x.1) ?_ (0, Z)
  ⟨Nat.zero_le _, by simpa using (⟨h2.way.sub (fun i hi => by simp [hi]), h.mem, (g0 m h.mem).trans hY, h2.len⟩ : WS true L r m _ _ _ _ _), fun i hi _ => g0 i hi, by simp⟩
 rintro ⟨i, U⟩ ⟨hi, hU, sU, hf⟩ ih
 simp only at hi hU sU hf ih ⊢
 by_cases hlt : i < l.length
 ·obtain ⟨e, he, hei, hed, -⟩ := getL hlt
  have hlt' : (i : Int) < l.length := by omega
  have hge : ¬ (l.length : Int) ≤ i := by omega
  have hw1 := wrap_small (n := (i : Int) + 1) (by omega) (by omega)
  have hUm := hU.row
  have hUa : ∀ o, (U ++ [o])[m]? = some (.row cs) := fun o => getA hUm _
  have hUc : U[c]? = some (.row [.ifc (WTy true) r]) := (sU c hcL hcm).trans hw
  have hcl := hU.lt c hcL
  have hmlt := hU.lt m hU.mem
  rw [flat_drop hed] at hU
  (repeat (first | refine Run.adm rfl ?_ | refine Run.seq ?_ | ((first | apply Run.opS rfl | apply Run.condS); (· (simp -implicitDefEqProofs [hUm, hUa, hc, hlt, hlt', he, hei, encPr, encRp]; first | exact ⟨rfl, rfl⟩ | exact rfl)))))
  refine Run.opC rfl rfl rfl (onePr (hU.more (encPr e)) (List.mem_cons_of_mem _ hcL) (by omega) (getA hUc _)) ?_
  rintro v W ⟨rfl, ⟨a', q, cs', hW, ha', hfit⟩, sW⟩
  have w0 : ∀ j ∈ L, W[j]? = U[j]? := fun j hj => by
   have := hU.lt j hj
   rw [sW j (by simp [hj]) (by omega), List.getElem?_append_left this]
  have w1 : W[m]? = some (.row cs) := (w0 m hU.mem).trans hUm
  have hW' : WS true L r m a' ((l.drop (i + 1)).flatMap prB ++ t) q cs W := ⟨hW.way.sub (fun i hi => by simp [hi]), hU.mem, w1, hW.len⟩
  have sW' : StayX L m Y W := fun j hj hn => (w0 j hj).trans (sU j hj hn)
  cases hfe : fitT e with
  | true =>
   obtain ⟨rfl, rfl⟩ := hfit hfe
   (repeat (first | refine Run.adm rfl ?_ | refine Run.seq ?_ | ((first | apply Run.opS rfl | apply Run.condS); (· (simp -implicitDefEqProofs [w1, hc, hge]; first | exact ⟨rfl, rfl⟩ | exact rfl)))))
   refine Run.sl _ ?_ (ih (i + 1, W) ⟨by simp only; omega, by simp only; rw [flat_snoc he, all_snoc' he, ← Bool.and_assoc, ← List.append_assoc]; exact hW', sW', by simp only; rw [all_snoc' he, hf, hfe]; rfl⟩ (by simp only; omega))
   simp [hw1]
  | false =>
   (repeat (first | refine Run.adm rfl ?_ | refine Run.seq ?_ | ((first | apply Run.opS rfl | apply Run.condS); (· (simp -implicitDefEqProofs; first | exact ⟨rfl, rfl⟩ | exact rfl)))))
   refine Run.retS Tryz.func174 r174_ok trivial (by simp [r174]; rfl) ?_
   have hnf : lFit most fitT l = false := by
    have : l.all fitT = false := List.all_eq_false.2 ⟨e, List.mem_of_getElem? he, by simp [hfe]⟩
    simp [lFit, this]
   refine ⟨by simp [hnf], ⟨_, _, hW'.tag (by simp), ?_, fun e => by rw [hnf] at e; cases e⟩, sW'⟩
   have h6 := flat_take_le prB l (i + 1)
   rw [flat_snoc he] at h6
   simp only [List.length_append, lB] at ha' h6 ⊢
   omega
 ·have : i = l.length := by omega
  subst this
  rw [List.take_length] at hU hf
  (repeat (first | refine Run.adm rfl ?_ | refine Run.seq ?_ | ((first | apply Run.opS rfl | apply Run.condS); (· (simp -implicitDefEqProofs; first | exact ⟨rfl, rfl⟩ | exact rfl)))))
  refine Run.retS Tryz.func174 r174_ok trivial (by simp [r174]; rfl) ?_
  have hfit : lFit most fitT l = true := by simp only [lFit, hf, Bool.and_true, decide_eq_true_eq]; omega
  exact ⟨by simp [hfit], ⟨_, _, by simpa using hU, by simp [lB], fun _ => ⟨by simp [lB], rfl⟩⟩, sU⟩
theorem lstOW {L : List Nat} {r m c off : Nat} {a t : Bs} {ok : Bool} {cs : List V} {Y : List O} {l : List WrM} {most : Int} (h : WS true L r m a (lB wrB l ++ t) ok cs Y) (hc : cs[off]? = some (.vs (l.map encW) 3)) (hcL : c ∈ L) (hcm : c ≠ m)
  (hw : Y[c]? = some (.row [.ifc (WTy true) r])) (hm : most ≤ 1000) :
  Tri Tryz.prog 207 [.ifc (WTy true) r, .ptr m off, .int .i64 most, .fn 208 [.ptr c 0]] Y (fun v Z => v = .bool (lFit most fitT l) ∧
   (∃ a' q, WS true L r m a' t q cs Z ∧ a'.length ≤ a.length + (lB wrB l).length ∧ (lFit most fitT l = true → a' = a ++ lB wrB l ∧ q = (ok && l.all wrOk))) ∧ StayX L m Y Z) := by
 have hlt := h.lt m h.mem
 have hY := h.row
 have hml : ((l.map encW).length : Int) = l.length := by simp
 simp only [lB, List.append_assoc] at h
 have h1 := h.more [.int .i64 l.length]
 have htri := ws_num (off := 0) h1 rfl (fun _ => rfl) (fun e => by cases e)
 have hYm : ∀ o, (Y ++ [o])[m]? = some (.row cs) := fun o => getA hY _
 refine Tri.of_run' Tryz.func207 rfl c207_ok (by simp [Tryz.ntmps207]) ?_
 (repeat (first | refine Run.adm rfl ?_ | refine Run.seq ?_ | ((first | apply Run.opS rfl | apply Run.condS); (· (simp -implicitDefEqProofs [hY, hYm, hc]; first | exact ⟨rfl, rfl⟩ | exact rfl)))))
 refine Run.opC rfl rfl (by simp [wnum_tbl]) htri ?_
 rintro v' Z ⟨rfl, h2, st⟩
 have g0 : ∀ i ∈ L, Z[i]? = Y[i]? := fun i hi => by
  have := h.lt i hi
  rw [st i (by simp [hi]) (by omega), List.getElem?_append_left this]
 have z1 : Z[Y.length]? = some (.row [.int .i64 l.length]) := h2.row
 by_cases hmost : most < (l.length : Int)
 ·(repeat (first | refine Run.adm rfl ?_ | refine Run.seq ?_ | ((first | apply Run.opS rfl | apply Run.condS); (· (simp -implicitDefEqProofs [z1, hmost]; first | exact ⟨rfl, rfl⟩ | exact rfl)))))
  refine Run.retS Tryz.func207 r207_ok trivial (by simp [r207]; rfl) ?_
  exact ⟨by simp [lFit]; omega, ⟨_, _, (⟨h2.way.sub (fun i hi => by simp [hi]), h.mem, (g0 m h.mem).trans hY, h2.len⟩ : WS true L r m _ _ _ _ _).tag (by simp), by simp [lB], fun e => by simp [lFit] at e; omega⟩, fun i hi _ => g0 i hi⟩
 have hnn : nOk l.length = true := nOk_of (by omega)
 rw [hnn, Bool.and_true] at h2
 (repeat (first | refine Run.adm rfl ?_ | refine Run.seq ?_ | ((first | apply Run.opS rfl | apply Run.condS); (· (simp -implicitDefEqProofs [z1, hmost]; first | exact ⟨rfl, rfl⟩ | exact rfl)))))
 refine Run.sl [(0, .ifc (WTy true) r), (1, .ptr m off), (3, .fn 208 [.ptr c 0]), (8, .bool false), (21, .int .i64 l.length), (22, .int .i64 (0 : Nat))] (by simp) ?_
 refine Run.loopS (fun (x : Nat × List O) => ([(0, .ifc (WTy true) r), (1, .ptr m off), (3, .fn 208 [.ptr c 0]), (8, .bool false), (21, .int .i64 l.length), (22, .int .i64 x.1)], x.2))
  (fun x => x.1 ≤ l.length ∧ WS true L r m (a ++ nB l.length ++ (l.take x.1).flatMap wrB) ((l.drop x.1).flatMap wrB ++ t) (ok && (l.take x.1).all wrOk) cs x.2 ∧ StayX L m Y x.2 ∧ (l.take x.1).all fitT = true) (fun x => l.length - x.1) ?_ (0, Z)
  ⟨Nat.zero_le _, by simpa using (⟨h2.way.sub (fun i hi => by simp [hi]), h.mem, (g0 m h.mem).trans hY, h2.len⟩ : WS true L r m _ _ _ _ _), fun i hi _ => g0 i hi, by simp⟩
 rintro ⟨i, U⟩ ⟨hi, hU, sU, hf⟩ ih
 simp only at hi hU sU hf ih ⊢
 by_cases hlt : i < l.length
 ·obtain ⟨e, he, hei, hed, -⟩ := getL hlt
  have hlt' : (i : Int) < l.length := by omega
  have hge : ¬ (l.length : Int) ≤ i := by omega
  have hw1 := wrap_small (n := (i : Int) + 1) (by omega) (by omega)
  have hUm := hU.row
  have hUa : ∀ o, (U ++ [o])[m]? = some (.row cs) := fun o => getA hUm _
  have hUc : U[c]? = some (.row [.ifc (WTy true) r]) := (sU c hcL hcm).trans hw
  have hcl := hU.lt c hcL
  have hmlt := hU.lt m hU.mem
  rw [flat_drop hed] at hU
  (repeat (first | refine Run.adm rfl ?_ | refine Run.seq ?_ | ((first | apply Run.opS rfl | apply Run.condS); (· (simp -implicitDefEqProofs [hUm, hUa, hc, hlt, hlt', he, hei, encW, encRp]; first | exact ⟨rfl, rfl⟩ | exact rfl)))))
  refine Run.opC rfl rfl rfl (oneW (hU.more (encW e)) (List.mem_cons_of_mem _ hcL) (by omega) (getA hUc _)) ?_
  rintro v W ⟨rfl, ⟨a', q, cs', hW, ha', hfit⟩, sW⟩
  have w0 : ∀ j ∈ L, W[j]? = U[j]? := fun j hj => by
   have := hU.lt j hj
   rw [sW j (by simp [hj]) (by omega), List.getElem?_append_left this]
  have w1 : W[m]? = some (.row cs) := (w0 m hU.mem).trans hUm
  have hW' : WS true L r m a' ((l.drop (i + 1)).flatMap wrB ++ t) q cs W := ⟨hW.way.sub (fun i hi => by simp [hi]), hU.mem, w1, hW.len⟩
  have sW' : StayX L m Y W := fun j hj hn => (w0 j hj).trans (sU j hj hn)
  cases hfe : fitT e with
  | true =>
   obtain ⟨rfl, rfl⟩ := hfit hfe
   (repeat (first | refine Run.adm rfl ?_ | refine Run.seq ?_ | ((first | apply Run.opS rfl | apply Run.condS); (· (simp -implicitDefEqProofs [w1, hc, hge]; first | exact ⟨rfl, rfl⟩ | exact rfl)))))
   refine Run.sl _ ?_ (ih (i + 1, W) ⟨by simp only; omega, by simp only; rw [flat_snoc he, all_snoc' he, ← Bool.and_assoc, ← List.append_assoc]; exact hW', sW', by simp only; rw [all_snoc' he, hf, hfe]; rfl⟩ (by simp only; omega))
   simp [hw1]
  | false =>
   (repeat (first | refine Run.adm rfl ?_ | refine Run.seq ?_ | ((first | apply Run.opS rfl | apply Run.condS); (· (simp -implicitDefEqProofs; first | exact ⟨rfl, rfl⟩ | exact rfl)))))
   refine Run.retS Tryz.func207 r207_ok trivial (by simp [r207]; rfl) ?_
   have hnf : lFit most fitT l = false := by
    have : l.all fitT = false := List.all_eq_false.2 ⟨e, List.mem_of_getElem? he, by simp [hfe]⟩
    simp [lFit, this]
   refine ⟨by simp [hnf], ⟨_, _, hW'.tag (by simp), ?_, fun e => by rw [hnf] at e; cases e⟩, sW'⟩
   have h6 := flat_take_le wrB l (i + 1)
   rw [flat_snoc he] at h6
   simp only [List.length_append, lB] at ha' h6 ⊢
   omega
 ·have : i = l.length := by omega
  subst this
  rw [List.take_length] at hU hf
  (repeat (first | refine Run.adm rfl ?_ | refine Run.seq ?_ | ((first | apply Run.opS rfl | apply Run.condS); (· (simp -implicitDefEqProofs; first | exact ⟨rfl, rfl⟩ | exact rfl)))))
  refine Run.retS Tryz.func207 r207_ok trivial (by simp [r207]; rfl) ?_
  have hfit : lFit most fitT l = true := by simp only [lFit, hf, Bool.and_true, decide_eq_true_eq]; omega
  exact ⟨by simp [hfit], ⟨_, _, by simpa using hU, by simp [lB], fun _ => ⟨by simp [lB], rfl⟩⟩, sU⟩
theorem lstOET {L : List Nat} {r m c off : Nat} {a t : Bs} {ok : Bool} {cs : List V} {Y : List O} {l : List ETM} {most : Int} (h : WS true L r m a (lB etB l ++ t) ok cs Y) (hc : cs[off]? = some (.vs (l.map encET) 4)) (hcL : c ∈ L) (hcm : c ≠ m)
  (hw : Y[c]? = some (.row [.ifc (WTy true) r])) (hm : most ≤ 1000) :
  Tri Tryz.prog 178 [.ifc (WTy true) r, .ptr m off, .int .i64 most, .fn 179 [.ptr c 0]] Y (fun v Z => v = .bool (lFit most fitT l) ∧
   (∃ a' q, WS true L r m a' t q cs Z ∧ a'.length ≤ a.length + (lB etB l).length ∧ (lFit most fitT l = true → a' = a ++ lB etB l ∧ q = (ok && l.all etOk))) ∧ StayX L m Y Z) := by
 have hlt := h.lt m h.mem
 have hY := h.row
 have hml : ((l.map encET).length : Int) = l.length := by simp
 simp only [lB, List.append_assoc] at h
 have h1 := h.more [.int .i64 l.length]
 have htri := ws_num (off := 0) h1 rfl (fun _ => rfl) (fun e => by cases e)
 have hYm : ∀ o, (Y ++ [o])[m]? = some (.row cs) := fun o => getA hY _
 refine Tri.of_run' Tryz.func178 rfl c178_ok (by simp [Tryz.ntmps178]) ?_
 (repeat (first | refine Run.adm rfl ?_ | refine Run.seq ?_ | ((first | apply Run.opS rfl | apply Run.condS); (· (simp -implicitDefEqProofs [hY, hYm, hc]; first | exact ⟨rfl, rfl⟩ | exact rfl)))))
 refine Run.opC rfl rfl (by simp [wnum_tbl]) htri ?_
 rintro v' Z ⟨rfl, h2, st⟩
 have g0 : ∀ i ∈ L, Z[i]? = Y[i]? := fun i hi => by
  have := h.lt i hi
  rw [st i (by simp [hi]) (by omega), List.getElem?_append_left this]
 have z1 : Z[Y.length]? = some (.row [.int .i64 l.length]) := h2.row
 by_cases hmost : most < (l.length : Int)
 ·(repeat (first | refine Run.adm rfl ?_ | refine Run.seq ?_ | ((first | apply Run.opS rfl | apply Run.condS); (· (simp -implicitDefEqProofs [z1, hmost]; first | exact ⟨rfl, rfl⟩ | exact rfl)))))
  refine Run.retS Tryz.func178 r178_ok trivial (by simp [r178]; rfl) ?_
  exact ⟨by simp [lFit]; omega, ⟨_, _, (⟨h2.way.sub (fun i hi => by simp [hi]), h.mem, (g0 m h.mem).trans hY, h2.len⟩ : WS true L r m _ _ _ _ _).tag (by simp), by simp [lB], fun e => by simp [lFit] at e; omega⟩, fun i hi _ => g0 i hi⟩
 have hnn : nOk l.length = true := nOk_of (by omega)
 rw [hnn, Bool.and_true] at h2
 (repeat (first | refine Run.adm rfl ?_ | refine Run.seq ?_ | ((first | apply Run.opS rfl | apply Run.condS); (· (simp -implicitDefEqProofs [z1, hmost]; first | exact ⟨rfl, rfl⟩ | exact rfl)))))
 refine Run.sl [(0, .ifc (WTy true) r), (1, .ptr m off), (3, .fn 179 [.ptr c 0]), (8, .bool false), (21, .int .i64 l.length), (22, .int .i64 (0 : Nat))] (by simp) ?_
 refine Run.loopS (fun (x : Nat × List O) => ([(0, .ifc (WTy true) r), (1, .ptr m off), (3, .fn 179 [.ptr c 0]), (8, .bool false), (21, .int .i64 l.length), (22, .int .i64 x.1)], x.2))
  (fun x => x.1 ≤ l.length ∧ WS true L r m (a ++ nB l.length ++ (l.take x.1).flatMap etB) ((l.drop x.1).flatMap etB ++ t) (ok && (l.take x.1).all etOk) cs x.2 ∧ StayX L m Y x.2 ∧ (l.take x.1).all fitT = true) (fun x => l.length - x.1) ?_ (0, Z)
  ⟨Nat.zero_le _, by simpa using (⟨h2.way.sub (fun i hi => by simp [hi]), h.mem, (g0 m h.mem).trans hY, h2.len⟩ : WS true L r m _ _ _ _ _), fun i hi _ => g0 i hi, by simp⟩
 rintro ⟨i, U⟩ ⟨hi, hU, sU, hf⟩ ih
 simp only at hi hU sU hf ih ⊢
 by_cases hlt : i < l.length
 ·obtain ⟨e, he, hei, hed, -⟩ := getL hlt
  have hlt' : (i : Int) < l.length := by omega
  have hge : ¬ (l.length : Int) ≤ i := by omega
  have hw1 := wrap_small (n := (i : Int) + 1) (by omega) (by omega)
  have hUm := hU.row
  have hUa : ∀ o, (U ++ [o])[m]? = some (.row cs) := fun o => getA hUm _
  have hUc : U[c]? = some (.row [.ifc (WTy true) r]) := (sU c hcL hcm).trans hw
  have hcl := hU.lt c hcL
  have hmlt := hU.lt m hU.mem
  rw [flat_drop hed] at hU
  (repeat (first | refine Run.adm rfl ?_ | refine Run.seq ?_ | ((first | apply Run.opS rfl | apply Run.condS); (· (simp -implicitDefEqProofs [hUm, hUa, hc, hlt, hlt', he, hei, encET, encRp]; first | exact ⟨rfl, rfl⟩ | exact rfl)))))
  refine Run.opC rfl rfl rfl (oneET (hU.more (encET e)) (List.mem_cons_of_mem _ hcL) (by omega) (getA hUc _)) ?_
  rintro v W ⟨rfl, ⟨a', q, cs', hW, ha', hfit⟩, sW⟩
  have w0 : ∀ j ∈ L, W[j]? = U[j]? := fun j hj => by
   have := hU.lt j hj
   rw [sW j (by simp [hj]) (by omega), List.getElem?_append_left this]
  have w1 : W[m]? = some (.row cs) := (w0 m hU.mem).trans hUm
  have hW' : WS true L r m a' ((l.drop (i + 1)).flatMap etB ++ t) q cs W := ⟨hW.way.sub (fun i hi => by simp [hi]), hU.mem, w1, hW.len⟩
  have sW' : StayX L m Y W := fun j hj hn => (w0 j hj).trans (sU j hj hn)
  cases hfe : fitT e with
  | true =>
   obtain ⟨rfl, rfl⟩ := hfit hfe
   (repeat (first | refine Run.adm rfl ?_ | refine Run.seq ?_ | ((first | apply Run.opS rfl | apply Run.condS); (· (simp -implicitDefEqProofs [w1, hc, hge]; first | exact ⟨rfl, rfl⟩ | exact rfl)))))
   refine Run.sl _ ?_ (ih (i + 1, W) ⟨by simp only; omega, by simp only; rw [flat_snoc he, all_snoc' he, ← Bool.and_assoc, ← List.append_assoc]; exact hW', sW', by simp only; rw [all_snoc' he, hf, hfe]; rfl⟩ (by simp only; omega))
   simp [hw1]
  | false =>
   (repeat (first | refine Run.adm rfl ?_ | refine Run.seq ?_ | ((first | apply Run.opS rfl | apply Run.condS); (· (simp -implicitDefEqProofs; first | exact ⟨rfl, rfl⟩ | exact rfl)))))
   refine Run.retS Tryz.func178 r178_ok trivial (by simp [r178]; rfl) ?_
   have hnf : lFit most fitT l = false := by
    have : l.all fitT = false := List.all_eq_false.2 ⟨e, List.mem_of_getElem? he, by simp [hfe]⟩
    simp [lFit, this]
   refine ⟨by simp [hnf], ⟨_, _, hW'.tag (by simp), ?_, fun e => by rw [hnf] at e; cases e⟩, sW'⟩
   have h6 := flat_take_le etB l (i + 1)
   rw [flat_snoc he] at h6
   simp only [List.length_append, lB] at ha' h6 ⊢
   omega
 ·have : i = l.length := by omega
  subst this
  rw [List.take_length] at hU hf
  (repeat (first | refine Run.adm rfl ?_ | refine Run.seq ?_ | ((first | apply Run.opS rfl | apply Run.condS); (· (simp -implicitDefEqProofs; first | exact ⟨rfl, rfl⟩ | exact rfl)))))
  refine Run.retS Tryz.func178 r178_ok trivial (by simp [r178]; rfl) ?_
  have hfit : lFit most fitT l = true := by simp only [lFit, hf, Bool.and_true, decide_eq_true_eq]; omega
  exact ⟨by simp [hfit], ⟨_, _, by simpa using hU, by simp [lB], fun _ => ⟨by simp [lB], rfl⟩⟩, sU⟩
theorem lstOSn {L : List Nat} {r m c off : Nat} {a t : Bs} {ok : Bool} {cs : List V} {Y : List O} {l : List SnM} {most : Int} (h : WS true L r m a (lB snB l ++ t) ok cs Y) (hc : cs[off]? = some (.vs (l.map encSn) 7)) (hcL : c ∈ L) (hcm : c ≠ m)
  (hw : Y[c]? = some (.row [.ifc (WTy true) r])) (hm : most ≤ 1000) :
  Tri Tryz.prog 180 [.ifc (WTy true) r, .ptr m off, .int .i64 most, .fn 181 [.ptr c 0]] Y (fun v Z => v = .bool (lFit most snFit l) ∧
   (∃ a' q, WS true L r m a' t q cs Z ∧ a'.length ≤ a.length + (lB snB l).length ∧ (lFit most snFit l = true → a' = a ++ lB snB l ∧ q = (ok && l.all snOk))) ∧ StayX L m Y Z) := by
 have hlt := h.lt m h.mem
 have hY := h.row
 have hml : ((l.map encSn).length : Int) = l.length := by simp
 simp only [lB, List.append_assoc] at h
 have h1 := h.more [.int .i64 l.length]
 have htri := ws_num (off := 0) h1 rfl (fun _ => rfl) (fun e => by cases e)
 have hYm : ∀ o, (Y ++ [o])[m]? = some (.row cs) := fun o => getA hY _
 refine Tri.of_run' Tryz.func180 rfl c180_ok (by simp [Tryz.ntmps180]) ?_
 (repeat (first | refine Run.adm rfl ?_ | refine Run.seq ?_ | ((first | apply Run.opS rfl | apply Run.condS); (· (simp -implicitDefEqProofs [hY, hYm, hc]; first | exact ⟨rfl, rfl⟩ | exact rfl)))))
 refine Run.opC rfl rfl (by simp [wnum_tbl]) htri ?_
 rintro v' Z ⟨rfl, h2, st⟩
 have g0 : ∀ i ∈ L, Z[i]? = Y[i]? := fun i hi => by
  have := h.lt i hi
  rw [st i (by simp [hi]) (by omega), List.getElem?_append_left this]
 have z1 : Z[Y.length]? = some (.row [.int .i64 l.length]) := h2.row
 by_cases hmost : most < (l.length : Int)
 ·(repeat (first | refine Run.adm rfl ?_ | refine Run.seq ?_ | ((first | apply Run.opS rfl | apply Run.condS); (· (simp -implicitDefEqProofs [z1, hmost]; first | exact ⟨rfl, rfl⟩ | exact rfl)))))
  refine Run.retS Tryz.func180 r180_ok trivial (by simp [r180]; rfl) ?_
  exact ⟨by simp [lFit]; omega, ⟨_, _, (⟨h2.way.sub (fun i hi => by simp [hi]), h.mem, (g0 m h.mem).trans hY, h2.len⟩ : WS true L r m _ _ _ _ _).tag (by simp), by simp [lB], fun e => by simp [lFit] at e; omega⟩, fun i hi _ => g0 i hi⟩
 have hnn : nOk l.length = true := nOk_of (by omega)
 rw [hnn, Bool.and_true] at h2
 (repeat (first | refine Run.adm rfl ?_ | refine Run.seq ?_ | ((first | apply Run.opS rfl | apply Run.condS); (· (simp -implicitDefEqProofs [z1, hmost]; first | exact ⟨rfl, rfl⟩ | exact rfl)))))
 refine Run.sl [(0, .ifc (WTy true) r), (1, .ptr m off), (3, .fn 181 [.ptr c 0]), (8, .bool false), (21, .int .i64 l.length), (22, .int .i64 (0 : Nat))] (by simp) ?_
 refine Run.loopS (fun (x : Nat × List O) => ([(0, .ifc (WTy true) r), (1, .ptr m off), (3, .fn 181 [.ptr c 0]), (8, .bool false), (21, .int .i64 l.length), (22, .int .i64 x.1)], x.2))
  (fun x => x.1 ≤ l.length ∧ WS true L r m (a ++ nB l.length ++ (l.take x.1).flatMap snB) ((l.drop x.1).flatMap snB ++ t) (ok && (l.take x.1).all snOk) cs x.2 ∧ StayX L m Y x.2 ∧ (l.take x.1).all snFit = true) (fun x => l.length - x.1) ?_ (0, Z)
  ⟨Nat.zero_le _, by simpa using (⟨h2.way.sub (fun i hi => by simp [hi]), h.mem, (g0 m h.mem).trans hY, h2.len⟩ : WS true L r m _ _ _ _ _), fun i hi _ => g0 i hi, by simp⟩
 rintro ⟨i, U⟩ ⟨hi, hU, sU, hf⟩ ih
 simp only at hi hU sU hf ih ⊢
 by_cases hlt : i < l.length
 ·obtain ⟨e, he, hei, hed, -⟩ := getL hlt
  have hlt' : (i : Int) < l.length := by omega
  have hge : ¬ (l.length : Int) ≤ i := by omega
  have hw1 := wrap_small (n := (i : Int) + 1) (by omega) (by omega)
  have hUm := hU.row
  have hUa : ∀ o, (U ++ [o])[m]? = some (.row cs) := fun o => getA hUm _
  have hUc : U[c]? = some (.row [.ifc (WTy true) r]) := (sU c hcL hcm).trans hw
  have hcl := hU.lt c hcL
  have hmlt := hU.lt m hU.mem
  rw [flat_drop hed] at hU
  (repeat (first | refine Run.adm rfl ?_ | refine Run.seq ?_ | ((first | apply Run.opS rfl | apply Run.condS); (· (simp -implicitDefEqProofs [hUm, hUa, hc, hlt, hlt', he, hei, encSn, encRp]; first | exact ⟨rfl, rfl⟩ | exact rfl)))))
  refine Run.opC rfl rfl rfl (oneSn (hU.more (encSn e)) (List.mem_cons_of_mem _ hcL) (by omega) (getA hUc _)) ?_
  rintro v W ⟨rfl, ⟨a', q, cs', hW, ha', hfit⟩, sW⟩
  have w0 : ∀ j ∈ L, W[j]? = U[j]? := fun j hj => by
   have := hU.lt j hj
   rw [sW j (by simp [hj]) (by omega), List.getElem?_append_left this]
  have w1 : W[m]? = some (.row cs) := (w0 m hU.mem).trans hUm
  have hW' : WS true L r m a' ((l.drop (i + 1)).flatMap snB ++ t) q cs W := ⟨hW.way.sub (fun i hi => by simp [hi]), hU.mem, w1, hW.len⟩
  have sW' : StayX L m Y W := fun j hj hn => (w0 j hj).trans (sU j hj hn)
  cases hfe : snFit e with
  | true =>
   obtain ⟨rfl, rfl⟩ := hfit hfe
   (repeat (first | refine Run.adm rfl ?_ | refine Run.seq ?_ | ((first | apply Run.opS rfl | apply Run.condS); (· (simp -implicitDefEqProofs [w1, hc, hge]; first | exact ⟨rfl, rfl⟩ | exact rfl)))))
   refine Run.sl _ ?_ (ih (i + 1, W) ⟨by simp only; omega, by simp only; rw [flat_snoc he, all_snoc' he, ← Bool.and_assoc, ← List.append_assoc]; exact hW', sW', by simp only; rw [all_snoc' he, hf, hfe]; rfl⟩ (by simp only; omega))
   simp [hw1]
  | false =>
   (repeat (first | refine Run.adm rfl ?_ | refine Run.seq ?_ | ((first | apply Run.opS rfl | apply Run.condS); (· (simp -implicitDefEqProofs; first | exact ⟨rfl, rfl⟩ | exact rfl)))))
   refine Run.retS Tryz.func180 r180_ok trivial (by simp [r180]; rfl) ?_
   have hnf : lFit most snFit l = false := by
    have : l.all snFit = false := List.all_eq_false.2 ⟨e, List.mem_of_getElem? he, by simp [hfe]⟩
    simp [lFit, this]
   refine ⟨by simp [hnf], ⟨_, _, hW'.tag (by simp), ?_, fun e => by rw [hnf] at e; cases e⟩, sW'⟩
   have h6 := flat_take_le snB l (i + 1)
   rw [flat_snoc he] at h6
   simp only [List.length_append, lB] at ha' h6 ⊢
   omega
 ·have : i = l.length := by omega
  subst this
  rw [List.take_length] at hU hf
  (repeat (first | refine Run.adm rfl ?_ | refine Run.seq ?_ | ((first | apply Run.opS rfl | apply Run.condS); (· (simp -implicitDefEqProofs; first | exact ⟨rfl, rfl⟩ | exact rfl)))))
  refine Run.retS Tryz.func180 r180_ok trivial (by simp [r180]; rfl) ?_
  have hfit : lFit most snFit l = true := by simp only [lFit, hf, Bool.and_true, decide_eq_true_eq]; omega
  exact ⟨by simp [hfit], ⟨_, _, by simpa using hU, by simp [lB], fun _ => ⟨by simp [lB], rfl⟩⟩, sU⟩
theorem lstOSh {L : List Nat} {r m c off : Nat} {a t : Bs} {ok : Bool} {cs : List V} {Y : List O} {l : List ShM} {most : Int} (h : WS true L r m a (lB shB l ++ t) ok cs Y) (hc : cs[off]? = some (.vs (l.map encSh) 6)) (hcL : c ∈ L) (hcm : c ≠ m)
  (hw : Y[c]? = some (.row [.ifc (WTy true) r])) (hm : most ≤ 1000) :
  Tri Tryz.prog 176 [.ifc (WTy true) r, .ptr m off, .int .i64 most, .fn 177 [.ptr c 0]] Y (fun v Z => v = .bool (lFit most fitT l) ∧
   (∃ a' q, WS true L r m a' t q cs Z ∧ a'.length ≤ a.length + (lB shB l).length ∧ (lFit most fitT l = true → a' = a ++ lB shB l ∧ q = (ok && l.all shOk))) ∧ StayX L m Y Z) := by
 have hlt := h.lt m h.mem
 have hY := h.row
 have hml : ((l.map encSh).length : Int) = l.length := by simp
 simp only [lB, List.append_assoc] at h
 have h1 := h.more [.int .i64 l.length]
 have htri := ws_num (off := 0) h1 rfl (fun _ => rfl) (fun e => by cases e)
 have hYm : ∀ o, (Y ++ [o])[m]? = some (.row cs) := fun o => getA hY _
 refine Tri.of_run' Tryz.func176 rfl c176_ok (by simp [Tryz.ntmps176]) ?_
 (repeat (first | refine Run.adm rfl ?_ | refine Run.seq ?_ | ((first | apply Run.opS rfl | apply Run.condS); (· (simp -implicitDefEqProofs [hY, hYm, hc]; first | exact ⟨rfl, rfl⟩ | exact rfl)))))
 refine Run.opC rfl rfl (by simp [wnum_tbl]) htri ?_
 rintro v' Z ⟨rfl, h2, st⟩
 have g0 : ∀ i ∈ L, Z[i]? = Y[i]? := fun i hi => by
  have := h.lt i hi
  rw [st i (by simp [hi]) (by omega), List.getElem?_append_left this]
 have z1 : Z[Y.length]? = some (.row [.int .i64 l.length]) := h2.row
 by_cases hmost : most < (l.length : Int)
 ·(repeat (first | refine Run.adm rfl ?_ | refine Run.seq ?_ | ((first | apply Run.opS rfl | apply Run.condS); (· (simp -implicitDefEqProofs [z1, hmost]; first | exact ⟨rfl, rfl⟩ | exact rfl)))))
  refine Run.retS Tryz.func176 r176_ok trivial (by simp [r176]; rfl) ?_
  exact ⟨by simp [lFit]; omega, ⟨_, _, (⟨h2.way.sub (fun i hi => by simp [hi]), h.mem, (g0 m h.mem).trans hY, h2.len⟩ : WS true L r m _ _ _ _ _).tag (by simp), by simp [lB], fun e => by simp [lFit] at e; omega⟩, fun i hi _ => g0 i hi⟩
 have hnn : nOk l.length = true := nOk_of (by omega)
 rw [hnn, Bool.and_true] at h2
 (repeat (first | refine Run.adm rfl ?_ | refine Run.seq ?_ | ((first | apply Run.opS rfl | apply Run.condS); (· (simp -implicitDefEqProofs [z1, hmost]; first | exact ⟨rfl, rfl⟩ | exact rfl)))))
 refine Run.sl [(0, .ifc (WTy true) r), (1, .ptr m off), (3, .fn 177 [.ptr c 0]), (8, .bool false), (21, .int .i64 l.length), (22, .int .i64 (0 : Nat))] (by simp) ?_
 refine Run.loopS (fun (x : Nat × List O) => ([(0, .ifc (WTy true) r), (1, .ptr m off), (3, .fn 177 [.ptr c 0]), (8, .bool false), (21, .int .i64 l.length), (22, .int .i64 x.1)], x.2))
  (fun x => x.1 ≤ l.length ∧ WS true L r m (a ++ nB l.length ++ (l.take x.1).flatMap shB) ((l.drop x.1).flatMap shB ++ t) (ok && (l.take x.1).all shOk) cs x.2 ∧ StayX L m Y x.2 ∧ (l.take x.1).all fitT = true) (fun x => l.length - x.1) ?_ (0, Z)
  ⟨Nat.zero_le _, by simpa using (⟨h2.way.sub (fun i hi => by simp [hi]), h.mem, (g0 m h.mem).trans hY, h2.len⟩ : WS true L r m _ _ _ _ _), fun i hi _ => g0 i hi, by simp⟩
 rintro ⟨i, U⟩ ⟨hi, hU, sU, hf⟩ ih
 simp only at hi hU sU hf ih ⊢
 by_cases hlt : i < l.length
 ·obtain ⟨e, he, hei, hed, -⟩ := getL hlt
  have hlt' : (i : Int) < l.length := by omega
  have hge : ¬ (l.length : Int) ≤ i := by omega
  have hw1 := wrap_small (n := (i : Int) + 1) (by omega) (by omega)
  have hUm := hU.row
  have hUa : ∀ o, (U ++ [o])[m]? = some (.row cs) := fun o => getA hUm _
  have hUc : U[c]? = some (.row [.ifc (WTy true) r]) := (sU c hcL hcm).trans hw
  have hcl := hU.lt c hcL
  have hmlt := hU.lt m hU.mem
  rw [flat_drop hed] at hU
  (repeat (first | refine Run.adm rfl ?_ | refine Run.seq ?_ | ((first | apply Run.opS rfl | apply Run.condS); (· (simp -implicitDefEqProofs [hUm, hUa, hc, hlt, hlt', he, hei, encSh, encRp]; first | exact ⟨rfl, rfl⟩ | exact rfl)))))
  refine Run.opC rfl rfl rfl (oneSh (hU.more (encSh e)) (List.mem_cons_of_mem _ hcL) (by omega) (getA hUc _)) ?_
  rintro v W ⟨rfl, ⟨a', q, cs', hW, ha', hfit⟩, sW⟩
  have w0 : ∀ j ∈ L, W[j]? = U[j]? := fun j hj => by
   have := hU.lt j hj
   rw [sW j (by simp [hj]) (by omega), List.getElem?_append_left this]
  have w1 : W[m]? = some (.row cs) := (w0 m hU.mem).trans hUm
  have hW' : WS true L r m a' ((l.drop (i + 1)).flatMap shB ++ t) q cs W := ⟨hW.way.sub (fun i hi => by simp [hi]), hU.mem, w1, hW.len⟩
  have sW' : StayX L m Y W := fun j hj hn => (w0 j hj).trans (sU j hj hn)
  cases hfe : fitT e with
  | true =>
   obtain ⟨rfl, rfl⟩ := hfit hfe
   (repeat (first | refine Run.adm rfl ?_ | refine Run.seq ?_ | ((first | apply Run.opS rfl | apply Run.condS); (· (simp -implicitDefEqProofs [w1, hc, hge]; first | exact ⟨rfl, rfl⟩ | exact rfl)))))
   refine Run.sl _ ?_ (ih (i + 1, W) ⟨by simp only; omega, by simp only; rw [flat_snoc he, all_snoc' he, ← Bool.and_assoc, ← List.append_assoc]; exact hW', sW', by simp only; rw [all_snoc' he, hf, hfe]; rfl⟩ (by simp only; omega))
   simp [hw1]
  | false =>
   (repeat (first | refine Run.adm rfl ?_ | refine Run.seq ?_ | ((first | apply Run.opS rfl | apply Run.condS); (· (simp -implicitDefEqProofs; first | exact ⟨rfl, rfl⟩ | exact rfl)))))
   refine Run.retS Tryz.func176 r176_ok trivial (by simp [r176]; rfl) ?_
   have hnf : lFit most fitT l = false := by
    have : l.all fitT = false := List.all_eq_false.2 ⟨e, List.mem_of_getElem? he, by simp [hfe]⟩
    simp [lFit, this]
   refine ⟨by simp [hnf], ⟨_, _, hW'.tag (by simp), ?_, fun e => by rw [hnf] at e; cases e⟩, sW'⟩
   have h6 := flat_take_le shB l (i + 1)
   rw [flat_snoc he] at h6
   simp only [List.length_append, lB] at ha' h6 ⊢
   omega
 ·have : i = l.length := by omega
  subst this
  rw [List.take_length] at hU hf
  (repeat (first | refine Run.adm rfl ?_ | refine Run.seq ?_ | ((first | apply Run.opS rfl | apply Run.condS); (· (simp -implicitDefEqProofs; first | exact ⟨rfl, rfl⟩ | exact rfl)))))
  refine Run.retS Tryz.func176 r176_ok trivial (by simp [r176]; rfl) ?_
  have hfit : lFit most fitT l = true := by simp only [lFit, hf, Bool.and_true, decide_eq_true_eq]; omega
  exact ⟨by simp [hfit], ⟨_, _, by simpa using hU, by simp [lB], fun _ => ⟨by simp [lB], rfl⟩⟩, sU⟩
attribute [local simp ↓] upd_app tl_cons tl_nil
section wo
variable {L : List Nat} {r m off : Nat} {a t : Bs} {ok : Bool} {cs : List V} {Y : List O}
theorem wo_num {n : Int} (h : WS true L r m a (nB n ++ t) ok cs Y) (hc : cs[off]? = some (.int .i64 n)) : Tri Tryz.prog (WNum true) [.ptr r 0, .ptr m off] Y (fun v Z => v = .tup [] ∧ WS true L r m (a ++ nB n) t (ok && nOk n) cs Z ∧ StayX L m Y Z) :=
 (ws_num h hc (fun _ => rfl) (fun e => by cases e)).mono fun v Z ⟨e, g1, g2⟩ => ⟨e, by rw [lset_same hc] at g1; exact g1, g2⟩
theorem wo_txt {x : Bs} (h : WS true L r m a (xB x ++ t) ok cs Y) (hc : cs[off]? = some (.str x)) : Tri Tryz.prog (WTxt true) [.ptr r 0, .ptr m off] Y (fun v Z => v = .tup [] ∧ WS true L r m (a ++ xB x) t (ok && xOk x) cs Z ∧ StayX L m Y Z) :=
 (ws_txt h hc (fun _ => rfl) (fun e => by cases e)).mono fun v Z ⟨e, g1, g2⟩ => ⟨e, by rw [lset_same hc] at g1; exact g1, g2⟩
theorem wo_flg {b : Bool} (h : WS true L r m a (nB (bI b) ++ t) ok cs Y) (hc : cs[off]? = some (.bool b)) : Tri Tryz.prog 171 [.ifc (WTy true) r, .ptr m off] Y (fun v Z => v = .bool true ∧ WS true L r m (a ++ nB (bI b)) t ok cs Z ∧ StayX L m Y Z) :=
 (flag_tri h hc (fun _ => rfl)).mono fun v Z ⟨e, g1, g2⟩ => ⟨e, by rw [lset_same hc] at g1; exact g1, g2⟩
theorem WS.box {k : Bool} (h : WS k L r m a t ok cs Y) (o : O) : WS k (Y.length :: L) r m a t ok cs (Y ++ [o]) := ⟨h.way.more _, List.mem_cons_of_mem _ h.mem, getA h.row _, h.len⟩
end wo
structure OpM where
 kind : Int
 key : Bs
 val : Bs
 old : Bs
 has : Bool
 ws : List WrM
 lo : Bs
 hi : Bs
 lim : Int
def encOp (o : OpM) : List V := [.int .i64 o.kind, .str o.key, .str o.val, .str o.old, .bool o.has, .vs (o.ws.map encW) 3, .str o.lo, .str o.hi, .int .i64 o.lim]
def opB (o : OpM) : Bs := nB o.kind ++ (xB o.key ++ (xB o.val ++ (xB o.old ++ (nB (bI o.has) ++ (lB wrB o.ws ++ (xB o.lo ++ (xB o.hi ++ nB o.lim)))))))
def opOk (o : OpM) : Bool := nOk o.kind && xOk o.key && xOk o.val && xOk o.old && o.ws.all wrOk && xOk o.lo && xOk o.hi && nOk o.lim
def opFit (o : OpM) : Bool := lFit 64 fitT o.ws
theorem cell_of {cs l : List V} {off n i : Nat} (h : (cs.drop off).take n = l) (hi : i < n) : cs[off + i]? = l[i]? := by
 rw [← h, List.getElem?_take_of_lt hi, List.getElem?_drop]
theorem op_out {L : List Nat} {r m : Nat} {a t : Bs} {ok : Bool} {cs : List V} {Y : List O} {o : OpM} (h : WS true L r m a (opB o ++ t) ok cs Y) (hcs : (cs.drop 8).take 9 = encOp o) :
  Tri Tryz.prog 172 [.ifc (WTy true) r, .ptr m 8] Y (fun v Z => v = .bool (opFit o) ∧ (∃ a' q, WS true L r m a' t q cs Z ∧ a'.length ≤ a.length + (opB o).length ∧ (opFit o = true → a' = a ++ opB o ∧ q = (ok && opOk o))) ∧ StayX L m Y Z) := by
 have c0 : cs[8]? = some (.int .i64 o.kind) := cell_of (i := 0) hcs (by decide)
 have c1 : cs[9]? = some (.str o.key) := cell_of (i := 1) hcs (by decide)
 have c2 : cs[10]? = some (.str o.val) := cell_of (i := 2) hcs (by decide)
 have c3 : cs[11]? = some (.str o.old) := cell_of (i := 3) hcs (by decide)
 have c4 : cs[12]? = some (.bool o.has) := cell_of (i := 4) hcs (by decide)
 have c5 : cs[13]? = some (.vs (o.ws.map encW) 3) := cell_of (i := 5) hcs (by decide)
 have c6 : cs[14]? = some (.str o.lo) := cell_of (i := 6) hcs (by decide)
 have c7 : cs[15]? = some (.str o.hi) := cell_of (i := 7) hcs (by decide)
 have c8 : cs[16]? = some (.int .i64 o.lim) := cell_of (i := 8) hcs (by decide)
 simp only [opB, List.append_assoc] at h
 have hm := h.lt m h.mem
 have hL := h.lt
 have s0 : StayX L m Y (Y ++ [.row [.ifc (WTy true) r]]) := fun i hi _ => List.getElem?_append_left (hL i hi)
 replace h := h.box (.row [.ifc (WTy true) r])
 have hw : (Y ++ [O.row [.ifc (WTy true) r]])[Y.length]? = some (.row [.ifc (WTy true) r]) := by simp
 have st := StayX.refl (Y.length :: L) m (Y ++ [.row [.ifc (WTy true) r]])
 refine Tri.of_run' Tryz.func172 rfl c172_ok (by simp [Tryz.ntmps172]) ?_
 (repeat (first | refine Run.adm rfl ?_ | refine Run.seq ?_ | ((first | apply Run.opS rfl | apply Run.condS); (· (simp -implicitDefEqProofs; first | exact ⟨rfl, rfl⟩ | exact rfl)))))
 generalize hY1 : Y ++ [O.row [.ifc (WTy true) r]] = Y1 at *
 generalize Y.length = c at *
 have hc : c ∈ c :: L := by simp
 have hcx : c ≠ m := by omega
 refine Run.qchain prog_mixed 7 (by kernel_rfl) ?_
 (repeat (first | refine execQ_E rfl ?_ | (apply execQ_S rfl; (· (simp -implicitDefEqProofs [hw, wnum_m]; exact ⟨rfl, rfl⟩)))))
 refine SeqR.C rfl rfl (by simp [wnum_tbl]) (wo_num (n := o.kind) (off := 8) h c0) ?_
 rintro v Z ⟨rfl, h2, s2⟩
 replace hw := (s2 c hc hcx).trans hw
 replace st := st.trans s2
 replace h := h2
 clear h2 s2
 (repeat (first | refine SeqR.E rfl ?_ | (apply SeqR.o0 rfl; (· (simp -implicitDefEqProofs; exact ⟨rfl, rfl⟩))) | (apply SeqR.A rfl; (· (simp -implicitDefEqProofs; done)); (· (simp -implicitDefEqProofs; exact ⟨rfl, rfl⟩))) | (apply SeqR.N rfl; (· (simp -implicitDefEqProofs; done)))))
 (repeat (first | refine Run.adm rfl ?_ | refine Run.seq ?_ | ((first | apply Run.opS rfl | apply Run.condS); (· (simp -implicitDefEqProofs; first | exact ⟨rfl, rfl⟩ | exact rfl)))))
 refine Run.qchain prog_mixed 7 (by kernel_rfl) ?_
 (repeat (first | refine execQ_E rfl ?_ | (apply execQ_S rfl; (· (simp -implicitDefEqProofs [hw, wtxt_m]; exact ⟨rfl, rfl⟩)))))
 refine SeqR.C rfl rfl (by simp [wtxt_tbl]) (wo_txt (x := o.key) (off := 9) h c1) ?_
 rintro v Z ⟨rfl, h2, s2⟩
 replace hw := (s2 c hc hcx).trans hw
 replace st := st.trans s2
 replace h := h2
 clear h2 s2
 (repeat (first | refine SeqR.E rfl ?_ | (apply SeqR.o0 rfl; (· (simp -implicitDefEqProofs; exact ⟨rfl, rfl⟩))) | (apply SeqR.A rfl; (· (simp -implicitDefEqProofs; done)); (· (simp -implicitDefEqProofs; exact ⟨rfl, rfl⟩))) | (apply SeqR.N rfl; (· (simp -implicitDefEqProofs; done)))))
 (repeat (first | refine Run.adm rfl ?_ | refine Run.seq ?_ | ((first | apply Run.opS rfl | apply Run.condS); (· (simp -implicitDefEqProofs; first | exact ⟨rfl, rfl⟩ | exact rfl)))))
 refine Run.qchain prog_mixed 7 (by kernel_rfl) ?_
 (repeat (first | refine execQ_E rfl ?_ | (apply execQ_S rfl; (· (simp -implicitDefEqProofs [hw, wtxt_m]; exact ⟨rfl, rfl⟩)))))
 refine SeqR.C rfl rfl (by simp [wtxt_tbl]) (wo_txt (x := o.val) (off := 10) h c2) ?_
 rintro v Z ⟨rfl, h2, s2⟩
 replace hw := (s2 c hc hcx).trans hw
 replace st := st.trans s2
 replace h := h2
 clear h2 s2
 (repeat (first | refine SeqR.E rfl ?_ | (apply SeqR.o0 rfl; (· (simp -implicitDefEqProofs; exact ⟨rfl, rfl⟩))) | (apply SeqR.A rfl; (· (simp -implicitDefEqProofs; done)); (· (simp -implicitDefEqProofs; exact ⟨rfl, rfl⟩))) | (apply SeqR.N rfl; (· (simp -implicitDefEqProofs; done)))))
 (repeat (first | refine Run.adm rfl ?_ | refine Run.seq ?_ | ((first | apply Run.opS rfl | apply Run.condS); (· (simp -implicitDefEqProofs; first | exact ⟨rfl, rfl⟩ | exact rfl)))))
 refine Run.qchain prog_mixed 7 (by kernel_rfl) ?_
 (repeat (first | refine execQ_E rfl ?_ | (apply execQ_S rfl; (· (simp -implicitDefEqProofs [hw, wtxt_m]; exact ⟨rfl, rfl⟩)))))
 refine SeqR.C rfl rfl (by simp [wtxt_tbl]) (wo_txt (x := o.old) (off := 11) h c3) ?_
 rintro v Z ⟨rfl, h2, s2⟩
 replace hw := (s2 c hc hcx).trans hw
 replace st := st.trans s2
 replace h := h2
 clear h2 s2
 (repeat (first | refine SeqR.E rfl ?_ | (apply SeqR.o0 rfl; (· (simp -implicitDefEqProofs; exact ⟨rfl, rfl⟩))) | (apply SeqR.A rfl; (· (simp -implicitDefEqProofs; done)); (· (simp -implicitDefEqProofs; exact ⟨rfl, rfl⟩))) | (apply SeqR.N rfl; (· (simp -implicitDefEqProofs; done)))))
 (repeat (first | refine Run.adm rfl ?_ | refine Run.seq ?_ | ((first | apply Run.opS rfl | apply Run.condS); (· (simp -implicitDefEqProofs; first | exact ⟨rfl, rfl⟩ | exact rfl)))))
 refine Run.drawn prog_mixed ?_
 show RunD _ c172d4 [0, 1, 2, 3, 4, 5, 6, 7, 8, 9, 10, 11, 12, 13] [] _ _ _
 refine RunD.flow [0, 1, 2, 3] (by kernel_rfl) (by decide +kernel) (by decide +kernel) (by decide) trivial ?_; (repeat (first | refine execQ_E rfl ?_ | (apply execQ_S rfl; (· (simp -implicitDefEqProofs [hw]; exact ⟨rfl, rfl⟩))))); intro hpo
 refine RunD.alt1 4 (by kernel_rfl) (by kernel_rfl) hpo ?_
 refine AStep.C rfl rfl rfl (wo_flg (off := 12) h c4) ?_
 rintro v Z ⟨rfl, h2, s2⟩
 replace hw := (s2 c hc hcx).trans hw
 replace st := st.trans s2
 refine RunD.flow [5, 6, 7, 8, 9, 10] (by kernel_rfl) (by decide +kernel) (by decide +kernel) (by decide) (show PendOk _ c172d4 _ _ [] from trivial) ?_; (repeat (first | refine execQ_E rfl ?_ | (apply execQ_S rfl; (· (simp -implicitDefEqProofs [hw]; exact ⟨rfl, rfl⟩))))); intro hpo
 refine RunD.alt1 11 (by kernel_rfl) (by kernel_rfl) hpo ?_
 refine AStep.C rfl rfl rfl (lstOW (c := c) h2 c5 hc hcx hw (by decide)) ?_
 rintro v Z2 ⟨rfl, ⟨a', q, h3, ha', hfit⟩, s3⟩
 replace hw := (s3 c hc hcx).trans hw
 replace st := st.trans s3
 refine RunD.flow [12, 13] (by kernel_rfl) (by decide +kernel) (by decide +kernel) (by decide) (show PendOk _ c172d4 _ _ [] from trivial) ?_; (repeat (first | refine execQ_E rfl ?_ | (apply execQ_S rfl; (· (simp -implicitDefEqProofs; exact ⟨rfl, rfl⟩))))); intro hpo
 refine RunD.fin (by kernel_rfl) (by
  show PendOk _ c172d4 _ _ _
  exact hpo) ?_
 replace h := h3
 (repeat (first | refine Run.adm rfl ?_ | refine Run.seq ?_ | ((first | apply Run.opS rfl | apply Run.condS); (· (simp -implicitDefEqProofs; first | exact ⟨rfl, rfl⟩ | exact rfl)))))
 refine Run.qchain prog_mixed 8 (by kernel_rfl) ?_
 (repeat (first | refine execQ_E rfl ?_ | (apply execQ_S rfl; (· (simp -implicitDefEqProofs [hw, wtxt_m]; exact ⟨rfl, rfl⟩)))))
 refine SeqR.C rfl rfl (by simp [wtxt_tbl]) (wo_txt (x := o.lo) (off := 14) h c6) ?_
 rintro v Z ⟨rfl, h2, s2⟩
 replace hw := (s2 c hc hcx).trans hw
 replace st := st.trans s2
 replace h := h2
 clear h2 s2
 (repeat (first | refine SeqR.E rfl ?_ | (apply SeqR.o0 rfl; (· (simp -implicitDefEqProofs; exact ⟨rfl, rfl⟩))) | (apply SeqR.A rfl; (· (simp -implicitDefEqProofs; done)); (· (simp -implicitDefEqProofs; exact ⟨rfl, rfl⟩))) | (apply SeqR.N rfl; (· (simp -implicitDefEqProofs; done)))))
 (repeat (first | refine Run.adm rfl ?_ | refine Run.seq ?_ | ((first | apply Run.opS rfl | apply Run.condS); (· (simp -implicitDefEqProofs; first | exact ⟨rfl, rfl⟩ | exact rfl)))))
 refine Run.qchain prog_mixed 8 (by kernel_rfl) ?_
 (repeat (first | refine execQ_E rfl ?_ | (apply execQ_S rfl; (· (simp -implicitDefEqProofs [hw, wtxt_m]; exact ⟨rfl, rfl⟩)))))
 refine SeqR.C rfl rfl (by simp [wtxt_tbl]) (wo_txt (x := o.hi) (off := 15) h c7) ?_
 rintro v Z ⟨rfl, h2, s2⟩
 replace hw := (s2 c hc hcx).trans hw
 replace st := st.trans s2
 replace h := h2
 clear h2 s2
 (repeat (first | refine SeqR.E rfl ?_ | (apply SeqR.o0 rfl; (· (simp -implicitDefEqProofs; exact ⟨rfl, rfl⟩))) | (apply SeqR.A rfl; (· (simp -implicitDefEqProofs; done)); (· (simp -implicitDefEqProofs; exact ⟨rfl, rfl⟩))) | (apply SeqR.N rfl; (· (simp -implicitDefEqProofs; done)))))
 (repeat (first | refine Run.adm rfl ?_ | refine Run.seq ?_ | ((first | apply Run.opS rfl | apply Run.condS); (· (simp -implicitDefEqProofs; first | exact ⟨rfl, rfl⟩ | exact rfl)))))
 refine Run.qchain prog_mixed 7 (by kernel_rfl) ?_
 (repeat (first | refine execQ_E rfl ?_ | (apply execQ_S rfl; (· (simp -implicitDefEqProofs [hw, wnum_m]; exact ⟨rfl, rfl⟩)))))
 refine SeqR.C rfl rfl (by simp [wnum_tbl]) (wo_num (n := o.lim) (off := 16) h c8) ?_
 rintro v Z ⟨rfl, h2, s2⟩
 replace hw := (s2 c hc hcx).trans hw
 replace st := st.trans s2
 replace h := h2
 clear h2 s2
 (repeat (first | refine SeqR.E rfl ?_ | (apply SeqR.o0 rfl; (· (simp -implicitDefEqProofs; exact ⟨rfl, rfl⟩))) | (apply SeqR.A rfl; (· (simp -implicitDefEqProofs; done)); (· (simp -implicitDefEqProofs; exact ⟨rfl, rfl⟩))) | (apply SeqR.N rfl; (· (simp -implicitDefEqProofs; done)))))
 (repeat (first | refine Run.adm rfl ?_ | refine Run.seq ?_ | ((first | apply Run.opS rfl | apply Run.condS); (· (simp -implicitDefEqProofs; first | exact ⟨rfl, rfl⟩ | exact rfl)))))
 refine Run.retS Tryz.func172 r172_ok trivial (by simp [r172]; rfl) ?_
 refine ⟨rfl, ⟨_, _, ⟨h.way.sub (fun i hi => by simp [hi]), by have := h.mem; simp at this; rcases this with e | e; omega; exact e, h.row, h.len⟩, ?_, fun e => ?_⟩, ?_⟩
 ·simp only [List.length_append, opB] at ha' ⊢; omega
 ·obtain ⟨rfl, rfl⟩ := hfit e
  exact ⟨by simp [opB], by simp [opOk, Bool.and_assoc]⟩
 ·exact s0.trans (fun i hi hn => st i (by simp [hi]) hn)
attribute [local simp ↓] upd_app tl_cons tl_nil
structure MsgM where
 kind : Int
 shard : Int
 other : Int
 epoch : Int
 client : Int
 seq : Int
 move : Int
 whole : Bool
 op : OpM
 rep : RpM
 map : List ShM
 ents : List ETM
 seen : List SnM
def MsgM.nums (M : MsgM) : List Int := [M.kind, M.shard, M.other, M.epoch, M.client, M.seq, M.move]
def encI (n : Int) : V := .int .i64 n
def encMsg (M : MsgM) : List V := M.nums.map encI ++ (.bool M.whole :: (encOp M.op ++ (encRp M.rep ++ [.vs (M.map.map encSh) 6, .vs (M.ents.map encET) 4, .vs (M.seen.map encSn) 7])))
def tailB (M : MsgM) : Bs := nB (bI M.whole) ++ (opB M.op ++ (hdB M.rep.err M.rep.val M.rep.has ++ (lB prB M.rep.ps ++ (xB M.rep.upto ++ (lB shB M.map ++ (lB etB M.ents ++ lB snB M.seen))))))
def msgB (M : MsgM) : Bs := M.nums.flatMap nB ++ tailB M
def msgFit (M : MsgM) : Bool := decide (1 ≤ M.kind) && decide (M.kind ≤ 15) && opFit M.op && lFit 512 fitT M.rep.ps && lFit 64 fitT M.map && lFit 512 fitT M.ents && lFit 8 snFit M.seen
def msgOk (M : MsgM) : Bool := M.nums.all nOk && opOk M.op && (nOk M.rep.err && xOk M.rep.val) && M.rep.ps.all prOk && xOk M.rep.upto && M.map.all shOk && M.ents.all etOk && M.seen.all snOk
def ptrs7 (m : Nat) : List V := [.ptr m 0, .ptr m 1, .ptr m 2, .ptr m 3, .ptr m 4, .ptr m 5, .ptr m 6]
theorem ptrs7_get (m : Nat) : ∀ {i : Nat}, i < 7 → (ptrs7 m)[i]? = some (.ptr m i)
 | 0, _ | 1, _ | 2, _ | 3, _ | 4, _ | 5, _ | 6, _ => rfl
theorem nums_run {E : Env} (hE : E.P = Tryz.prog) {k : Bool} {L : List Nat} {r m c p : Nat} {a t : Bs} {ok : Bool} {ns : List Int} {zs cs : List V} {Y : List O} {kk : List AItem} {w0 w1 : V}
  (h : WS k L r m a (ns.flatMap nB ++ t) ok (zs ++ cs) Y) (hn : ns.length = 7) (hz : zs.length = 7) (hzi : ∀ (i : Nat) (n : Int), ns[i]? = some n → ∃ z : Int, zs[i]? = some (V.int .i64 z) ∧ (k = true → z = n)) (hi : k = false → ns.all nOk = true)
  (hc : c ∈ L) (hcx : c ≠ m) (hw : Y[c]? = some (.row [.ifc (WTy k) r])) (hp : p ∈ L) (hpx : p ≠ m) (hP : Y[p]? = some (.row (ptrs7 m)))
  (hr : ∀ Z, WS k L r m (a ++ ns.flatMap nB) t (ok && ns.all nOk) (ns.map encI ++ cs) Z → StayX L m Y Z → Run E ⟨kk, tl [(0, w0), (1, w1), (2, .ptr c 0), (4, .bool false), (29, .sl p 0 7 1 (some 7)), (30, .int .i64 7), (31, .int .i64 (7 : Nat))], Z⟩) :
  Run E ⟨.code (.loop c141l0) :: .endB 0 :: kk, tl [(0, w0), (1, w1), (2, .ptr c 0), (4, .bool false), (29, .sl p 0 7 1 (some 7)), (30, .int .i64 7), (31, .int .i64 (0 : Nat))], Y⟩ := by
 refine Run.loopS (fun (x : Nat × List O) => ([(0, w0), (1, w1), (2, .ptr c 0), (4, .bool false), (29, .sl p 0 7 1 (some 7)), (30, .int .i64 7), (31, .int .i64 x.1)], x.2))
  (fun x => x.1 ≤ 7 ∧ WS k L r m (a ++ (ns.take x.1).flatMap nB) ((ns.drop x.1).flatMap nB ++ t) (ok && (ns.take x.1).all nOk) ((ns.take x.1).map encI ++ (zs.drop x.1 ++ cs)) x.2 ∧ StayX L m Y x.2) (fun x => 7 - x.1) ?_ (0, Y)
  ⟨Nat.zero_le _, by simpa using h, StayX.refl _ _ _⟩
 rintro ⟨i, U⟩ ⟨hi7, hU, sU⟩ ih
 simp only at hi7 hU sU ih ⊢
 by_cases hlt : i < 7
 ·obtain ⟨n, hni, -, hnd, -⟩ := getL (l := ns) (i := i) (by omega)
  obtain ⟨z, hzz, hzn⟩ := hzi i n hni
  have hlt' : (i : Int) < 7 := by omega
  have hUw : U[c]? = some _ := (sU c hc hcx).trans hw
  have hUp : U[p]? = some (.row (ptrs7 m)) := (sU p hp hpx).trans hP
  have hg := ptrs7_get m hlt
  have hw1 := wrap_small (n := (i : Int) + 1) (by omega) (by omega)
  have hlen : ((ns.take i).map encI).length = i := by simp; omega
  have hcell : ((ns.take i).map encI ++ (zs.drop i ++ cs))[i]? = some (.int .i64 z) := by
   rw [List.getElem?_append_right (by omega), hlen, Nat.sub_self, List.getElem?_append_left (by simp; omega), List.getElem?_drop]; simpa using hzz
  have hset : ((ns.take i).map encI ++ (zs.drop i ++ cs)).set i (.int .i64 n) = (ns.take (i + 1)).map encI ++ (zs.drop (i + 1) ++ cs) := by
   rw [List.set_append_right _ _ (by omega), hlen, Nat.sub_self, List.take_add_one, hni]
   obtain ⟨y, hy⟩ : ∃ y, zs.drop i = y :: zs.drop (i + 1) := ⟨_, List.drop_eq_getElem_cons (by omega)⟩
   rw [hy]; simp [encI]
  rw [hnd, List.flatMap_cons, List.append_assoc] at hU
  have htri := ws_num (n := n) hU hcell hzn (fun e => List.all_eq_true.1 (hi e) n (List.mem_of_getElem? hni))
  rw [hset, ← hE] at htri
  generalize ptrs7 m = ps at hg hUp
  (repeat (first | refine Run.adm rfl ?_ | refine Run.seq ?_ | ((first | apply Run.opS rfl | apply Run.condS); (· (simp -implicitDefEqProofs [hlt', hUp, hg, hUw]; first | exact ⟨rfl, rfl⟩ | exact rfl)))))
  refine Run.opC rfl rfl (by simp [wnum_tbl]) htri ?_
  rintro v Z ⟨rfl, hZ, sZ⟩
  (repeat (first | refine Run.adm rfl ?_ | refine Run.seq ?_ | ((first | apply Run.opS rfl | apply Run.condS); (· (simp -implicitDefEqProofs; first | exact ⟨rfl, rfl⟩ | exact rfl)))))
  refine Run.sl _ ?_ (ih (i + 1, Z) ⟨by simp only; omega, by simp only; rw [flat_snoc hni, all_snoc' hni, ← Bool.and_assoc, ← List.append_assoc]; exact hZ, sU.trans sZ⟩ (by simp only; omega))
  simp [hw1]
 ·have : i = 7 := by omega
  subst this
  rw [List.take_of_length_le (by omega), List.drop_of_length_le (by omega), List.drop_of_length_le (by omega)] at hU
  (repeat (first | refine Run.adm rfl ?_ | refine Run.seq ?_ | ((first | apply Run.opS rfl | apply Run.condS); (· (simp -implicitDefEqProofs; first | exact ⟨rfl, rfl⟩ | exact rfl)))))
  refine Run.sl _ ?_ (hr U (by simpa using hU) sU)
  simp
attribute [local simp ↓] upd_app tl_cons tl_nil
theorem head_out {L : List Nat} {r m off : Nat} {a t : Bs} {ok : Bool} {cs : List V} {Y : List O} {e : Int} {v : Bs} {b : Bool} (h : WS true L r m a (hdB e v b ++ t) ok cs Y) (c0 : cs[off]? = some (.int .i64 e)) (c1 : cs[off + 1]? = some (.str v)) (c2 : cs[off + 2]? = some (.bool b)) :
  Tri Tryz.prog 173 [.ifc (WTy true) r, .ptr m off] Y (fun w Z => w = .bool true ∧ WS true L r m (a ++ hdB e v b) t (ok && (nOk e && xOk v)) cs Z ∧ StayX L m Y Z) :=
 (head_tri h c0 c1 c2 (fun _ => ⟨rfl, rfl, rfl⟩) (fun e => by cases e)).mono fun v Z ⟨e, g1, g2⟩ => ⟨e, by rw [lset_same c0, lset_same c1, lset_same c2] at g1; exact g1, g2⟩
set_option maxHeartbeats 4000000 in
theorem parts_out {L : List Nat} {r m : Nat} {a t : Bs} {ok : Bool} {Y : List O} {M : MsgM} (h : WS true L r m a (msgB M ++ t) ok (encMsg M) Y) :
  Tri Tryz.prog 141 [.ifc (WTy true) r, .ptr m 0] Y (fun v Z => v = .bool (msgFit M) ∧ ∃ a' q, WS true L r m a' t q (encMsg M) Z ∧ (msgFit M = true → a' = a ++ msgB M ∧ q = (ok && msgOk M))) := by
 have c0 : (encMsg M)[0]? = some (.int .i64 M.kind) := rfl
 have c7 : (encMsg M)[7]? = some (.bool M.whole) := rfl
 have c8 : ((encMsg M).drop 8).take 9 = encOp M.op := rfl
 have c17 : (encMsg M)[17]? = some (.int .i64 M.rep.err) := rfl
 have c18 : (encMsg M)[18]? = some (.str M.rep.val) := rfl
 have c19 : (encMsg M)[19]? = some (.bool M.rep.has) := rfl
 have c20 : (encMsg M)[20]? = some (.vs (M.rep.ps.map encPr) 2) := rfl
 have c21 : (encMsg M)[21]? = some (.str M.rep.upto) := rfl
 have c22 : (encMsg M)[22]? = some (.vs (M.map.map encSh) 6) := rfl
 have c23 : (encMsg M)[23]? = some (.vs (M.ents.map encET) 4) := rfl
 have c24 : (encMsg M)[24]? = some (.vs (M.seen.map encSn) 7) := rfl
 simp only [msgB, tailB, List.append_assoc] at h
 have hL := h.lt
 have hm := h.lt m h.mem
 have end1 : ∀ {c p : Nat} {a' t' : Bs} {q : Bool} {Z : List O}, WS true (p :: c :: L) r m a' t' q (encMsg M) Z → c ≠ m → p ≠ m → t.length ≤ t'.length → WS true L r m a' t q (encMsg M) Z := fun h2 n1 n2 hl => by
  have hmm := h2.mem
  simp only [List.mem_cons] at hmm
  exact (⟨h2.way.sub (fun i hi => by simp [hi]), by rcases hmm with e | e | e; exact absurd e (Ne.symm n2); exact absurd e (Ne.symm n1); exact e, h2.row, h2.len⟩ : WS true L r m _ _ _ _ _).tag hl
 have hbox := h.box (.row [.ifc (WTy true) r])
 have hlen1 : (Y ++ [O.row [.ifc (WTy true) r]]).length = Y.length + 1 := by simp
 have hbox2 := hbox.box (.row (ptrs7 m))
 have hcY : ((Y ++ [O.row [.ifc (WTy true) r]]) ++ [.row (ptrs7 m)])[Y.length]? = some (.row [.ifc (WTy true) r]) := getA (by simp) _
 have hpY : ((Y ++ [O.row [.ifc (WTy true) r]]) ++ [.row (ptrs7 m)])[Y.length + 1]? = some (.row (ptrs7 m)) := by rw [← hlen1]; simp
 rw [hlen1] at hbox2
 simp only [List.append_assoc, List.cons_append, List.nil_append] at hbox2 hcY hpY
 refine Tri.of_run' Tryz.func141 rfl c141_ok (by simp [Tryz.ntmps141]) ?_
 (repeat (first | refine Run.adm rfl ?_ | refine Run.seq ?_ | ((first | apply Run.opS rfl | apply Run.condS); (· (simp -implicitDefEqProofs; first | exact ⟨rfl, rfl⟩ | exact rfl)))))
 refine Run.drawn prog_mixed ?_
 show RunD _ c141d0 [0, 1, 2, 3, 4, 5, 6, 7, 8, 9, 10, 11, 12, 13, 14, 15, 16, 17, 18, 19, 20, 21, 22, 23] [] _ _ _
 refine RunD.flow [0, 1, 2, 3, 4, 5, 6, 7, 8, 9, 10, 11, 12, 13, 14, 15, 16, 17, 18, 19, 20, 23] (by kernel_rfl) (by decide +kernel) (by decide +kernel) (by decide) trivial ?_; (repeat (first | refine execQ_E rfl ?_ | (apply execQ_S rfl; (· (simp -implicitDefEqProofs; exact ⟨rfl, rfl⟩))))); intro hpo
 refine RunD.alt1 21 (by kernel_rfl) (by kernel_rfl) hpo ?_
 (apply AStep.S rfl; (· (simp -implicitDefEqProofs; exact ⟨rfl, rfl⟩)))
 refine RunD.flow [22] (by kernel_rfl) (by decide +kernel) (by decide +kernel) (by decide) (by
  show PendOk _ c141d0 _ _ [23]
  (repeat (first | exact PendOk.nil | (refine PendOk.S rfl rfl ?_ ?_; (· (simp -implicitDefEqProofs; done)))))) ?_; (repeat (first | refine execQ_E rfl ?_ | (apply execQ_S rfl; (· (simp -implicitDefEqProofs; exact ⟨rfl, rfl⟩))))); intro hpo
 refine RunD.fin (by kernel_rfl) (by
  show PendOk _ c141d0 _ _ _
  exact hpo) ?_
 (repeat (first | refine Run.adm rfl ?_ | refine Run.seq ?_ | ((first | apply Run.opS rfl | apply Run.condS); (· (simp -implicitDefEqProofs; first | exact ⟨rfl, rfl⟩ | exact rfl)))))
 generalize hc : Y.length = c at *
 obtain ⟨p, hp⟩ : ∃ p, c + 1 = p := ⟨_, rfl⟩
 rw [hp] at hbox2 hpY
 have hcm : c ≠ m := by omega
 have hpm : p ≠ m := by omega
 have hci : c ∈ p :: c :: L := by simp
 have hpi : p ∈ p :: c :: L := by simp
 refine Run.sl [(0, .ifc (WTy true) r), (1, .ptr m 0), (2, .ptr c 0), (4, .bool false), (29, .sl p 0 7 1 (some 7)), (30, .int .i64 7), (31, .int .i64 (0 : Nat))] (by simp [hp, hlen1, hc]) ?_
 refine nums_run (k := true) rfl (ns := M.nums) (zs := M.nums.map encI) hbox2 rfl rfl (fun i n hn => ⟨n, by rw [List.getElem?_map, hn]; rfl, fun _ => rfl⟩) (fun e => by cases e) hci hcm hcY hpi hpm hpY ?_
 intro U h1 s1
 replace h1 : WS true (p :: c :: L) r m (a ++ M.nums.flatMap nB) _ _ (encMsg M) U := h1
 have hw : U[c]? = some (.row [.ifc (WTy true) r]) := (s1 c hci hcm).trans hcY
 have hrow := h1.row
 have bad : ∀ {Z q a' t'}, msgFit M = false → WS true (p :: c :: L) r m a' t' q (encMsg M) Z → t.length ≤ t'.length →
   (false = msgFit M) ∧ ∃ a' q, WS true L r m a' t q (encMsg M) Z ∧ (msgFit M = true → a' = a ++ msgB M ∧ q = (ok && msgOk M)) := fun hf h2 hl =>
  ⟨hf.symm, _, _, end1 h2 hcm hpm hl, fun e => by rw [hf] at e; cases e⟩
 (repeat (first | refine Run.adm rfl ?_ | refine Run.seq ?_ | ((first | apply Run.opS rfl | apply Run.condS); (· (simp -implicitDefEqProofs; first | exact ⟨rfl, rfl⟩ | exact rfl)))))
 refine Run.drawn prog_mixed ?_
 show RunD _ c141d1 [0, 1, 2, 3, 4, 5, 6, 7, 8, 9, 10, 11, 12, 13, 14, 15, 16, 17, 18, 19, 20, 21, 22, 23, 24, 25, 26, 27, 28, 29, 30, 31, 32, 33, 34, 35] [] _ _ _
 by_cases hk1 : M.kind < 1
 ·refine RunD.flow [0, 1, 2, 3, 4, 5, 6, 7, 8, 9, 10, 11, 12, 13, 14, 15, 16, 17, 18, 19, 20, 21, 22, 23, 24, 25, 26, 27, 28, 29, 30, 31, 32, 33, 34, 35] (by kernel_rfl) (by decide +kernel) (by decide +kernel) (by decide) trivial ?_; (repeat (first | refine execQ_E rfl ?_ | (apply execQ_S rfl; (· (simp -implicitDefEqProofs [hrow, c0, hk1]; exact ⟨rfl, rfl⟩))))); intro hpo
  refine RunD.fin (by kernel_rfl) hpo ?_
  (repeat (first | refine Run.adm rfl ?_ | refine Run.seq ?_ | ((first | apply Run.opS rfl | apply Run.condS); (· (simp -implicitDefEqProofs; first | exact ⟨rfl, rfl⟩ | exact rfl)))))
  refine Run.retS Tryz.func141 r141_ok trivial (by simp [r141]; rfl) ?_
  obtain ⟨e, g⟩ := bad (by simp [msgFit]; omega) h1 (by simp; omega)
  exact ⟨by rw [← e]; rfl, g⟩
 by_cases hk2 : 15 < M.kind
 ·refine RunD.flow [0, 1, 2, 3, 4, 5, 6, 7, 8, 9, 10, 11, 12, 13, 14, 15, 16, 17, 18, 19, 20, 21, 22, 23, 24, 25, 26, 27, 28, 29, 30, 31, 32, 33, 34, 35] (by kernel_rfl) (by decide +kernel) (by decide +kernel) (by decide) trivial ?_; (repeat (first | refine execQ_E rfl ?_ | (apply execQ_S rfl; (· (simp -implicitDefEqProofs [hrow, c0, hk1, hk2]; exact ⟨rfl, rfl⟩))))); intro hpo
  refine RunD.fin (by kernel_rfl) hpo ?_
  (repeat (first | refine Run.adm rfl ?_ | refine Run.seq ?_ | ((first | apply Run.opS rfl | apply Run.condS); (· (simp -implicitDefEqProofs; first | exact ⟨rfl, rfl⟩ | exact rfl)))))
  refine Run.retS Tryz.func141 r141_ok trivial (by simp [r141]; rfl) ?_
  obtain ⟨e, g⟩ := bad (by simp [msgFit]; omega) h1 (by simp; omega)
  exact ⟨by rw [← e]; rfl, g⟩
 have hk : (decide (1 ≤ M.kind) && decide (M.kind ≤ 15)) = true := by simp; omega
 refine RunD.flow [0, 1, 2, 3, 4, 5, 6, 7, 8, 9, 10, 11, 12, 13, 14, 15, 16] (by kernel_rfl) (by decide +kernel) (by decide +kernel) (by decide) trivial ?_; (repeat (first | refine execQ_E rfl ?_ | (apply execQ_S rfl; (· (simp -implicitDefEqProofs [hrow, c0, hk1, hk2, hw]; exact ⟨rfl, rfl⟩))))); intro hpo
 refine RunD.alt1 17 (by kernel_rfl) (by kernel_rfl) hpo ?_
 refine AStep.C rfl rfl rfl (wo_flg (off := 7) h1 c7) ?_
 rintro v Z ⟨rfl, h2, s2⟩
 replace hw := (s2 c hci hcm).trans hw
 refine RunD.flow [18, 19, 20, 21, 22, 23, 24] (by kernel_rfl) (by decide +kernel) (by decide +kernel) (by decide) (show PendOk _ c141d1 _ _ [] from trivial) ?_; (repeat (first | refine execQ_E rfl ?_ | (apply execQ_S rfl; (· (simp -implicitDefEqProofs [hw]; exact ⟨rfl, rfl⟩))))); intro hpo
 refine RunD.alt1 25 (by kernel_rfl) (by kernel_rfl) hpo ?_
 refine AStep.C rfl rfl rfl (op_out h2 c8) ?_
 rintro v Z2 ⟨rfl, ⟨a3, q3, h3, ha3, hfit3⟩, s3⟩
 replace hw := (s3 c hci hcm).trans hw
 cases hof : opFit M.op with
 | false =>
  refine RunD.flow [26, 27, 28, 29, 30, 31, 32, 33, 34, 35] (by kernel_rfl) (by decide +kernel) (by decide +kernel) (by decide) (show PendOk _ c141d1 _ _ [] from trivial) ?_; (repeat (first | refine execQ_E rfl ?_ | (apply execQ_S rfl; (· (simp -implicitDefEqProofs [hof]; exact ⟨rfl, rfl⟩))))); intro hpo
  refine RunD.fin (by kernel_rfl) hpo ?_
  (repeat (first | refine Run.adm rfl ?_ | refine Run.seq ?_ | ((first | apply Run.opS rfl | apply Run.condS); (· (simp -implicitDefEqProofs; first | exact ⟨rfl, rfl⟩ | exact rfl)))))
  refine Run.retS Tryz.func141 r141_ok trivial (by simp [r141]; rfl) ?_
  obtain ⟨e, g⟩ := bad (by simp [msgFit, hof]) h3 (by simp; omega)
  exact ⟨by rw [← e]; rfl, g⟩
 | true =>
 obtain ⟨rfl, rfl⟩ := hfit3 hof
 refine RunD.flow [26, 27, 28, 29, 30, 31, 32] (by kernel_rfl) (by decide +kernel) (by decide +kernel) (by decide) (show PendOk _ c141d1 _ _ [] from trivial) ?_; (repeat (first | refine execQ_E rfl ?_ | (apply execQ_S rfl; (· (simp -implicitDefEqProofs [hof, hw]; exact ⟨rfl, rfl⟩))))); intro hpo
 refine RunD.alt1 33 (by kernel_rfl) (by kernel_rfl) hpo ?_
 refine AStep.C rfl rfl rfl (head_out h3 c17 c18 c19) ?_
 rintro v Z3 ⟨rfl, h4, s4⟩
 replace hw := (s4 c hci hcm).trans hw
 refine RunD.flow [34, 35] (by kernel_rfl) (by decide +kernel) (by decide +kernel) (by decide) (show PendOk _ c141d1 _ _ [] from trivial) ?_; (repeat (first | refine execQ_E rfl ?_ | (apply execQ_S rfl; (· (simp -implicitDefEqProofs; exact ⟨rfl, rfl⟩))))); intro hpo
 refine RunD.fin (by kernel_rfl) hpo ?_
 (repeat (first | refine Run.adm rfl ?_ | refine Run.seq ?_ | ((first | apply Run.opS rfl | apply Run.condS); (· (simp -implicitDefEqProofs; first | exact ⟨rfl, rfl⟩ | exact rfl)))))
 refine Run.sl [(1, .ptr m 0), (2, .ptr c 0), (4, .bool false)] (by simp) ?_
 refine Run.qchain prog_mixed 6 (by kernel_rfl) ?_
 (repeat (first | refine execQ_E rfl ?_ | (apply execQ_S rfl; (· (simp -implicitDefEqProofs [hw]; exact ⟨rfl, rfl⟩)))))
 refine SeqR.C rfl rfl rfl (lstOPr (c := c) h4 c20 hci hcm hw (by decide)) ?_
 rintro v Z4 ⟨rfl, ⟨a5, q5, h5, ha5, hfit5⟩, s5⟩
 replace hw := (s5 c hci hcm).trans hw
 have hc := hci
 have hcx := hcm
 have st := StayX.refl (p :: c :: L) m Z4
 have h := h5
 (repeat (first | refine SeqR.E rfl ?_ | (apply SeqR.o0 rfl; (· (simp -implicitDefEqProofs; exact ⟨rfl, rfl⟩))) | (apply SeqR.A rfl; (· (simp -implicitDefEqProofs; done)); (· (simp -implicitDefEqProofs; exact ⟨rfl, rfl⟩))) | (apply SeqR.N rfl; (· (simp -implicitDefEqProofs; done)))))
 (repeat (first | refine Run.adm rfl ?_ | refine Run.seq ?_ | ((first | apply Run.opS rfl | apply Run.condS); (· (simp -implicitDefEqProofs; first | exact ⟨rfl, rfl⟩ | exact rfl)))))
 refine Run.sl [(1, .ptr m 0), (2, .ptr c 0), (4, .bool false), (7, .bool (lFit 512 fitT M.rep.ps))] (by simp) ?_
 refine Run.qchain prog_mixed 8 (by kernel_rfl) ?_
 (repeat (first | refine execQ_E rfl ?_ | (apply execQ_S rfl; (· (simp -implicitDefEqProofs [hw, wtxt_m]; exact ⟨rfl, rfl⟩)))))
 refine SeqR.C rfl rfl (by simp [wtxt_tbl]) (wo_txt (x := M.rep.upto) (off := 21) h c21) ?_
 rintro v Z ⟨rfl, h2, s2⟩
 replace hw := (s2 c hc hcx).trans hw
 replace st := st.trans s2
 replace h := h2
 clear h2 s2
 (repeat (first | refine SeqR.E rfl ?_ | (apply SeqR.o0 rfl; (· (simp -implicitDefEqProofs; exact ⟨rfl, rfl⟩))) | (apply SeqR.A rfl; (· (simp -implicitDefEqProofs; done)); (· (simp -implicitDefEqProofs; exact ⟨rfl, rfl⟩))) | (apply SeqR.N rfl; (· (simp -implicitDefEqProofs; done)))))
 (repeat (first | refine Run.adm rfl ?_ | refine Run.seq ?_ | ((first | apply Run.opS rfl | apply Run.condS); (· (simp -implicitDefEqProofs; first | exact ⟨rfl, rfl⟩ | exact rfl)))))
 refine Run.sl [(1, .ptr m 0), (2, .ptr c 0), (4, .bool false), (7, .bool (lFit 512 fitT M.rep.ps))] (by simp) ?_
 cases hfp : lFit 512 fitT M.rep.ps with
 | false =>
  refine Run.qchain prog_mixed 7 (by kernel_rfl) ?_
  (repeat (first | refine execQ_E rfl ?_ | (apply execQ_S rfl; (· (simp -implicitDefEqProofs [hfp]; exact ⟨rfl, rfl⟩)))))
  (repeat (first | refine SeqR.E rfl ?_ | (apply SeqR.o0 rfl; (· (simp -implicitDefEqProofs [hfp]; exact ⟨rfl, rfl⟩))) | (apply SeqR.A rfl; (· (simp -implicitDefEqProofs [hfp]; done)); (· (simp -implicitDefEqProofs [hfp]; exact ⟨rfl, rfl⟩))) | (apply SeqR.N rfl; (· (simp -implicitDefEqProofs [hfp]; done)))))
  (repeat (first | refine Run.adm rfl ?_ | refine Run.seq ?_ | ((first | apply Run.opS rfl | apply Run.condS); (· (simp -implicitDefEqProofs; first | exact ⟨rfl, rfl⟩ | exact rfl)))))
  refine Run.qchain prog_mixed 7 (by kernel_rfl) ?_
  (repeat (first | refine execQ_E rfl ?_ | (apply execQ_S rfl; (· (simp -implicitDefEqProofs; exact ⟨rfl, rfl⟩)))))
  (repeat (first | refine SeqR.E rfl ?_ | (apply SeqR.o0 rfl; (· (simp -implicitDefEqProofs; exact ⟨rfl, rfl⟩))) | (apply SeqR.A rfl; (· (simp -implicitDefEqProofs; done)); (· (simp -implicitDefEqProofs; exact ⟨rfl, rfl⟩))) | (apply SeqR.N rfl; (· (simp -implicitDefEqProofs; done)))))
  (repeat (first | refine Run.adm rfl ?_ | refine Run.seq ?_ | ((first | apply Run.opS rfl | apply Run.condS); (· (simp -implicitDefEqProofs; first | exact ⟨rfl, rfl⟩ | exact rfl)))))
  refine Run.qchain prog_mixed 7 (by kernel_rfl) ?_
  (repeat (first | refine execQ_E rfl ?_ | (apply execQ_S rfl; (· (simp -implicitDefEqProofs; exact ⟨rfl, rfl⟩)))))
  (repeat (first | refine SeqR.E rfl ?_ | (apply SeqR.o0 rfl; (· (simp -implicitDefEqProofs; exact ⟨rfl, rfl⟩))) | (apply SeqR.A rfl; (· (simp -implicitDefEqProofs; done)); (· (simp -implicitDefEqProofs; exact ⟨rfl, rfl⟩))) | (apply SeqR.N rfl; (· (simp -implicitDefEqProofs; done)))))
  (repeat (first | refine Run.adm rfl ?_ | refine Run.seq ?_ | ((first | apply Run.opS rfl | apply Run.condS); (· (simp -implicitDefEqProofs; first | exact ⟨rfl, rfl⟩ | exact rfl)))))
  refine Run.retS Tryz.func141 r141_ok trivial (by simp [r141]; rfl) ?_
  obtain ⟨e, g⟩ := bad (by simp [msgFit, hfp]) h (by simp; omega)
  exact ⟨by rw [← e]; rfl, g⟩
 | true =>
 obtain ⟨rfl, rfl⟩ := hfit5 hfp
 refine Run.qchain prog_mixed 7 (by kernel_rfl) ?_
 (repeat (first | refine execQ_E rfl ?_ | (apply execQ_S rfl; (· (simp -implicitDefEqProofs [hfp, hw]; exact ⟨rfl, rfl⟩)))))
 refine SeqR.C rfl rfl rfl (lstOSh (c := c) h c22 hci hcm hw (by decide)) ?_
 rintro v Z6 ⟨rfl, ⟨a7, q7, h7, ha7, hfit7⟩, s7⟩
 replace hw := (s7 c hci hcm).trans hw
 (repeat (first | refine SeqR.E rfl ?_ | (apply SeqR.o0 rfl; (· (simp -implicitDefEqProofs; exact ⟨rfl, rfl⟩))) | (apply SeqR.A rfl; (· (simp -implicitDefEqProofs; done)); (· (simp -implicitDefEqProofs; exact ⟨rfl, rfl⟩))) | (apply SeqR.N rfl; (· (simp -implicitDefEqProofs; done)))))
 (repeat (first | refine Run.adm rfl ?_ | refine Run.seq ?_ | ((first | apply Run.opS rfl | apply Run.condS); (· (simp -implicitDefEqProofs; first | exact ⟨rfl, rfl⟩ | exact rfl)))))
 refine Run.sl [(1, .ptr m 0), (2, .ptr c 0), (4, .bool false), (7, .bool (lFit 64 fitT M.map))] (by simp) ?_
 cases hfm : lFit 64 fitT M.map with
 | false =>
  refine Run.qchain prog_mixed 7 (by kernel_rfl) ?_
  (repeat (first | refine execQ_E rfl ?_ | (apply execQ_S rfl; (· (simp -implicitDefEqProofs [hfm]; exact ⟨rfl, rfl⟩)))))
  (repeat (first | refine SeqR.E rfl ?_ | (apply SeqR.o0 rfl; (· (simp -implicitDefEqProofs [hfm]; exact ⟨rfl, rfl⟩))) | (apply SeqR.A rfl; (· (simp -implicitDefEqProofs [hfm]; done)); (· (simp -implicitDefEqProofs [hfm]; exact ⟨rfl, rfl⟩))) | (apply SeqR.N rfl; (· (simp -implicitDefEqProofs [hfm]; done)))))
  (repeat (first | refine Run.adm rfl ?_ | refine Run.seq ?_ | ((first | apply Run.opS rfl | apply Run.condS); (· (simp -implicitDefEqProofs; first | exact ⟨rfl, rfl⟩ | exact rfl)))))
  refine Run.qchain prog_mixed 7 (by kernel_rfl) ?_
  (repeat (first | refine execQ_E rfl ?_ | (apply execQ_S rfl; (· (simp -implicitDefEqProofs; exact ⟨rfl, rfl⟩)))))
  (repeat (first | refine SeqR.E rfl ?_ | (apply SeqR.o0 rfl; (· (simp -implicitDefEqProofs; exact ⟨rfl, rfl⟩))) | (apply SeqR.A rfl; (· (simp -implicitDefEqProofs; done)); (· (simp -implicitDefEqProofs; exact ⟨rfl, rfl⟩))) | (apply SeqR.N rfl; (· (simp -implicitDefEqProofs; done)))))
  (repeat (first | refine Run.adm rfl ?_ | refine Run.seq ?_ | ((first | apply Run.opS rfl | apply Run.condS); (· (simp -implicitDefEqProofs; first | exact ⟨rfl, rfl⟩ | exact rfl)))))
  refine Run.retS Tryz.func141 r141_ok trivial (by simp [r141]; rfl) ?_
  obtain ⟨e, g⟩ := bad (by simp [msgFit, hfm]) h7 (by simp; omega)
  exact ⟨by rw [← e]; rfl, g⟩
 | true =>
 obtain ⟨rfl, rfl⟩ := hfit7 hfm
 refine Run.qchain prog_mixed 7 (by kernel_rfl) ?_
 (repeat (first | refine execQ_E rfl ?_ | (apply execQ_S rfl; (· (simp -implicitDefEqProofs [hfm, hw]; exact ⟨rfl, rfl⟩)))))
 refine SeqR.C rfl rfl rfl (lstOET (c := c) h7 c23 hci hcm hw (by decide)) ?_
 rintro v Z7 ⟨rfl, ⟨a8, q8, h8, ha8, hfit8⟩, s8⟩
 replace hw := (s8 c hci hcm).trans hw
 (repeat (first | refine SeqR.E rfl ?_ | (apply SeqR.o0 rfl; (· (simp -implicitDefEqProofs; exact ⟨rfl, rfl⟩))) | (apply SeqR.A rfl; (· (simp -implicitDefEqProofs; done)); (· (simp -implicitDefEqProofs; exact ⟨rfl, rfl⟩))) | (apply SeqR.N rfl; (· (simp -implicitDefEqProofs; done)))))
 (repeat (first | refine Run.adm rfl ?_ | refine Run.seq ?_ | ((first | apply Run.opS rfl | apply Run.condS); (· (simp -implicitDefEqProofs; first | exact ⟨rfl, rfl⟩ | exact rfl)))))
 refine Run.sl [(1, .ptr m 0), (2, .ptr c 0), (4, .bool false), (7, .bool (lFit 512 fitT M.ents))] (by simp) ?_
 cases hfe : lFit 512 fitT M.ents with
 | false =>
  refine Run.qchain prog_mixed 7 (by kernel_rfl) ?_
  (repeat (first | refine execQ_E rfl ?_ | (apply execQ_S rfl; (· (simp -implicitDefEqProofs [hfe]; exact ⟨rfl, rfl⟩)))))
  (repeat (first | refine SeqR.E rfl ?_ | (apply SeqR.o0 rfl; (· (simp -implicitDefEqProofs [hfe]; exact ⟨rfl, rfl⟩))) | (apply SeqR.A rfl; (· (simp -implicitDefEqProofs [hfe]; done)); (· (simp -implicitDefEqProofs [hfe]; exact ⟨rfl, rfl⟩))) | (apply SeqR.N rfl; (· (simp -implicitDefEqProofs [hfe]; done)))))
  (repeat (first | refine Run.adm rfl ?_ | refine Run.seq ?_ | ((first | apply Run.opS rfl | apply Run.condS); (· (simp -implicitDefEqProofs; first | exact ⟨rfl, rfl⟩ | exact rfl)))))
  refine Run.retS Tryz.func141 r141_ok trivial (by simp [r141]; rfl) ?_
  obtain ⟨e, g⟩ := bad (by simp [msgFit, hfe]) h8 (by simp)
  exact ⟨by rw [← e]; rfl, g⟩
 | true =>
 obtain ⟨rfl, rfl⟩ := hfit8 hfe
 refine Run.qchain prog_mixed 7 (by kernel_rfl) ?_
 (repeat (first | refine execQ_E rfl ?_ | (apply execQ_S rfl; (· (simp -implicitDefEqProofs [hfe, hw]; exact ⟨rfl, rfl⟩)))))
 refine SeqR.C rfl rfl rfl (lstOSn (c := c) h8 c24 hci hcm hw (by decide)) ?_
 rintro v Z8 ⟨rfl, ⟨a9, q9, h9, ha9, hfit9⟩, s9⟩
 (repeat (first | refine SeqR.E rfl ?_ | (apply SeqR.o0 rfl; (· (simp -implicitDefEqProofs; exact ⟨rfl, rfl⟩))) | (apply SeqR.A rfl; (· (simp -implicitDefEqProofs; done)); (· (simp -implicitDefEqProofs; exact ⟨rfl, rfl⟩))) | (apply SeqR.N rfl; (· (simp -implicitDefEqProofs; done)))))
 (repeat (first | refine Run.adm rfl ?_ | refine Run.seq ?_ | ((first | apply Run.opS rfl | apply Run.condS); (· (simp -implicitDefEqProofs; first | exact ⟨rfl, rfl⟩ | exact rfl)))))
 refine Run.retS Tryz.func141 r141_ok trivial (by simp [r141]; rfl) ?_
 have hfs : msgFit M = lFit 8 snFit M.seen := by simp only [msgFit, hk, hof, hfp, hfm, hfe, Bool.true_and, Bool.and_true]
 refine ⟨by simp [hfs], _, _, end1 h9 hcm hpm (Nat.le_refl _), fun e => ?_⟩
 rw [hfs] at e
 obtain ⟨rfl, rfl⟩ := hfit9 e
 exact ⟨by simp [msgB, tailB], by simp [msgOk, Bool.and_assoc]⟩
attribute [local simp ↓] upd_app tl_cons tl_nil
theorem encMsg_ones (M : MsgM) : V.ones (encMsg M) = true := rfl
theorem encMsg_len (M : MsgM) : (encMsg M).length = 25 := rfl
theorem encMsg_ren (ρ) (M : MsgM) : V.renL ρ (encMsg M) = encMsg M := rfl
attribute [local simp] encMsg_ren
def msgV (M : MsgM) : Bool := msgFit M && msgOk M
theorem write_tri (M : MsgM) (hl : (msgB M).length ≤ 70368740000000) : Tri Tryz.prog 111 [.agg (encMsg M)] [] (fun v H => (∃ s, v = .tup [.str s, .bool (msgV M)] ∧ (msgFit M = true → s = msgB M)) ∧ H = []) := by
 have h0 : WS true [0] 1 0 [] (msgB M ++ []) true (encMsg M) [.row (encMsg M), .row [.nilp, .nils, .bool true], .ty 1 232 (some 3)] :=
  ⟨⟨[1, 2], by simp only [if_true]; exact ⟨.nilp, .nils, 2, [], rfl, .inl rfl, rfl, rfl, .inl ⟨rfl, rfl, rfl⟩, by simp, by decide⟩, by simp⟩, by simp, rfl, by simpa using hl⟩
 refine Tri.of_run' Tryz.func111 rfl c111_ok (by simp [Tryz.ntmps111]) ?_
 (repeat (first | refine Run.adm rfl ?_ | refine Run.seq ?_ | ((first | apply Run.opS rfl | apply Run.condS); (· (simp -implicitDefEqProofs [encMsg_ones, encMsg_len]; first | exact ⟨rfl, rfl⟩ | exact rfl)))))
 refine Run.opC rfl rfl rfl (parts_out h0) ?_
 rintro v Z ⟨rfl, a', q, h, hfit⟩
 have hla := h.len
 obtain ⟨F, hF, -⟩ := h.way
 simp only [if_true, io] at hF
 have hstr := stringO_tri hF (by omega)
 obtain ⟨A, bv, g, F', -, -, k1, -⟩ := hF
 (repeat (first | refine Run.adm rfl ?_ | refine Run.seq ?_ | ((first | apply Run.opS rfl | apply Run.condS); (· (simp -implicitDefEqProofs; first | exact ⟨rfl, rfl⟩ | exact rfl)))))
 refine Run.drawn prog_mixed ?_
 show RunD _ c111d0 [0, 1, 2, 3, 4, 5, 6, 7, 8, 9, 10, 11, 12] [] _ _ _
 refine RunD.flow [0, 1, 2, 4] (by kernel_rfl) (by decide +kernel) (by decide +kernel) (by decide) trivial ?_; (repeat (first | refine execQ_E rfl ?_ | (apply execQ_S rfl; (· (simp -implicitDefEqProofs; exact ⟨rfl, rfl⟩))))); intro hpo
 refine RunD.alt1 3 (by kernel_rfl) (by kernel_rfl) hpo ?_
 refine AStep.C rfl rfl rfl hstr ?_
 rintro v W ⟨rfl, hW⟩
 rw [k1] at hW
 have hq : (msgFit M && q) = msgV M := by
  cases hf : msgFit M with
  | false => simp [msgV, hf]
  | true => rw [(hfit hf).2]; simp [msgV, hf]
 cases hf : msgFit M
 all_goals
  refine RunD.flow [5, 6, 7, 8, 9, 10, 11, 12] (by kernel_rfl) (by decide +kernel) (by decide +kernel) (by decide) (by
   show PendOk _ c111d0 _ _ [4]
   (repeat (first | exact PendOk.nil | (refine PendOk.S rfl rfl ?_ ?_; (· (simp -implicitDefEqProofs; done)))))) ?_; (repeat (first | refine execQ_E rfl ?_ | (apply execQ_S rfl; (· (simp -implicitDefEqProofs [hW, hf]; exact ⟨rfl, rfl⟩))))); intro hpo
  refine RunD.fin (by kernel_rfl) hpo ?_
  (repeat (first | refine Run.adm rfl ?_ | refine Run.seq ?_ | ((first | apply Run.opS rfl | apply Run.condS); (· (simp -implicitDefEqProofs; first | exact ⟨rfl, rfl⟩ | exact rfl)))))
  refine Run.ret Tryz.func111 r111_ok trivial (by simp [r111]; rfl) (fun _ => none) (v' := .tup [.str a', .bool (msgV M)]) (h' := []) (namesN _) ?_ ?_ trivial
  ·rw [← hq, hf]; simp
  ·exact ⟨⟨a', rfl, fun e => by first | exact absurd e (by decide) | (rw [(hfit hf).1]; simp)⟩, rfl⟩
theorem Tri.atQ {P : Program} {f : FuncId} {xs : List V} {Q : V → List O → Prop} (h : Tri P f xs [] Q) (ha : V.pures xs = true) (hQ : ∀ v H, Q v H → v.pure = true ∧ H = []) (H : List O) : Tri P f xs H (fun v H' => Q v [] ∧ H' = H) := by
 refine (h.held [] (V.renL_pure _ xs ha).symm List.nodup_nil rfl (by trivial)).mono ?_
 rintro v H' ⟨v0, Hs', hq, rfl, rfl⟩
 obtain ⟨g1, rfl⟩ := hQ _ _ hq
 rw [V.ren_pure _ _ g1]
 exact ⟨hq, by simp [back]⟩
theorem write_at (M : MsgM) (hl : (msgB M).length ≤ 70368740000000) (H : List O) : Tri Tryz.prog 111 [.agg (encMsg M)] H (fun v H' => (∃ s, v = .tup [.str s, .bool (msgV M)] ∧ (msgFit M = true → s = msgB M)) ∧ H' = H) :=
 (Tri.atQ (write_tri M hl) rfl (by rintro v H ⟨⟨s, rfl, -⟩, rfl⟩; exact ⟨rfl, rfl⟩) H).mono fun v H' ⟨⟨g1, _⟩, g2⟩ => ⟨g1, g2⟩
theorem pcheck_at (M : MsgM) (hl : (msgB M).length ≤ 70368740000000) (H : List O) : Tri Tryz.prog 62 [.agg (encMsg M)] H (fun v H' => v = .int .i64 (if msgV M = true then 0 else 1) ∧ H' = H) := by
 refine Tri.at (v0 := .int .i64 (if msgV M = true then 0 else 1)) ?_ rfl rfl H
 refine Tri.of_run' Tryz.func62 rfl c62_ok (by simp [Tryz.ntmps62]) ?_
 (repeat (first | refine Run.adm rfl ?_ | refine Run.seq ?_ | ((first | apply Run.opS rfl | apply Run.condS); (· (simp -implicitDefEqProofs [encMsg_ones, encMsg_len]; first | exact ⟨rfl, rfl⟩ | exact rfl)))))
 refine Run.opC rfl rfl (by simp [List.take_of_length_le (Nat.le_of_eq (encMsg_len M))]) (write_at M hl _) ?_
 rintro v H' ⟨⟨s, rfl, -⟩, rfl⟩
 cases hv : msgV M
 all_goals
  (repeat (first | refine Run.adm rfl ?_ | refine Run.seq ?_ | ((first | apply Run.opS rfl | apply Run.condS); (· (simp -implicitDefEqProofs [hv]; first | exact ⟨rfl, rfl⟩ | exact rfl)))))
  refine Run.mv [] [(2, .int .i64 (if msgV M = true then 0 else 1))] [] (by rfl) (by decide) (by simp -implicitDefEqProofs [hv]) (by simp -implicitDefEqProofs [hv]) ?_
  refine Run.retI Tryz.func62 r62_ok trivial (by simp -implicitDefEqProofs [r62, hv]; rfl) (by simp [hv]) ?_ (by simp -implicitDefEqProofs [hv]) (by simp -implicitDefEqProofs [hv])
  simp [hv]
def putM (M : MsgM) : Bs × Int := if msgV M = true ∧ (msgB M).length + 4 ≤ 262144 then (sealB (msgB M), 0) else ([], 1)
theorem pput_at (M : MsgM) (hl : (msgB M).length ≤ 70368740000000) (H : List O) : Tri Tryz.prog 59 [.agg (encMsg M)] H (fun v H' => v = .tup [.str (putM M).1, .int .i64 (putM M).2] ∧ H' = H) := by
 refine Tri.at (v0 := .tup [.str (putM M).1, .int .i64 (putM M).2]) ?_ rfl rfl H
 refine Tri.of_run' Tryz.func59 rfl c59_ok (by simp [Tryz.ntmps59]) ?_
 (repeat (first | refine Run.adm rfl ?_ | refine Run.seq ?_ | ((first | apply Run.opS rfl | apply Run.condS); (· (simp -implicitDefEqProofs [encMsg_ones, encMsg_len]; first | exact ⟨rfl, rfl⟩ | exact rfl)))))
 refine Run.opC rfl rfl (by simp [List.take_of_length_le (Nat.le_of_eq (encMsg_len M))]) (write_at M hl _) ?_
 rintro v H' ⟨⟨s, rfl, hs⟩, rfl⟩
 cases hv : msgV M
 ·(repeat (first | refine Run.adm rfl ?_ | refine Run.seq ?_ | ((first | apply Run.opS rfl | apply Run.condS); (· (simp -implicitDefEqProofs [hv]; first | exact ⟨rfl, rfl⟩ | exact rfl)))))
  refine Run.mv [] [(2, .str []), (3, .int .i64 1)] [] (by rfl) (by decide) (by simp -implicitDefEqProofs) (by simp -implicitDefEqProofs) ?_
  refine Run.retI Tryz.func59 r59_ok trivial (by simp -implicitDefEqProofs [r59]; rfl) (by simp ) ?_ (by simp -implicitDefEqProofs ) (by simp -implicitDefEqProofs )
  simp [putM, hv]
 ·have hf : msgFit M = true := by simp only [msgV, Bool.and_eq_true] at hv; exact hv.1
  obtain rfl := hs hf
  have hw := wrap_small (n := ((msgB M).length : Int) + 4) (by omega) (by omega)
  by_cases h4 : (msgB M).length + 4 ≤ 262144
  ·have h4' : ¬ 262144 < ((msgB M).length : Int) + 4 := by omega
   (repeat (first | refine Run.adm rfl ?_ | refine Run.seq ?_ | ((first | apply Run.opS rfl | apply Run.condS); (· (simp -implicitDefEqProofs [hv, hw, h4']; first | exact ⟨rfl, rfl⟩ | exact rfl)))))
   refine Run.opC rfl rfl rfl (seal_at (msgB M) (by omega) _) ?_
   rintro v H2 ⟨rfl, rfl⟩
   (repeat (first | refine Run.adm rfl ?_ | refine Run.seq ?_ | ((first | apply Run.opS rfl | apply Run.condS); (· (simp -implicitDefEqProofs; first | exact ⟨rfl, rfl⟩ | exact rfl)))))
   refine Run.mv [] [(2, .str (sealB (msgB M))), (3, .int .i64 0)] [] (by rfl) (by decide) (by simp -implicitDefEqProofs) (by simp -implicitDefEqProofs) ?_
   refine Run.retI Tryz.func59 r59_ok trivial (by simp -implicitDefEqProofs [r59]; rfl) (by simp ) ?_ (by simp -implicitDefEqProofs ) (by simp -implicitDefEqProofs )
   simp [putM, hv, h4]
  ·have h4' : 262144 < ((msgB M).length : Int) + 4 := by omega
   (repeat (first | refine Run.adm rfl ?_ | refine Run.seq ?_ | ((first | apply Run.opS rfl | apply Run.condS); (· (simp -implicitDefEqProofs [hv, hw, h4']; first | exact ⟨rfl, rfl⟩ | exact rfl)))))
   refine Run.mv [] [(2, .str []), (3, .int .i64 1)] [] (by rfl) (by decide) (by simp -implicitDefEqProofs) (by simp -implicitDefEqProofs) ?_
   refine Run.retI Tryz.func59 r59_ok trivial (by simp -implicitDefEqProofs [r59]; rfl) (by simp ) ?_ (by simp -implicitDefEqProofs ) (by simp -implicitDefEqProofs )
   simp [putM, hv, h4]
attribute [local simp ↓] upd_app tl_cons tl_nil
def allB (r n : Nat) : List Nat := (List.range n).filter fun i => i != r
theorem mem_allB {r n i : Nat} : i ∈ allB r n ↔ i < n ∧ i ≠ r := by simp [allB]
theorem WS.all {L : List Nat} {r m : Nat} {a t : Bs} {ok : Bool} {cs : List V} {Y : List O} (h : WS false L r m a t ok cs Y) : WS false (allB r Y.length) r m a t ok cs Y := by
 obtain ⟨⟨F, h1, h2⟩, hm, hr, hl⟩ := h
 simp only [if_neg Bool.false_ne_true] at h1
 obtain ⟨rfl, h1⟩ := h1
 have hmr : m ≠ r := fun e => (h2 m hm).1 (by simp [e])
 exact ⟨⟨[r], by simp only [if_neg Bool.false_ne_true]; exact ⟨rfl, h1⟩, fun i hi => by obtain ⟨g1, g2⟩ := mem_allB.1 hi; exact ⟨by simpa using g2, g1⟩⟩, mem_allB.2 ⟨lt_of_get hr, hmr⟩, hr, hl⟩
theorem WS.ne {L : List Nat} {r m : Nat} {a t : Bs} {ok : Bool} {cs : List V} {Y : List O} (h : WS false L r m a t ok cs Y) : ∀ i ∈ L, i ≠ r := fun i hi e => by
 obtain ⟨⟨F, h1, h2⟩, -⟩ := h
 simp only [if_neg Bool.false_ne_true] at h1
 obtain ⟨rfl, h1⟩ := h1
 exact (h2 i hi).1 (by simp [e])
theorem WS.rI {L : List Nat} {r m : Nat} {a t : Bs} {ok : Bool} {cs : List V} {Y : List O} (h : WS false L r m a t ok cs Y) : Y[r]? = some (.row [.str t, .bool true]) := by
 obtain ⟨⟨F, h1, -⟩, -⟩ := h
 simp only [if_neg Bool.false_ne_true] at h1
 exact h1.2
theorem WS.mkI {L : List Nat} {r m : Nat} {a t : Bs} {ok : Bool} {cs : List V} {Y : List O} (hr : Y[r]? = some (.row [.str t, .bool true])) (hL : ∀ i ∈ L, i ≠ r ∧ i < Y.length) (hm : m ∈ L) (hw : Y[m]? = some (.row cs)) (hl : a.length + t.length ≤ 70368740000000) : WS false L r m a t ok cs Y :=
 ⟨⟨[r], by simp only [if_neg Bool.false_ne_true]; exact ⟨rfl, hr⟩, fun i hi => ⟨by simpa using (hL i hi).1, (hL i hi).2⟩⟩, hm, hw, hl⟩
theorem lstNPr {L : List Nat} {r m c off : Nat} {a t : Bs} {ok : Bool} {cs : List V} {Y : List O} {most : Int} (h : WS false L r m a (nB 0 ++ t) ok cs Y) (hc : cs[off]? = some .nils) (hm : 0 ≤ most) :
  Tri Tryz.prog 174 [.ifc (WTy false) r, .ptr m off, .int .i64 most, .fn 175 [.ptr c 0]] Y (fun v Z => v = .bool true ∧ (∃ q, WS false L r m (a ++ nB 0) t q cs Z) ∧ StayX L m Y Z) := by
 have hlt := h.lt m h.mem
 have hY := h.row
 have h1 := h.more [.int .i64 0]
 have htri := ws_num (n := 0) (off := 0) h1 rfl (fun e => by cases e) (fun _ => rfl)
 have hYm : ∀ o, (Y ++ [o])[m]? = some (.row cs) := fun o => getA hY _
 refine Tri.of_run' Tryz.func174 rfl c174_ok (by simp [Tryz.ntmps174]) ?_
 (repeat (first | refine Run.adm rfl ?_ | refine Run.seq ?_ | ((first | apply Run.opS rfl | apply Run.condS); (· (simp -implicitDefEqProofs [hY, hYm, hc]; first | exact ⟨rfl, rfl⟩ | exact rfl)))))
 refine Run.opC rfl rfl (by simp [wnum_tbl]) htri ?_
 rintro v' Z ⟨rfl, h2, st⟩
 have g0 : ∀ i ∈ L, Z[i]? = Y[i]? := fun i hi => by
  have := h.lt i hi
  rw [st i (by simp [hi]) (by omega), List.getElem?_append_left this]
 have z1 : Z[Y.length]? = some (.row [.int .i64 0]) := h2.row
 have hm' : ¬ most < 0 := by omega
 (repeat (first | refine Run.adm rfl ?_ | refine Run.seq ?_ | ((first | apply Run.opS rfl | apply Run.condS); (· (simp -implicitDefEqProofs [z1, hm']; first | exact ⟨rfl, rfl⟩ | exact rfl)))))
 refine Run.sl [(8, .bool false), (21, .int .i64 0), (22, .int .i64 0)] (by simp) ?_
 refine Run.loopS (α := Unit) (fun _ => ([(8, .bool false), (21, .int .i64 0), (22, .int .i64 0)], Z)) (fun _ => True) (fun _ => 0) ?_ () trivial
 intro x _ ih
 (repeat (first | refine Run.adm rfl ?_ | refine Run.seq ?_ | ((first | apply Run.opS rfl | apply Run.condS); (· (simp -implicitDefEqProofs; first | exact ⟨rfl, rfl⟩ | exact rfl)))))
 refine Run.retS Tryz.func174 r174_ok trivial (by simp [r174]; rfl) ?_
 exact ⟨by simp, ⟨_, h2.way.sub (fun i hi => by simp [hi]), h.mem, (g0 m h.mem).trans hY, h2.len⟩, fun i hi _ => g0 i hi⟩
theorem lstNW {L : List Nat} {r m c off : Nat} {a t : Bs} {ok : Bool} {cs : List V} {Y : List O} {most : Int} (h : WS false L r m a (nB 0 ++ t) ok cs Y) (hc : cs[off]? = some .nils) (hm : 0 ≤ most) :
  Tri Tryz.prog 207 [.ifc (WTy false) r, .ptr m off, .int .i64 most, .fn 208 [.ptr c 0]] Y (fun v Z => v = .bool true ∧ (∃ q, WS false L r m (a ++ nB 0) t q cs Z) ∧ StayX L m Y Z) := by
 have hlt := h.lt m h.mem
 have hY := h.row
 have h1 := h.more [.int .i64 0]
 have htri := ws_num (n := 0) (off := 0) h1 rfl (fun e => by cases e) (fun _ => rfl)
 have hYm : ∀ o, (Y ++ [o])[m]? = some (.row cs) := fun o => getA hY _
 refine Tri.of_run' Tryz.func207 rfl c207_ok (by simp [Tryz.ntmps207]) ?_
 (repeat (first | refine Run.adm rfl ?_ | refine Run.seq ?_ | ((first | apply Run.opS rfl | apply Run.condS); (· (simp -implicitDefEqProofs [hY, hYm, hc]; first | exact ⟨rfl, rfl⟩ | exact rfl)))))
 refine Run.opC rfl rfl (by simp [wnum_tbl]) htri ?_
 rintro v' Z ⟨rfl, h2, st⟩
 have g0 : ∀ i ∈ L, Z[i]? = Y[i]? := fun i hi => by
  have := h.lt i hi
  rw [st i (by simp [hi]) (by omega), List.getElem?_append_left this]
 have z1 : Z[Y.length]? = some (.row [.int .i64 0]) := h2.row
 have hm' : ¬ most < 0 := by omega
 (repeat (first | refine Run.adm rfl ?_ | refine Run.seq ?_ | ((first | apply Run.opS rfl | apply Run.condS); (· (simp -implicitDefEqProofs [z1, hm']; first | exact ⟨rfl, rfl⟩ | exact rfl)))))
 refine Run.sl [(8, .bool false), (21, .int .i64 0), (22, .int .i64 0)] (by simp) ?_
 refine Run.loopS (α := Unit) (fun _ => ([(8, .bool false), (21, .int .i64 0), (22, .int .i64 0)], Z)) (fun _ => True) (fun _ => 0) ?_ () trivial
 intro x _ ih
 (repeat (first | refine Run.adm rfl ?_ | refine Run.seq ?_ | ((first | apply Run.opS rfl | apply Run.condS); (· (simp -implicitDefEqProofs; first | exact ⟨rfl, rfl⟩ | exact rfl)))))
 refine Run.retS Tryz.func207 r207_ok trivial (by simp [r207]; rfl) ?_
 exact ⟨by simp, ⟨_, h2.way.sub (fun i hi => by simp [hi]), h.mem, (g0 m h.mem).trans hY, h2.len⟩, fun i hi _ => g0 i hi⟩
theorem lstNET {L : List Nat} {r m c off : Nat} {a t : Bs} {ok : Bool} {cs : List V} {Y : List O} {most : Int} (h : WS false L r m a (nB 0 ++ t) ok cs Y) (hc : cs[off]? = some .nils) (hm : 0 ≤ most) :
  Tri Tryz.prog 178 [.ifc (WTy false) r, .ptr m off, .int .i64 most, .fn 179 [.ptr c 0]] Y (fun v Z => v = .bool true ∧ (∃ q, WS false L r m (a ++ nB 0) t q cs Z) ∧ StayX L m Y Z) := by
 have hlt := h.lt m h.mem
 have hY := h.row
 have h1 := h.more [.int .i64 0]
 have htri := ws_num (n := 0) (off := 0) h1 rfl (fun e => by cases e) (fun _ => rfl)
 have hYm : ∀ o, (Y ++ [o])[m]? = some (.row cs) := fun o => getA hY _
 refine Tri.of_run' Tryz.func178 rfl c178_ok (by simp [Tryz.ntmps178]) ?_
 (repeat (first | refine Run.adm rfl ?_ | refine Run.seq ?_ | ((first | apply Run.opS rfl | apply Run.condS); (· (simp -implicitDefEqProofs [hY, hYm, hc]; first | exact ⟨rfl, rfl⟩ | exact rfl)))))
 refine Run.opC rfl rfl (by simp [wnum_tbl]) htri ?_
 rintro v' Z ⟨rfl, h2, st⟩
 have g0 : ∀ i ∈ L, Z[i]? = Y[i]? := fun i hi => by
  have := h.lt i hi
  rw [st i (by simp [hi]) (by omega), List.getElem?_append_left this]
 have z1 : Z[Y.length]? = some (.row [.int .i64 0]) := h2.row
 have hm' : ¬ most < 0 := by omega
 (repeat (first | refine Run.adm rfl ?_ | refine Run.seq ?_ | ((first | apply Run.opS rfl | apply Run.condS); (· (simp -implicitDefEqProofs [z1, hm']; first | exact ⟨rfl, rfl⟩ | exact rfl)))))
 refine Run.sl [(8, .bool false), (21, .int .i64 0), (22, .int .i64 0)] (by simp) ?_
 refine Run.loopS (α := Unit) (fun _ => ([(8, .bool false), (21, .int .i64 0), (22, .int .i64 0)], Z)) (fun _ => True) (fun _ => 0) ?_ () trivial
 intro x _ ih
 (repeat (first | refine Run.adm rfl ?_ | refine Run.seq ?_ | ((first | apply Run.opS rfl | apply Run.condS); (· (simp -implicitDefEqProofs; first | exact ⟨rfl, rfl⟩ | exact rfl)))))
 refine Run.retS Tryz.func178 r178_ok trivial (by simp [r178]; rfl) ?_
 exact ⟨by simp, ⟨_, h2.way.sub (fun i hi => by simp [hi]), h.mem, (g0 m h.mem).trans hY, h2.len⟩, fun i hi _ => g0 i hi⟩
theorem lstNSn {L : List Nat} {r m c off : Nat} {a t : Bs} {ok : Bool} {cs : List V} {Y : List O} {most : Int} (h : WS false L r m a (nB 0 ++ t) ok cs Y) (hc : cs[off]? = some .nils) (hm : 0 ≤ most) :
  Tri Tryz.prog 180 [.ifc (WTy false) r, .ptr m off, .int .i64 most, .fn 181 [.ptr c 0]] Y (fun v Z => v = .bool true ∧ (∃ q, WS false L r m (a ++ nB 0) t q cs Z) ∧ StayX L m Y Z) := by
 have hlt := h.lt m h.mem
 have hY := h.row
 have h1 := h.more [.int .i64 0]
 have htri := ws_num (n := 0) (off := 0) h1 rfl (fun e => by cases e) (fun _ => rfl)
 have hYm : ∀ o, (Y ++ [o])[m]? = some (.row cs) := fun o => getA hY _
 refine Tri.of_run' Tryz.func180 rfl c180_ok (by simp [Tryz.ntmps180]) ?_
 (repeat (first | refine Run.adm rfl ?_ | refine Run.seq ?_ | ((first | apply Run.opS rfl | apply Run.condS); (· (simp -implicitDefEqProofs [hY, hYm, hc]; first | exact ⟨rfl, rfl⟩ | exact rfl)))))
 refine Run.opC rfl rfl (by simp [wnum_tbl]) htri ?_
 rintro v' Z ⟨rfl, h2, st⟩
 have g0 : ∀ i ∈ L, Z[i]? = Y[i]? := fun i hi => by
  have := h.lt i hi
  rw [st i (by simp [hi]) (by omega), List.getElem?_append_left this]
 have z1 : Z[Y.length]? = some (.row [.int .i64 0]) := h2.row
 have hm' : ¬ most < 0 := by omega
 (repeat (first | refine Run.adm rfl ?_ | refine Run.seq ?_ | ((first | apply Run.opS rfl | apply Run.condS); (· (simp -implicitDefEqProofs [z1, hm']; first | exact ⟨rfl, rfl⟩ | exact rfl)))))
 refine Run.sl [(8, .bool false), (21, .int .i64 0), (22, .int .i64 0)] (by simp) ?_
 refine Run.loopS (α := Unit) (fun _ => ([(8, .bool false), (21, .int .i64 0), (22, .int .i64 0)], Z)) (fun _ => True) (fun _ => 0) ?_ () trivial
 intro x _ ih
 (repeat (first | refine Run.adm rfl ?_ | refine Run.seq ?_ | ((first | apply Run.opS rfl | apply Run.condS); (· (simp -implicitDefEqProofs; first | exact ⟨rfl, rfl⟩ | exact rfl)))))
 refine Run.retS Tryz.func180 r180_ok trivial (by simp [r180]; rfl) ?_
 exact ⟨by simp, ⟨_, h2.way.sub (fun i hi => by simp [hi]), h.mem, (g0 m h.mem).trans hY, h2.len⟩, fun i hi _ => g0 i hi⟩
def LvAt (U : List O) (lv : V) (es : List (List V)) (lo : Nat) : Prop := (es = [] ∧ lv = .nils) ∨ ∃ id, lo ≤ id ∧ lv = .sl id 0 es.length 6 none ∧ U[id]? = some (.arr es 6)
def shZ : ShM := ⟨0, [], [], 0, 0, 0⟩
theorem lstISh {L : List Nat} {r m c off : Nat} {a t : Bs} {ok : Bool} {cs : List V} {Y : List O} {l : List ShM} {most : Int} (h : WS false L r m a (lB shB l ++ t) ok cs Y) (hc : cs[off]? = some .nils) (hcL : c ∈ L) (hcm : c ≠ m)
  (hw : Y[c]? = some (.row [.ifc (WTy false) r])) (hm : (l.length : Int) ≤ most) (hm2 : most ≤ 1000) (hok : ∀ e ∈ l, shOk e = true) :
  Tri Tryz.prog 176 [.ifc (WTy false) r, .ptr m off, .int .i64 most, .fn 177 [.ptr c 0]] Y (fun v Z => v = .bool true ∧ ∃ lv, LvAt Z lv (l.map encSh) Y.length ∧ (∃ q, WS false L r m (a ++ lB shB l) t q (cs.set off lv) Z) ∧ StayX L m Y Z) := by
 have hlt := h.lt m h.mem
 have hY := h.row
 have hLne := h.ne
 have hLlt := h.lt
 have hlo : off + 1 ≤ cs.length := (List.getElem?_eq_some_iff.1 hc).1
 simp only [lB, List.append_assoc] at h
 have h1 := h.more [.int .i64 0]
 have htri := ws_num (n := l.length) (off := 0) h1 rfl (fun e => by cases e) (fun _ => nOk_of (by omega))
 have hYm : ∀ o, (Y ++ [o])[m]? = some (.row cs) := fun o => getA hY _
 refine Tri.of_run' Tryz.func176 rfl c176_ok (by simp [Tryz.ntmps176]) ?_
 (repeat (first | refine Run.adm rfl ?_ | refine Run.seq ?_ | ((first | apply Run.opS rfl | apply Run.condS); (· (simp -implicitDefEqProofs [hY, hYm, hc]; first | exact ⟨rfl, rfl⟩ | exact rfl)))))
 refine Run.opC rfl rfl (by simp [wnum_tbl]) htri ?_
 rintro v' Z ⟨rfl, h2, st⟩
 have g0 : ∀ i ∈ L, Z[i]? = Y[i]? := fun i hi => by
  have := h.lt i hi
  rw [st i (by simp [hi]) (by omega), List.getElem?_append_left this]
 have z1 : Z[Y.length]? = some (.row [.int .i64 l.length]) := h2.row
 have hZl : Y.length < Z.length := lt_of_get z1
 have hmost : ¬ most < (l.length : Int) := by omega
 (repeat (first | refine Run.adm rfl ?_ | refine Run.seq ?_ | ((first | apply Run.opS rfl | apply Run.condS); (· (simp -implicitDefEqProofs [z1, hmost]; first | exact ⟨rfl, rfl⟩ | exact rfl)))))
 refine Run.sl [(0, .ifc (WTy false) r), (1, .ptr m off), (3, .fn 177 [.ptr c 0]), (8, .bool false), (21, .int .i64 l.length), (22, .int .i64 (0 : Nat))] (by simp) ?_
 refine Run.loopS (fun (x : Nat × V × List O) => ([(0, .ifc (WTy false) r), (1, .ptr m off), (3, .fn 177 [.ptr c 0]), (8, .bool false), (21, .int .i64 l.length), (22, .int .i64 x.1)], x.2.2))
  (fun x => x.1 ≤ l.length ∧ (∃ q, WS false L r m (a ++ nB l.length ++ (l.take x.1).flatMap shB) ((l.drop x.1).flatMap shB ++ t) q (cs.set off x.2.1) x.2.2) ∧ StayX L m Y x.2.2 ∧ LvAt x.2.2 x.2.1 ((l.take x.1).map encSh) Y.length ∧ Y.length < x.2.2.length) (fun x => l.length - x.1) ?_ (0, .nils, Z)
  ⟨Nat.zero_le _, ⟨_, by rw [lset_same hc]; simpa using (⟨h2.way.sub (fun i hi => by simp [hi]), h.mem, (g0 m h.mem).trans hY, h2.len⟩ : WS false L r m _ _ _ _ _)⟩, fun i hi _ => g0 i hi, .inl ⟨rfl, rfl⟩, hZl⟩
 rintro ⟨i, lv, U⟩ ⟨hi, ⟨q, hU⟩, sU, hlv, hUl⟩ ih
 simp only at hi hU sU hlv hUl ih ⊢
 by_cases hlt : i < l.length
 ·obtain ⟨e, he, hei, hed, hem⟩ := getL hlt
  have hlt' : (i : Int) < l.length := by omega
  have hw1 := wrap_small (n := (i : Int) + 1) (by omega) (by omega)
  have hUm := hU.row
  have hUa : ∀ o, (U ++ [o])[m]? = some (.row (cs.set off lv)) := fun o => getA hUm _
  have hUc : U[c]? = some (.row [.ifc (WTy false) r]) := (sU c hcL hcm).trans hw
  have hcl := hU.lt c hcL
  have hmlt := hU.lt m hU.mem
  have hrow : (cs.set off lv)[off]? = some lv := List.getElem?_set_self (by omega)
  rw [flat_drop hed] at hU
  have hUall := (hU.more (encSh shZ)).all
  have htk : ((l.take i).map encSh).length = i := by rw [List.length_map, List.length_take]; omega
  have hsn : (l.take (i + 1)).map encSh = (l.take i).map encSh ++ [encSh e] := by rw [List.take_add_one, he]; simp
  have hrY : r < Y.length := lt_of_get h.rI
  have htri1 := oneShG hUall (mem_allB.2 ⟨by simp; omega, hLne c hcL⟩) (by omega) (getA hUc _) (fun e => by cases e) (fun _ => hok e hem)
  have post : ∀ W, WS false (allB r (U ++ [O.row (encSh shZ)]).length) r U.length (a ++ nB l.length ++ (l.take i).flatMap shB ++ shB e) ((l.drop (i + 1)).flatMap shB ++ t) (q && shOk e) (encSh e) W → StayX (allB r (U ++ [O.row (encSh shZ)]).length) U.length (U ++ [.row (encSh shZ)]) W →
    W[U.length]? = some (.row (encSh e)) ∧ W[r]? = some (.row [.str ((l.drop (i + 1)).flatMap shB ++ t), .bool true]) ∧ (∀ j, j < U.length → j ≠ r → W[j]? = U[j]?) ∧ U.length < W.length := fun W hW sW =>
   ⟨hW.row, hW.rI, fun j hj hn => by rw [sW j (mem_allB.2 ⟨by simp; omega, hn⟩) (by omega), List.getElem?_append_left hj], lt_of_get hW.row⟩
  have fin : ∀ (W V : List O) (id' : Nat) (hWl : U.length < W.length), W[r]? = some (.row [.str ((l.drop (i + 1)).flatMap shB ++ t), .bool true]) → (∀ j, j < U.length → j ≠ r → W[j]? = U[j]?) → V[r]? = W[r]? → (∀ j ∈ L, j ≠ m → V[j]? = W[j]?) → V[m]? = some (.row (cs.set off (.sl id' 0 (i + 1) 6 none))) →
    V[id']? = some (.arr ((l.take (i + 1)).map encSh) 6) → Y.length ≤ id' → W.length ≤ V.length →
    (∃ q, WS false L r m (a ++ nB l.length ++ (l.take (i + 1)).flatMap shB) ((l.drop (i + 1)).flatMap shB ++ t) q (cs.set off (.sl id' 0 (i + 1) 6 none)) V) ∧ StayX L m Y V ∧ LvAt V (.sl id' 0 (i + 1) 6 none) ((l.take (i + 1)).map encSh) Y.length ∧ Y.length < V.length := by
   intro W V id' hWl v1 v2 v3 v4 v5 v6 v7 v8
   refine ⟨⟨true, WS.mkI (v3.trans v1) (fun j hj => ⟨hLne j hj, by have := hLlt j hj; omega⟩) h.mem v5 ?_⟩, fun j hj hn => ?_, .inr ⟨id', v7, ?_, v6⟩, by omega⟩
   ·have := hU.len
    rw [flat_snoc he]
    simp only [List.length_append] at this ⊢; omega
   ·rw [v4 j hj hn, v2 j (by have := hLlt j hj; omega) (hLne j hj)]; exact sU j hj hn
   ·congr 1; simp; omega
  rcases hlv with ⟨e0, rfl⟩ | ⟨id, hidY, rfl, hid⟩
  ·have hsn' : (l.take (i + 1)).map encSh = [encSh e] := by rw [hsn, e0]; rfl
   have hi0 : (i : Int) = 0 := by rw [e0] at htk; simp at htk; omega
   have hi0' : i = 0 := by omega
   have hw0 : IntKind.i64.wrap 1 = 1 := by decide
   have hpos : 0 < l.length := by omega
   (repeat (first | refine Run.adm rfl ?_ | refine Run.seq ?_ | ((first | apply Run.opS rfl | apply Run.condS); (· (simp -implicitDefEqProofs [hUm, hUa, hrow, hi0, hpos]; first | exact ⟨rfl, rfl⟩ | exact rfl)))))
   refine Run.opC rfl rfl rfl htri1 ?_
   rintro v W ⟨rfl, hW, sW⟩
   obtain ⟨wx, wr, w0, hWl⟩ := post W hW sW
   have w1 : W[m]? = some (.row (cs.set off .nils)) := (w0 m hmlt (hLne m h.mem)).trans hUm
   have w1a : ∀ x, (W ++ [x])[m]? = some (.row (cs.set off .nils)) := fun x => getA w1 _
   have w1b : ∀ x y, (W ++ [x, y])[m]? = some (.row (cs.set off .nils)) := fun x y => getA w1 _
   (repeat (first | refine Run.adm rfl ?_ | refine Run.seq ?_ | ((first | apply Run.opS rfl | apply Run.condS); (· (simp -implicitDefEqProofs [w1, hrow, hi0]; first | exact ⟨rfl, rfl⟩ | exact rfl)))))
   refine Run.drawn prog_mixed ?_
   show RunD _ c176d0 [0, 1, 2, 3, 4, 5, 6, 7, 8] [] _ _ _
   refine RunD.flow [0, 1, 2, 3, 4] (by kernel_rfl) (by decide +kernel) (by decide +kernel) (by decide) trivial ?_; (repeat (first | refine execQ_E rfl ?_ | (apply execQ_S rfl; (· (simp -implicitDefEqProofs [w1, hrow, wx, encSh]; exact ⟨rfl, rfl⟩))))); intro hpo
   refine RunD.alt1 5 (by kernel_rfl) (by kernel_rfl) hpo ?_
   (apply AStep.S rfl; (· (simp -implicitDefEqProofs; exact ⟨rfl, rfl⟩)))
   refine RunD.alt1 6 (by kernel_rfl) (by kernel_rfl) (by
    show PendOk _ c176d0 _ _ [3, 2, 1, 0]
    (repeat (first | exact PendOk.nil | (refine PendOk.S rfl rfl ?_ ?_; (· (simp -implicitDefEqProofs [w1a, hrow]; done)))))) ?_
   (apply AStep.S rfl; (· (simp -implicitDefEqProofs; exact ⟨rfl, rfl⟩)))
   refine RunD.flow [7] (by kernel_rfl) (by decide +kernel) (by decide +kernel) (by decide) (show PendOk _ c176d0 _ _ [0] from by (repeat (first | exact PendOk.nil | (refine PendOk.S rfl rfl ?_ ?_; (· (simp -implicitDefEqProofs; done)))))) ?_; (repeat (first | refine execQ_E rfl ?_ | (apply execQ_S rfl; (· (simp -implicitDefEqProofs; exact ⟨rfl, rfl⟩))))); intro hpo
   refine RunD.alt1 8 (by kernel_rfl) (by kernel_rfl) hpo ?_
   (apply AStep.S rfl; (· (simp -implicitDefEqProofs [w1b, hlo, set_at hrow]; exact ⟨rfl, rfl⟩)))
   refine RunD.fin (by kernel_rfl) (show PendOk _ c176d0 _ _ [] from trivial) ?_
   (repeat (first | refine Run.adm rfl ?_ | refine Run.seq ?_ | ((first | apply Run.opS rfl | apply Run.condS); (· (simp -implicitDefEqProofs; first | exact ⟨rfl, rfl⟩ | exact rfl)))))
   have hmr : m ≠ r := hLne m h.mem
   refine run_to [(0, .ifc (WTy false) r), (1, .ptr m off), (3, .fn 177 [.ptr c 0]), (8, .bool false), (21, .int .i64 l.length), (22, .int .i64 (i + 1 : Nat))] (fun V => V[r]? = W[r]? ∧ (∀ j ∈ L, j ≠ m → V[j]? = W[j]?) ∧ V[m]? = some (.row (cs.set off (.sl (W.length + 1) 0 (i + 1) 6 none))) ∧ V[W.length + 1]? = some (.arr ((l.take (i + 1)).map encSh) 6) ∧ W.length ≤ V.length) (by simp [hw0, hi0, hi0']) ⟨by rw [setN hmr, List.getElem?_append_left (lt_of_get wr)], fun j hj hn => by rw [setN (Ne.symm hn), List.getElem?_append_left (by have := hLlt j hj; omega)],
    by rw [List.getElem?_set_self (by simp; omega)]; simp [hi0'], by rw [hsn', setN (by omega)]; simp [encSh], by simp⟩ ?_
   rintro V ⟨v1, v2, v3, v4, v5⟩
   obtain ⟨f1, f2, f3, f4⟩ := fin W V (W.length + 1) hWl wr w0 v1 v2 v3 v4 (by omega) v5
   exact ih (i + 1, _, V) ⟨by simp only; omega, f1, f2, f3, f4⟩ (by simp only; omega)
  ·have hne : ¬ (l.length : Int) ≤ i := by omega
   have hidU := lt_of_get hid
   have hmr : m ≠ r := hLne m h.mem
   have hidr : id ≠ r := by omega
   have hidm : id ≠ m := by omega
   generalize hes : (l.take i).map encSh = es at *
   rw [htk] at hU hUm hrow hUa
   (repeat (first | refine Run.adm rfl ?_ | refine Run.seq ?_ | ((first | apply Run.opS rfl | apply Run.condS); (· (simp -implicitDefEqProofs [hUm, hUa, hrow, hlt, hlt']; first | exact ⟨rfl, rfl⟩ | exact rfl)))))
   refine Run.opC rfl rfl rfl htri1 ?_
   rintro v W ⟨rfl, hW, sW⟩
   obtain ⟨wx, wr, w0, hWl⟩ := post W hW sW
   have w1 : W[m]? = some (.row (cs.set off (.sl id 0 i 6 none))) := (w0 m hmlt hmr).trans hUm
   have w1a : ∀ x, (W ++ [x])[m]? = some (.row (cs.set off (.sl id 0 i 6 none))) := fun x => getA w1 _
   have wid : W[id]? = some (.arr es 6) := (w0 id hidU hidr).trans hid
   have wid1 : ∀ x, (W ++ [x])[id]? = some (.arr es 6) := fun x => getA wid _
   have hids : ∀ (x y : O), (W ++ [x]).set id y = W.set id y ++ [x] := fun x y => by rw [List.set_append_left _ _ (by omega)]
   have w1b : ∀ x y, (W.set id .gone ++ [x, y])[m]? = some (.row (cs.set off (.sl id 0 i 6 none))) := fun x y => getA (by rw [setN hidm]; exact w1) _
   have hbb : (i + 1) * 64 ≤ 70368744177664 := by omega
   (repeat (first | refine Run.adm rfl ?_ | refine Run.seq ?_ | ((first | apply Run.opS rfl | apply Run.condS); (· (simp -implicitDefEqProofs [w1, hrow]; first | exact ⟨rfl, rfl⟩ | exact rfl)))))
   refine Run.drawn prog_mixed ?_
   show RunD _ c176d0 [0, 1, 2, 3, 4, 5, 6, 7, 8] [] _ _ _
   refine RunD.flow [0, 1, 2, 3, 4] (by kernel_rfl) (by decide +kernel) (by decide +kernel) (by decide) trivial ?_; (repeat (first | refine execQ_E rfl ?_ | (apply execQ_S rfl; (· (simp -implicitDefEqProofs [w1, hrow, wx, encSh]; exact ⟨rfl, rfl⟩))))); intro hpo
   refine RunD.alt1 5 (by kernel_rfl) (by kernel_rfl) hpo ?_
   (apply AStep.S rfl; (· (simp -implicitDefEqProofs; exact ⟨rfl, rfl⟩)))
   refine RunD.alt1 6 (by kernel_rfl) (by kernel_rfl) (by
    show PendOk _ c176d0 _ _ [3, 2, 1, 0]
    (repeat (first | exact PendOk.nil | (refine PendOk.S rfl rfl ?_ ?_; (· (simp -implicitDefEqProofs [w1a, hrow]; done)))))) ?_
   (apply AStep.S rfl; (· (simp -implicitDefEqProofs [wid1, htk, hbb, hids]; exact ⟨rfl, rfl⟩)))
   refine RunD.flow [7] (by kernel_rfl) (by decide +kernel) (by decide +kernel) (by decide) (show PendOk _ c176d0 _ _ [0] from by (repeat (first | exact PendOk.nil | (refine PendOk.S rfl rfl ?_ ?_; (· (simp -implicitDefEqProofs; done)))))) ?_; (repeat (first | refine execQ_E rfl ?_ | (apply execQ_S rfl; (· (simp -implicitDefEqProofs; exact ⟨rfl, rfl⟩))))); intro hpo
   refine RunD.alt1 8 (by kernel_rfl) (by kernel_rfl) hpo ?_
   (apply AStep.S rfl; (· (simp -implicitDefEqProofs [w1b, hlo, set_at hrow]; exact ⟨rfl, rfl⟩)))
   refine RunD.fin (by kernel_rfl) (show PendOk _ c176d0 _ _ [] from trivial) ?_
   (repeat (first | refine Run.adm rfl ?_ | refine Run.seq ?_ | ((first | apply Run.opS rfl | apply Run.condS); (· (simp -implicitDefEqProofs; first | exact ⟨rfl, rfl⟩ | exact rfl)))))
   refine run_to [(0, .ifc (WTy false) r), (1, .ptr m off), (3, .fn 177 [.ptr c 0]), (8, .bool false), (21, .int .i64 l.length), (22, .int .i64 (i + 1 : Nat))] (fun V => V[r]? = W[r]? ∧ (∀ j ∈ L, j ≠ m → V[j]? = W[j]?) ∧ V[m]? = some (.row (cs.set off (.sl (W.length + 1) 0 (i + 1) 6 none))) ∧ V[W.length + 1]? = some (.arr ((l.take (i + 1)).map encSh) 6) ∧ W.length ≤ V.length) (by simp [hw1]) ⟨by rw [setN hmr, List.getElem?_append_left (by simpa using lt_of_get wr), setN hidr], fun j hj hn => ?_,
    by rw [List.getElem?_set_self (by simp; omega)], by rw [hsn, setN (by omega)]; simp [encSh], by simp⟩ ?_
   ·have := hLlt j hj
    rw [setN (Ne.symm hn), List.getElem?_append_left (by rw [List.length_set]; omega), setN (by omega)]
   rintro V ⟨v1, v2, v3, v4, v5⟩
   obtain ⟨f1, f2, f3, f4⟩ := fin W V (W.length + 1) hWl wr w0 v1 v2 v3 v4 (by omega) v5
   exact ih (i + 1, _, V) ⟨by simp only; omega, f1, f2, f3, f4⟩ (by simp only; omega)
 ·have : i = l.length := by omega
  subst this
  rw [List.take_length] at hU hlv
  (repeat (first | refine Run.adm rfl ?_ | refine Run.seq ?_ | ((first | apply Run.opS rfl | apply Run.condS); (· (simp -implicitDefEqProofs; first | exact ⟨rfl, rfl⟩ | exact rfl)))))
  refine Run.retS Tryz.func176 r176_ok trivial (by simp [r176]; rfl) ?_
  exact ⟨by simp, lv, hlv, ⟨q, by simpa [lB] using hU⟩, sU⟩
attribute [local simp ↓] upd_app tl_cons tl_nil
theorem op_in {L : List Nat} {r m : Nat} {a t : Bs} {ok : Bool} {p0 p1 p2 p3 p4 p5 p6 p7 : V} {post : List V} {Y : List O} {o : OpM}
  (h : WS false L r m a (opB o ++ t) ok (p0 :: p1 :: p2 :: p3 :: p4 :: p5 :: p6 :: p7 :: .int .i64 0 :: .str [] :: .str [] :: .str [] :: .bool false :: .nils :: .str [] :: .str [] :: .int .i64 0 :: post) Y) (hok : opOk o = true) (hws : o.ws = []) :
  Tri Tryz.prog 172 [.ifc (WTy false) r, .ptr m 8] Y (fun v Z => v = .bool true ∧ (∃ q, WS false L r m (a ++ opB o) t q (p0 :: p1 :: p2 :: p3 :: p4 :: p5 :: p6 :: p7 :: .int .i64 o.kind :: .str o.key :: .str o.val :: .str o.old :: .bool o.has :: .nils :: .str o.lo :: .str o.hi :: .int .i64 o.lim :: post) Z) ∧ StayX L m Y Z) := by
 simp only [opOk, Bool.and_eq_true] at hok
 obtain ⟨⟨⟨⟨⟨⟨⟨i0, i1⟩, i2⟩, i3⟩, -⟩, i6⟩, i7⟩, i8⟩ := hok
 simp only [opB, hws, lB, List.append_assoc, List.flatMap_nil, List.nil_append, List.length_nil] at h
 have hm := h.lt m h.mem
 have hL := h.lt
 have s0 : StayX L m Y (Y ++ [.row [.ifc (WTy false) r]]) := fun i hi _ => List.getElem?_append_left (hL i hi)
 replace h := h.box (.row [.ifc (WTy false) r])
 have hw : (Y ++ [O.row [.ifc (WTy false) r]])[Y.length]? = some (.row [.ifc (WTy false) r]) := by simp
 have st := StayX.refl (Y.length :: L) m (Y ++ [.row [.ifc (WTy false) r]])
 refine Tri.of_run' Tryz.func172 rfl c172_ok (by simp [Tryz.ntmps172]) ?_
 (repeat (first | refine Run.adm rfl ?_ | refine Run.seq ?_ | ((first | apply Run.opS rfl | apply Run.condS); (· (simp -implicitDefEqProofs; first | exact ⟨rfl, rfl⟩ | exact rfl)))))
 generalize hY1 : Y ++ [O.row [.ifc (WTy false) r]] = Y1 at *
 generalize Y.length = c at *
 have hc : c ∈ c :: L := by simp
 have hcx : c ≠ m := by omega
 refine Run.qchain prog_mixed 7 (by kernel_rfl) ?_
 (repeat (first | refine execQ_E rfl ?_ | (apply execQ_S rfl; (· (simp -implicitDefEqProofs [hw, wnum_m]; exact ⟨rfl, rfl⟩)))))
 refine SeqR.C rfl rfl (by simp [wnum_tbl]) (ws_num (n := o.kind) (off := 8) h rfl (fun e => by cases e) (fun _ => i0)) ?_
 rintro v Z ⟨rfl, h2, s2⟩
 replace hw := (s2 c hc hcx).trans hw
 replace st := st.trans s2
 replace h := h2
 clear h2 s2
 (repeat (first | refine SeqR.E rfl ?_ | (apply SeqR.o0 rfl; (· (simp -implicitDefEqProofs; exact ⟨rfl, rfl⟩))) | (apply SeqR.A rfl; (· (simp -implicitDefEqProofs; done)); (· (simp -implicitDefEqProofs; exact ⟨rfl, rfl⟩))) | (apply SeqR.N rfl; (· (simp -implicitDefEqProofs; done)))))
 (repeat (first | refine Run.adm rfl ?_ | refine Run.seq ?_ | ((first | apply Run.opS rfl | apply Run.condS); (· (simp -implicitDefEqProofs; first | exact ⟨rfl, rfl⟩ | exact rfl)))))
 refine Run.qchain prog_mixed 7 (by kernel_rfl) ?_
 (repeat (first | refine execQ_E rfl ?_ | (apply execQ_S rfl; (· (simp -implicitDefEqProofs [hw, wtxt_m]; exact ⟨rfl, rfl⟩)))))
 refine SeqR.C rfl rfl (by simp [wtxt_tbl]) (ws_txt (x := o.key) (off := 9) h rfl (fun e => by cases e) (fun _ => i1)) ?_
 rintro v Z ⟨rfl, h2, s2⟩
 replace hw := (s2 c hc hcx).trans hw
 replace st := st.trans s2
 replace h := h2
 clear h2 s2
 (repeat (first | refine SeqR.E rfl ?_ | (apply SeqR.o0 rfl; (· (simp -implicitDefEqProofs; exact ⟨rfl, rfl⟩))) | (apply SeqR.A rfl; (· (simp -implicitDefEqProofs; done)); (· (simp -implicitDefEqProofs; exact ⟨rfl, rfl⟩))) | (apply SeqR.N rfl; (· (simp -implicitDefEqProofs; done)))))
 (repeat (first | refine Run.adm rfl ?_ | refine Run.seq ?_ | ((first | apply Run.opS rfl | apply Run.condS); (· (simp -implicitDefEqProofs; first | exact ⟨rfl, rfl⟩ | exact rfl)))))
 refine Run.qchain prog_mixed 7 (by kernel_rfl) ?_
 (repeat (first | refine execQ_E rfl ?_ | (apply execQ_S rfl; (· (simp -implicitDefEqProofs [hw, wtxt_m]; exact ⟨rfl, rfl⟩)))))
 refine SeqR.C rfl rfl (by simp [wtxt_tbl]) (ws_txt (x := o.val) (off := 10) h rfl (fun e => by cases e) (fun _ => i2)) ?_
 rintro v Z ⟨rfl, h2, s2⟩
 replace hw := (s2 c hc hcx).trans hw
 replace st := st.trans s2
 replace h := h2
 clear h2 s2
 (repeat (first | refine SeqR.E rfl ?_ | (apply SeqR.o0 rfl; (· (simp -implicitDefEqProofs; exact ⟨rfl, rfl⟩))) | (apply SeqR.A rfl; (· (simp -implicitDefEqProofs; done)); (· (simp -implicitDefEqProofs; exact ⟨rfl, rfl⟩))) | (apply SeqR.N rfl; (· (simp -implicitDefEqProofs; done)))))
 (repeat (first | refine Run.adm rfl ?_ | refine Run.seq ?_ | ((first | apply Run.opS rfl | apply Run.condS); (· (simp -implicitDefEqProofs; first | exact ⟨rfl, rfl⟩ | exact rfl)))))
 refine Run.qchain prog_mixed 7 (by kernel_rfl) ?_
 (repeat (first | refine execQ_E rfl ?_ | (apply execQ_S rfl; (· (simp -implicitDefEqProofs [hw, wtxt_m]; exact ⟨rfl, rfl⟩)))))
 refine SeqR.C rfl rfl (by simp [wtxt_tbl]) (ws_txt (x := o.old) (off := 11) h rfl (fun e => by cases e) (fun _ => i3)) ?_
 rintro v Z ⟨rfl, h2, s2⟩
 replace hw := (s2 c hc hcx).trans hw
 replace st := st.trans s2
 replace h := h2
 clear h2 s2
 (repeat (first | refine SeqR.E rfl ?_ | (apply SeqR.o0 rfl; (· (simp -implicitDefEqProofs; exact ⟨rfl, rfl⟩))) | (apply SeqR.A rfl; (· (simp -implicitDefEqProofs; done)); (· (simp -implicitDefEqProofs; exact ⟨rfl, rfl⟩))) | (apply SeqR.N rfl; (· (simp -implicitDefEqProofs; done)))))
 (repeat (first | refine Run.adm rfl ?_ | refine Run.seq ?_ | ((first | apply Run.opS rfl | apply Run.condS); (· (simp -implicitDefEqProofs; first | exact ⟨rfl, rfl⟩ | exact rfl)))))
 refine Run.drawn prog_mixed ?_
 show RunD _ c172d4 [0, 1, 2, 3, 4, 5, 6, 7, 8, 9, 10, 11, 12, 13] [] _ _ _
 refine RunD.flow [0, 1, 2, 3] (by kernel_rfl) (by decide +kernel) (by decide +kernel) (by decide) trivial ?_; (repeat (first | refine execQ_E rfl ?_ | (apply execQ_S rfl; (· (simp -implicitDefEqProofs [hw]; exact ⟨rfl, rfl⟩))))); intro hpo
 refine RunD.alt1 4 (by kernel_rfl) (by kernel_rfl) hpo ?_
 refine AStep.C rfl rfl rfl (flag_tri (off := 12) (b := o.has) h rfl (fun e => by cases e)) ?_
 rintro v Z ⟨rfl, h2, s2⟩
 replace hw := (s2 c hc hcx).trans hw
 replace st := st.trans s2
 refine RunD.flow [5, 6, 7, 8, 9, 10] (by kernel_rfl) (by decide +kernel) (by decide +kernel) (by decide) (show PendOk _ c172d4 _ _ [] from trivial) ?_; (repeat (first | refine execQ_E rfl ?_ | (apply execQ_S rfl; (· (simp -implicitDefEqProofs [hw]; exact ⟨rfl, rfl⟩))))); intro hpo
 refine RunD.alt1 11 (by kernel_rfl) (by kernel_rfl) hpo ?_
 refine AStep.C rfl rfl rfl (lstNW (c := c) (off := 13) h2 rfl (by decide)) ?_
 rintro v Z2 ⟨rfl, ⟨q, h3⟩, s3⟩
 replace hw := (s3 c hc hcx).trans hw
 replace st := st.trans s3
 refine RunD.flow [12, 13] (by kernel_rfl) (by decide +kernel) (by decide +kernel) (by decide) (show PendOk _ c172d4 _ _ [] from trivial) ?_; (repeat (first | refine execQ_E rfl ?_ | (apply execQ_S rfl; (· (simp -implicitDefEqProofs; exact ⟨rfl, rfl⟩))))); intro hpo
 refine RunD.fin (by kernel_rfl) (by
  show PendOk _ c172d4 _ _ _
  exact hpo) ?_
 replace h := h3
 (repeat (first | refine Run.adm rfl ?_ | refine Run.seq ?_ | ((first | apply Run.opS rfl | apply Run.condS); (· (simp -implicitDefEqProofs; first | exact ⟨rfl, rfl⟩ | exact rfl)))))
 refine Run.qchain prog_mixed 8 (by kernel_rfl) ?_
 (repeat (first | refine execQ_E rfl ?_ | (apply execQ_S rfl; (· (simp -implicitDefEqProofs [hw, wtxt_m]; exact ⟨rfl, rfl⟩)))))
 refine SeqR.C rfl rfl (by simp [wtxt_tbl]) (ws_txt (x := o.lo) (off := 14) h rfl (fun e => by cases e) (fun _ => i6)) ?_
 rintro v Z ⟨rfl, h2, s2⟩
 replace hw := (s2 c hc hcx).trans hw
 replace st := st.trans s2
 replace h := h2
 clear h2 s2
 (repeat (first | refine SeqR.E rfl ?_ | (apply SeqR.o0 rfl; (· (simp -implicitDefEqProofs; exact ⟨rfl, rfl⟩))) | (apply SeqR.A rfl; (· (simp -implicitDefEqProofs; done)); (· (simp -implicitDefEqProofs; exact ⟨rfl, rfl⟩))) | (apply SeqR.N rfl; (· (simp -implicitDefEqProofs; done)))))
 (repeat (first | refine Run.adm rfl ?_ | refine Run.seq ?_ | ((first | apply Run.opS rfl | apply Run.condS); (· (simp -implicitDefEqProofs; first | exact ⟨rfl, rfl⟩ | exact rfl)))))
 refine Run.qchain prog_mixed 8 (by kernel_rfl) ?_
 (repeat (first | refine execQ_E rfl ?_ | (apply execQ_S rfl; (· (simp -implicitDefEqProofs [hw, wtxt_m]; exact ⟨rfl, rfl⟩)))))
 refine SeqR.C rfl rfl (by simp [wtxt_tbl]) (ws_txt (x := o.hi) (off := 15) h rfl (fun e => by cases e) (fun _ => i7)) ?_
 rintro v Z ⟨rfl, h2, s2⟩
 replace hw := (s2 c hc hcx).trans hw
 replace st := st.trans s2
 replace h := h2
 clear h2 s2
 (repeat (first | refine SeqR.E rfl ?_ | (apply SeqR.o0 rfl; (· (simp -implicitDefEqProofs; exact ⟨rfl, rfl⟩))) | (apply SeqR.A rfl; (· (simp -implicitDefEqProofs; done)); (· (simp -implicitDefEqProofs; exact ⟨rfl, rfl⟩))) | (apply SeqR.N rfl; (· (simp -implicitDefEqProofs; done)))))
 (repeat (first | refine Run.adm rfl ?_ | refine Run.seq ?_ | ((first | apply Run.opS rfl | apply Run.condS); (· (simp -implicitDefEqProofs; first | exact ⟨rfl, rfl⟩ | exact rfl)))))
 refine Run.qchain prog_mixed 7 (by kernel_rfl) ?_
 (repeat (first | refine execQ_E rfl ?_ | (apply execQ_S rfl; (· (simp -implicitDefEqProofs [hw, wnum_m]; exact ⟨rfl, rfl⟩)))))
 refine SeqR.C rfl rfl (by simp [wnum_tbl]) (ws_num (n := o.lim) (off := 16) h rfl (fun e => by cases e) (fun _ => i8)) ?_
 rintro v Z ⟨rfl, h2, s2⟩
 replace hw := (s2 c hc hcx).trans hw
 replace st := st.trans s2
 replace h := h2
 clear h2 s2
 (repeat (first | refine SeqR.E rfl ?_ | (apply SeqR.o0 rfl; (· (simp -implicitDefEqProofs; exact ⟨rfl, rfl⟩))) | (apply SeqR.A rfl; (· (simp -implicitDefEqProofs; done)); (· (simp -implicitDefEqProofs; exact ⟨rfl, rfl⟩))) | (apply SeqR.N rfl; (· (simp -implicitDefEqProofs; done)))))
 (repeat (first | refine Run.adm rfl ?_ | refine Run.seq ?_ | ((first | apply Run.opS rfl | apply Run.condS); (· (simp -implicitDefEqProofs; first | exact ⟨rfl, rfl⟩ | exact rfl)))))
 refine Run.retS Tryz.func172 r172_ok trivial (by simp [r172]; rfl) ?_
 have hmm : m ∈ L := by have := h.mem; simp at this; rcases this with e | e; omega; exact e
 refine ⟨rfl, ⟨_, h.way.sub (fun i hi => by simp [hi]), hmm, h.row, by have := h.len; simpa [opB, hws, lB, Nat.add_assoc] using this⟩, ?_⟩
 exact s0.trans (fun i hi hn => st i (by simp [hi]) hn)
theorem lB_nil {α : Type} (B : α → Bs) : lB B [] = nB 0 := by simp [lB]
structure Plain (M : MsgM) : Prop where
 ws : M.op.ws = []
 ps : M.rep.ps = []
 ents : M.ents = []
 seen : M.seen = []
def zMsg : List V := [.int .i64 0, .int .i64 0, .int .i64 0, .int .i64 0, .int .i64 0, .int .i64 0, .int .i64 0, .bool false, .int .i64 0, .str [], .str [], .str [], .bool false, .nils, .str [], .str [], .int .i64 0, .int .i64 0, .str [], .bool false, .nils, .str [], .nils, .nils, .nils]
def inMsg (M : MsgM) (lv : V) : List V := [.int .i64 M.kind, .int .i64 M.shard, .int .i64 M.other, .int .i64 M.epoch, .int .i64 M.client, .int .i64 M.seq, .int .i64 M.move, .bool M.whole, .int .i64 M.op.kind, .str M.op.key, .str M.op.val, .str M.op.old, .bool M.op.has, .nils, .str M.op.lo, .str M.op.hi, .int .i64 M.op.lim, .int .i64 M.rep.err, .str M.rep.val, .bool M.rep.has, .nils, .str M.rep.upto, lv, .nils, .nils]
set_option maxHeartbeats 4000000 in
theorem parts_in {L : List Nat} {r m : Nat} {ok : Bool} {Y : List O} {M : MsgM} (h : WS false L r m [] (msgB M ++ []) ok zMsg Y) (hp : Plain M) (hv : msgV M = true) :
  Tri Tryz.prog 141 [.ifc (WTy false) r, .ptr m 0] Y (fun v Z => v = .bool true ∧ (∃ lv q L', LvAt Z lv (M.map.map encSh) Y.length ∧ WS false L' r m (msgB M) [] q (inMsg M lv) Z) ∧ StayX L m Y Z) := by
 simp only [msgV, msgFit, msgOk, Bool.and_eq_true, decide_eq_true_eq] at hv
 obtain ⟨⟨⟨⟨⟨⟨⟨k1, k2⟩, -⟩, -⟩, fm⟩, -⟩, -⟩, ⟨⟨⟨⟨⟨⟨⟨i0, i1⟩, i2, i3⟩, -⟩, i4⟩, i5⟩, -⟩, -⟩⟩ := hv
 simp only [lFit, Bool.and_eq_true, decide_eq_true_eq] at fm
 simp only [msgB, tailB, hp.ps, hp.ents, hp.seen, lB_nil, List.append_assoc] at h
 have hL := h.lt
 have hm := h.lt m h.mem
 have hbox := h.box (.row [.ifc (WTy false) r])
 have hlen1 : (Y ++ [O.row [.ifc (WTy false) r]]).length = Y.length + 1 := by simp
 have hbox2 := hbox.box (.row (ptrs7 m))
 have hcY : ((Y ++ [O.row [.ifc (WTy false) r]]) ++ [.row (ptrs7 m)])[Y.length]? = some (.row [.ifc (WTy false) r]) := getA (by simp) _
 have hpY : ((Y ++ [O.row [.ifc (WTy false) r]]) ++ [.row (ptrs7 m)])[Y.length + 1]? = some (.row (ptrs7 m)) := by rw [← hlen1]; simp
 rw [hlen1] at hbox2
 simp only [List.append_assoc, List.cons_append, List.nil_append] at hbox2 hcY hpY
 refine Tri.of_run' Tryz.func141 rfl c141_ok (by simp [Tryz.ntmps141]) ?_
 (repeat (first | refine Run.adm rfl ?_ | refine Run.seq ?_ | ((first | apply Run.opS rfl | apply Run.condS); (· (simp -implicitDefEqProofs; first | exact ⟨rfl, rfl⟩ | exact rfl)))))
 refine Run.drawn prog_mixed ?_
 show RunD _ c141d0 [0, 1, 2, 3, 4, 5, 6, 7, 8, 9, 10, 11, 12, 13, 14, 15, 16, 17, 18, 19, 20, 21, 22, 23] [] _ _ _
 refine RunD.flow [0, 1, 2, 3, 4, 5, 6, 7, 8, 9, 10, 11, 12, 13, 14, 15, 16, 17, 18, 19, 20, 23] (by kernel_rfl) (by decide +kernel) (by decide +kernel) (by decide) trivial ?_; (repeat (first | refine execQ_E rfl ?_ | (apply execQ_S rfl; (· (simp -implicitDefEqProofs; exact ⟨rfl, rfl⟩))))); intro hpo
 refine RunD.alt1 21 (by kernel_rfl) (by kernel_rfl) hpo ?_
 (apply AStep.S rfl; (· (simp -implicitDefEqProofs; exact ⟨rfl, rfl⟩)))
 refine RunD.flow [22] (by kernel_rfl) (by decide +kernel) (by decide +kernel) (by decide) (by
  show PendOk _ c141d0 _ _ [23]
  (repeat (first | exact PendOk.nil | (refine PendOk.S rfl rfl ?_ ?_; (· (simp -implicitDefEqProofs; done)))))) ?_; (repeat (first | refine execQ_E rfl ?_ | (apply execQ_S rfl; (· (simp -implicitDefEqProofs; exact ⟨rfl, rfl⟩))))); intro hpo
 refine RunD.fin (by kernel_rfl) (by
  show PendOk _ c141d0 _ _ _
  exact hpo) ?_
 (repeat (first | refine Run.adm rfl ?_ | refine Run.seq ?_ | ((first | apply Run.opS rfl | apply Run.condS); (· (simp -implicitDefEqProofs; first | exact ⟨rfl, rfl⟩ | exact rfl)))))
 generalize hc : Y.length = c at *
 obtain ⟨p, hpd⟩ : ∃ p, c + 1 = p := ⟨_, rfl⟩
 rw [hpd] at hbox2 hpY
 have hcm : c ≠ m := by omega
 have hpm : p ≠ m := by omega
 have hci : c ∈ p :: c :: L := by simp
 have hpi : p ∈ p :: c :: L := by simp
 refine Run.sl [(0, .ifc (WTy false) r), (1, .ptr m 0), (2, .ptr c 0), (4, .bool false), (29, .sl p 0 7 1 (some 7)), (30, .int .i64 7), (31, .int .i64 (0 : Nat))] (by simp [hpd, hlen1, hc]) ?_
 refine nums_run (k := false) rfl (ns := M.nums) (zs := List.replicate 7 (.int .i64 0)) (cs := zMsg.drop 7) hbox2 rfl rfl (fun i n hn => ⟨0, by
  have : i < 7 := (List.getElem?_eq_some_iff.1 hn).1
  rw [List.getElem?_replicate, if_pos this], fun e => by cases e⟩) (fun _ => i0) hci hcm hcY hpi hpm hpY ?_
 intro U h1 s1
 replace h1 : WS false (p :: c :: L) r m _ _ _ (.int .i64 M.kind :: .int .i64 M.shard :: .int .i64 M.other :: .int .i64 M.epoch :: .int .i64 M.client :: .int .i64 M.seq :: .int .i64 M.move :: zMsg.drop 7) U := h1
 simp only [zMsg, List.drop_succ_cons, List.drop_zero] at h1
 have hw : U[c]? = some (.row [.ifc (WTy false) r]) := (s1 c hci hcm).trans hcY
 have hrow := h1.row
 have hk1 : ¬ M.kind < 1 := by omega
 have hk2 : ¬ 15 < M.kind := by omega
 (repeat (first | refine Run.adm rfl ?_ | refine Run.seq ?_ | ((first | apply Run.opS rfl | apply Run.condS); (· (simp -implicitDefEqProofs; first | exact ⟨rfl, rfl⟩ | exact rfl)))))
 refine Run.drawn prog_mixed ?_
 show RunD _ c141d1 [0, 1, 2, 3, 4, 5, 6, 7, 8, 9, 10, 11, 12, 13, 14, 15, 16, 17, 18, 19, 20, 21, 22, 23, 24, 25, 26, 27, 28, 29, 30, 31, 32, 33, 34, 35] [] _ _ _
 refine RunD.flow [0, 1, 2, 3, 4, 5, 6, 7, 8, 9, 10, 11, 12, 13, 14, 15, 16] (by kernel_rfl) (by decide +kernel) (by decide +kernel) (by decide) trivial ?_; (repeat (first | refine execQ_E rfl ?_ | (apply execQ_S rfl; (· (simp -implicitDefEqProofs [hrow, hk1, hk2, hw]; exact ⟨rfl, rfl⟩))))); intro hpo
 refine RunD.alt1 17 (by kernel_rfl) (by kernel_rfl) hpo ?_
 refine AStep.C rfl rfl rfl (flag_tri (b := M.whole) (off := 7) h1 rfl (fun e => by cases e)) ?_
 rintro v Z ⟨rfl, h2, s2⟩
 replace hw := (s2 c hci hcm).trans hw
 simp only [List.set_cons_succ, List.set_cons_zero] at h2
 refine RunD.flow [18, 19, 20, 21, 22, 23, 24] (by kernel_rfl) (by decide +kernel) (by decide +kernel) (by decide) (show PendOk _ c141d1 _ _ [] from trivial) ?_; (repeat (first | refine execQ_E rfl ?_ | (apply execQ_S rfl; (· (simp -implicitDefEqProofs [hw]; exact ⟨rfl, rfl⟩))))); intro hpo
 refine RunD.alt1 25 (by kernel_rfl) (by kernel_rfl) hpo ?_
 refine AStep.C rfl rfl rfl (op_in h2 i1 hp.ws) ?_
 rintro v Z2 ⟨rfl, ⟨q3, h3⟩, s3⟩
 replace hw := (s3 c hci hcm).trans hw
 refine RunD.flow [26, 27, 28, 29, 30, 31, 32] (by kernel_rfl) (by decide +kernel) (by decide +kernel) (by decide) (show PendOk _ c141d1 _ _ [] from trivial) ?_; (repeat (first | refine execQ_E rfl ?_ | (apply execQ_S rfl; (· (simp -implicitDefEqProofs [hw]; exact ⟨rfl, rfl⟩))))); intro hpo
 refine RunD.alt1 33 (by kernel_rfl) (by kernel_rfl) hpo ?_
 refine AStep.C rfl rfl rfl (head_tri (off := 17) h3 rfl rfl rfl (fun e => by cases e) (fun _ => ⟨i2, i3⟩)) ?_
 rintro v Z3 ⟨rfl, h4, s4⟩
 replace hw := (s4 c hci hcm).trans hw
 simp only [List.set_cons_succ, List.set_cons_zero] at h4
 refine RunD.flow [34, 35] (by kernel_rfl) (by decide +kernel) (by decide +kernel) (by decide) (show PendOk _ c141d1 _ _ [] from trivial) ?_; (repeat (first | refine execQ_E rfl ?_ | (apply execQ_S rfl; (· (simp -implicitDefEqProofs; exact ⟨rfl, rfl⟩))))); intro hpo
 refine RunD.fin (by kernel_rfl) hpo ?_
 (repeat (first | refine Run.adm rfl ?_ | refine Run.seq ?_ | ((first | apply Run.opS rfl | apply Run.condS); (· (simp -implicitDefEqProofs; first | exact ⟨rfl, rfl⟩ | exact rfl)))))
 refine Run.sl [(1, .ptr m 0), (2, .ptr c 0), (4, .bool false)] (by simp) ?_
 refine Run.qchain prog_mixed 6 (by kernel_rfl) ?_
 (repeat (first | refine execQ_E rfl ?_ | (apply execQ_S rfl; (· (simp -implicitDefEqProofs [hw]; exact ⟨rfl, rfl⟩)))))
 refine SeqR.C rfl rfl rfl (lstNPr (c := c) (off := 20) h4 rfl (by decide)) ?_
 rintro v Z4 ⟨rfl, ⟨q5, h5⟩, s5⟩
 replace hw := (s5 c hci hcm).trans hw
 have hc := hci
 have hcx := hcm
 have st := StayX.refl (p :: c :: L) m Z4
 have h := h5
 (repeat (first | refine SeqR.E rfl ?_ | (apply SeqR.o0 rfl; (· (simp -implicitDefEqProofs; exact ⟨rfl, rfl⟩))) | (apply SeqR.A rfl; (· (simp -implicitDefEqProofs; done)); (· (simp -implicitDefEqProofs; exact ⟨rfl, rfl⟩))) | (apply SeqR.N rfl; (· (simp -implicitDefEqProofs; done)))))
 (repeat (first | refine Run.adm rfl ?_ | refine Run.seq ?_ | ((first | apply Run.opS rfl | apply Run.condS); (· (simp -implicitDefEqProofs; first | exact ⟨rfl, rfl⟩ | exact rfl)))))
 refine Run.sl [(1, .ptr m 0), (2, .ptr c 0), (4, .bool false), (7, .bool true)] (by simp) ?_
 refine Run.qchain prog_mixed 8 (by kernel_rfl) ?_
 (repeat (first | refine execQ_E rfl ?_ | (apply execQ_S rfl; (· (simp -implicitDefEqProofs [hw, wtxt_m]; exact ⟨rfl, rfl⟩)))))
 refine SeqR.C rfl rfl (by simp [wtxt_tbl]) (ws_txt (x := M.rep.upto) (off := 21) h rfl (fun e => by cases e) (fun _ => i4)) ?_
 rintro v Z ⟨rfl, h2, s2⟩
 replace hw := (s2 c hc hcx).trans hw
 replace st := st.trans s2
 replace h := h2
 clear h2 s2
 (repeat (first | refine SeqR.E rfl ?_ | (apply SeqR.o0 rfl; (· (simp -implicitDefEqProofs; exact ⟨rfl, rfl⟩))) | (apply SeqR.A rfl; (· (simp -implicitDefEqProofs; done)); (· (simp -implicitDefEqProofs; exact ⟨rfl, rfl⟩))) | (apply SeqR.N rfl; (· (simp -implicitDefEqProofs; done)))))
 (repeat (first | refine Run.adm rfl ?_ | refine Run.seq ?_ | ((first | apply Run.opS rfl | apply Run.condS); (· (simp -implicitDefEqProofs; first | exact ⟨rfl, rfl⟩ | exact rfl)))))
 refine Run.sl [(1, .ptr m 0), (2, .ptr c 0), (4, .bool false), (7, .bool true)] (by simp) ?_
 refine Run.qchain prog_mixed 7 (by kernel_rfl) ?_
 (repeat (first | refine execQ_E rfl ?_ | (apply execQ_S rfl; (· (simp -implicitDefEqProofs [hw]; exact ⟨rfl, rfl⟩)))))
 refine SeqR.C rfl rfl rfl (lstISh (c := c) (off := 22) h rfl hci hcm hw fm.1 (by decide) (fun e he => List.all_eq_true.1 i5 e he)) ?_
 rintro v Z6 ⟨rfl, lv, hlv, ⟨q7, h7⟩, s7⟩
 have hplt := h.lt p hpi
 have hclt := h.lt c hci
 have hmlt := h.lt m h.mem
 have hrlt := lt_of_get h.rI
 have hcr := h.ne c hci
 replace hw := (s7 c hci hcm).trans hw
 have hclt7 := h7.lt c hci
 have hlt7 := h7.lt
 have hne7 := h7.ne
 replace h7 := h7.all
 simp only [List.set_cons_succ, List.set_cons_zero] at h7
 (repeat (first | refine SeqR.E rfl ?_ | (apply SeqR.o0 rfl; (· (simp -implicitDefEqProofs; exact ⟨rfl, rfl⟩))) | (apply SeqR.A rfl; (· (simp -implicitDefEqProofs; done)); (· (simp -implicitDefEqProofs; exact ⟨rfl, rfl⟩))) | (apply SeqR.N rfl; (· (simp -implicitDefEqProofs; done)))))
 (repeat (first | refine Run.adm rfl ?_ | refine Run.seq ?_ | ((first | apply Run.opS rfl | apply Run.condS); (· (simp -implicitDefEqProofs; first | exact ⟨rfl, rfl⟩ | exact rfl)))))
 refine Run.sl [(1, .ptr m 0), (2, .ptr c 0), (4, .bool false), (7, .bool true)] (by simp) ?_
 refine Run.qchain prog_mixed 7 (by kernel_rfl) ?_
 (repeat (first | refine execQ_E rfl ?_ | (apply execQ_S rfl; (· (simp -implicitDefEqProofs [hw]; exact ⟨rfl, rfl⟩)))))
 refine SeqR.C rfl rfl rfl (lstNET (c := c) (off := 23) h7 rfl (by decide)) ?_
 rintro v Z7 ⟨rfl, ⟨q8, h8⟩, s8⟩
 replace hw := (s8 c (mem_allB.2 ⟨hclt7, hcr⟩) hcm).trans hw
 (repeat (first | refine SeqR.E rfl ?_ | (apply SeqR.o0 rfl; (· (simp -implicitDefEqProofs; exact ⟨rfl, rfl⟩))) | (apply SeqR.A rfl; (· (simp -implicitDefEqProofs; done)); (· (simp -implicitDefEqProofs; exact ⟨rfl, rfl⟩))) | (apply SeqR.N rfl; (· (simp -implicitDefEqProofs; done)))))
 (repeat (first | refine Run.adm rfl ?_ | refine Run.seq ?_ | ((first | apply Run.opS rfl | apply Run.condS); (· (simp -implicitDefEqProofs; first | exact ⟨rfl, rfl⟩ | exact rfl)))))
 refine Run.sl [(1, .ptr m 0), (2, .ptr c 0), (4, .bool false), (7, .bool true)] (by simp) ?_
 refine Run.qchain prog_mixed 7 (by kernel_rfl) ?_
 (repeat (first | refine execQ_E rfl ?_ | (apply execQ_S rfl; (· (simp -implicitDefEqProofs [hw]; exact ⟨rfl, rfl⟩)))))
 refine SeqR.C rfl rfl rfl (lstNSn (c := c) (off := 24) h8 rfl (by decide)) ?_
 rintro v Z8 ⟨rfl, ⟨q9, h9⟩, s9⟩
 (repeat (first | refine SeqR.E rfl ?_ | (apply SeqR.o0 rfl; (· (simp -implicitDefEqProofs; exact ⟨rfl, rfl⟩))) | (apply SeqR.A rfl; (· (simp -implicitDefEqProofs; done)); (· (simp -implicitDefEqProofs; exact ⟨rfl, rfl⟩))) | (apply SeqR.N rfl; (· (simp -implicitDefEqProofs; done)))))
 (repeat (first | refine Run.adm rfl ?_ | refine Run.seq ?_ | ((first | apply Run.opS rfl | apply Run.condS); (· (simp -implicitDefEqProofs; first | exact ⟨rfl, rfl⟩ | exact rfl)))))
 refine Run.retS Tryz.func141 r141_ok trivial (by simp [r141]; rfl) ?_
 refine ⟨rfl, ⟨lv, true, _, ?_, h9.way, h9.mem, h9.row, ?_⟩, fun i hi hn => ?_⟩
 rotate_right
 ·have hi2 : i ∈ p :: c :: L := by simp [hi]
  have hi3 := mem_allB.2 ⟨hlt7 i hi2, hne7 i hi2⟩
  rw [s9 i hi3 hn, s8 i hi3 hn, s7 i hi2 hn, st i hi2 hn, s5 i hi2 hn, s4 i hi2 hn, s3 i hi2 hn, s2 i hi2 hn, s1 i hi2 hn, List.getElem?_append_left (by have := hL i hi; omega)]
 ·rcases hlv with h | ⟨id, g1, g2, g3⟩
  ·exact .inl h
  ·have hid6 := lt_of_get g3
   have hmi : id ∈ allB r Z6.length := mem_allB.2 ⟨hid6, by omega⟩
   exact .inr ⟨id, by omega, g2, by rw [s9 id hmi (by omega), s8 id hmi (by omega)]; exact g3⟩
 ·have := h9.len
  simpa [msgB, tailB, hp.ps, hp.ents, hp.seen, lB_nil, Nat.add_assoc] using this
attribute [local simp ↓] upd_app tl_cons tl_nil
theorem inMsg_le (M : MsgM) (hp : Plain M) {lv : V} (h : VLe lv (.vs (M.map.map encSh) 6)) : VsLe (inMsg M lv) (encMsg M) := by
 have e1 : VLe .nils (.vs (M.op.ws.map encW) 3) := by rw [hp.ws]; exact VLe.nils _
 have e2 : VLe .nils (.vs (M.rep.ps.map encPr) 2) := by rw [hp.ps]; exact VLe.nils _
 have e3 : VLe .nils (.vs (M.ents.map encET) 4) := by rw [hp.ents]; exact VLe.nils _
 have e4 : VLe .nils (.vs (M.seen.map encSn) 7) := by rw [hp.seen]; exact VLe.nils _
 refine ⟨VLe.refl _, VLe.refl _, VLe.refl _, VLe.refl _, VLe.refl _, VLe.refl _, VLe.refl _, VLe.refl _, VLe.refl _, VLe.refl _, VLe.refl _, VLe.refl _, VLe.refl _, e1, VLe.refl _, VLe.refl _, VLe.refl _, VLe.refl _, VLe.refl _, VLe.refl _, e2, VLe.refl _, h, e3, e4, trivial⟩
theorem zMsg_len : zMsg.length = 25 := rfl
theorem inMsg_len (M lv) : (inMsg M lv).length = 25 := rfl
theorem inMsg_frz (M : MsgM) (id : Nat) (es : List (List V)) (lv : V) : V.frzL id es 6 (inMsg M lv) = inMsg M (lv.frz id es 6) := rfl
theorem ptake_at (M : MsgM) (hp : Plain M) (hv : msgV M = true) (hl : (msgB M).length + 4 ≤ 262144) (H : List O) :
  Tri Tryz.prog 90 [.str (sealB (msgB M))] H (fun v H' => v = .tup [.agg (encMsg M), .int .i64 0] ∧ H' = H) := by
 refine Tri.at (v0 := .tup [.agg (encMsg M), .int .i64 0]) ?_ rfl rfl H
 have hsl := sealB_len (msgB M)
 have hck := check_seal (msgB M)
 have h1 : ¬ (262144 : Int) < (sealB (msgB M)).length := by omega
 have hw := wrap_small (n := ((sealB (msgB M)).length : Int) - 4) (by omega) (by omega)
 have hn : ((((sealB (msgB M)).length : Int) - 4)).toNat = (msgB M).length := by omega
 have hb1 : 0 ≤ ((sealB (msgB M)).length : Int) - 4 := by omega
 have hb2 : ((sealB (msgB M)).length : Int) - 4 ≤ (sealB (msgB M)).length := by omega
 have htk : (sealB (msgB M)).take (msgB M).length = msgB M := by simp [sealB]
 have hs4 : 4 ≤ (sealB (msgB M)).length := by omega
 have hs4I : (4 : Int) ≤ (sealB (msgB M)).length := by omega
 have hs5 : (sealB (msgB M)).length - 4 = (msgB M).length := by omega
 have hlen0 : (sealB (msgB M)).length ≤ 70368744177664 := by omega
 generalize sealB (msgB M) = s at *
 have h0 : WS false [0, 2] 1 2 [] (msgB M ++ []) true zMsg [.row zMsg, .row [.str (msgB M), .bool true], .row zMsg] :=
  WS.mkI (by simp) (by simp) (by simp) rfl (by simp; omega)
 refine Tri.of_run' Tryz.func90 rfl c90_ok (by simp [Tryz.ntmps90]) ?_
 (repeat (first | refine Run.adm rfl ?_ | refine Run.seq ?_ | ((first | apply Run.opS rfl | apply Run.condS); (· (simp -implicitDefEqProofs; first | exact ⟨rfl, rfl⟩ | exact rfl)))))
 refine Run.opC rfl rfl rfl (check_at s hlen0 _) ?_
 rintro v H' ⟨rfl, rfl⟩
 (repeat (first | refine Run.adm rfl ?_ | refine Run.seq ?_ | ((first | apply Run.opS rfl | apply Run.condS); (· (simp -implicitDefEqProofs [hck, h1, hw, hn, hb1, hb2, htk, hs4, hs4I, hs5]; first | exact ⟨rfl, rfl⟩ | exact rfl)))))
 refine Run.opC rfl rfl rfl (parts_in h0 hp hv) ?_
 rintro v Z ⟨rfl, ⟨lv, q, L', hlv, hZ⟩, st⟩
 have z0 : Z[0]? = some (.row zMsg) := (st 0 (by simp) (by decide)).trans rfl
 have z1 := hZ.rI
 have z2 := hZ.row
 have hq : ∀ {Z2 : List O}, Z2[0]? = some (.row zMsg) → Run ⟨Tryz.prog, .fn 90, Tryz.f90.ntmps, [], fun v H => v = .tup [.agg (encMsg M), .int .i64 0] ∧ H = []⟩
   ⟨[.ops [⟨none, none, .store (.t 2) (.t 41) 25⟩, ⟨some 3, none, .mv (.c (.int .i64 0))⟩], .code .ret], tl [(2, .ptr 0 0), (41, .agg (encMsg M))], Z2⟩ := by
  intro Z2 hz
  have hz2 : ∀ o, (Z2.set 0 o)[0]? = some o := fun o => setG hz o
  have hput : (encMsg M) ++ zMsg.drop 25 = encMsg M := by simp [zMsg]
  (repeat (first | refine Run.adm rfl ?_ | refine Run.seq ?_ | ((first | apply Run.opS rfl | apply Run.condS); (· (simp -implicitDefEqProofs [hz, hz2, encMsg_ones, encMsg_len, zMsg_len, hput]; first | exact ⟨rfl, rfl⟩ | exact rfl)))))
  refine Run.ret Tryz.func90 r90_ok trivial (by simp [r90, hz2, encMsg_len]; rfl) (fun _ => none) (v' := .tup [.agg (encMsg M), .int .i64 0]) (h' := []) (namesN _) (by simp [List.take_of_length_le (Nat.le_of_eq (encMsg_len M))]) ⟨rfl, rfl⟩ trivial
 (repeat (first | refine Run.adm rfl ?_ | refine Run.seq ?_ | ((first | apply Run.opS rfl | apply Run.condS); (· (simp -implicitDefEqProofs [z1, z2, inMsg_len]; first | exact ⟨rfl, rfl⟩ | exact rfl)))))
 refine Run.sl [(2, .ptr 0 0), (41, .agg (inMsg M lv))] (by simp [List.take_of_length_le (Nat.le_of_eq (inMsg_len M lv))]) ?_
 rcases hlv with ⟨e, rfl⟩ | ⟨id, hid0, rfl, hid⟩
 ·refine Run.sl [(2, .ptr 0 0), (41, .agg (encMsg M))] (by simp; exact VLe.agg (inMsg_le M hp (by rw [e]; exact VLe.nils _))) ?_
  exact hq z0
 ·refine Run.frzS id hid ?_
  refine Run.sl [(2, .ptr 0 0), (41, .agg (encMsg M))] (by
   simp [inMsg_frz]
   exact VLe.agg (inMsg_le M hp (VLe.refl _))) ?_
  exact hq (by rw [setN (by simp at hid0; omega)]; exact z0)
attribute [local simp ↓] upd_app tl_cons tl_nil
def ahB (s hi : Bs) : Bool := decide (hi = []) || Op.bytesLess s hi
def mayS (lo hi : Bs) : Bool := decide (lo.length ≤ 64) && decide (hi.length ≤ 64) && ahB lo hi
def keyB (s : Bs) : Bool := !decide (s = []) && decide (s.length ≤ 64)
def hasS (lo hi key : Bs) : Bool := mayS lo hi && keyB key && (Op.bytesLess lo key || decide (lo = key)) && ahB key hi
theorem ahead_at (s hi : Bs) (H : List O) : Tri Tryz.prog 149 [.str s, .str hi] H (fun v H' => v = .bool (ahB s hi) ∧ H' = H) := by
 refine Tri.at (v0 := .bool (ahB s hi)) ?_ rfl rfl H
 refine Tri.of_run' Tryz.func149 rfl c149_ok (by simp [Tryz.ntmps149]) ?_
 by_cases h : hi = []
 ·(repeat (first | refine Run.adm rfl ?_ | refine Run.seq ?_ | ((first | apply Run.opS rfl | apply Run.condS); (· (simp -implicitDefEqProofs [h]; first | exact ⟨rfl, rfl⟩ | exact rfl)))))
  refine Run.retI Tryz.func149 r149_ok trivial (by simp -implicitDefEqProofs [r149, h]; rfl) (by simp [h]) ?_ (by simp -implicitDefEqProofs [h]) (by simp -implicitDefEqProofs [h])
  simp [ahB, h]
 ·(repeat (first | refine Run.adm rfl ?_ | refine Run.seq ?_ | ((first | apply Run.opS rfl | apply Run.condS); (· (simp -implicitDefEqProofs [h]; first | exact ⟨rfl, rfl⟩ | exact rfl)))))
  refine Run.retI Tryz.func149 r149_ok trivial (by simp -implicitDefEqProofs [r149, h]; rfl) (by simp [h]) ?_ (by simp -implicitDefEqProofs [h]) (by simp -implicitDefEqProofs [h])
  simp [ahB, h]
theorem smay_at (lo hi : Bs) (H : List O) : Tri Tryz.prog 147 [.agg [.str lo, .str hi]] H (fun v H' => v = .bool (mayS lo hi) ∧ H' = H) := by
 refine Tri.at (v0 := .bool (mayS lo hi)) ?_ rfl rfl H
 refine Tri.of_run' Tryz.func147 rfl c147_ok (by simp [Tryz.ntmps147]) ?_
 by_cases h1 : lo.length ≤ 64
 ·have h1' : (lo.length : Int) ≤ 64 := by omega
  by_cases h2 : hi.length ≤ 64
  ·have h2' : (hi.length : Int) ≤ 64 := by omega
   (repeat (first | refine Run.adm rfl ?_ | refine Run.seq ?_ | ((first | apply Run.opS rfl | apply Run.condS); (· (simp -implicitDefEqProofs [h1', h2']; first | exact ⟨rfl, rfl⟩ | exact rfl)))))
   refine Run.opC rfl (by simp) rfl (ahead_at lo hi _) ?_
   rintro v H' ⟨rfl, rfl⟩
   (repeat (first | refine Run.adm rfl ?_ | refine Run.seq ?_ | ((first | apply Run.opS rfl | apply Run.condS); (· (simp -implicitDefEqProofs; first | exact ⟨rfl, rfl⟩ | exact rfl)))))
   refine Run.mv [] [(2, .bool (mayS lo hi))] [] (by rfl) (by decide) (by simp -implicitDefEqProofs [mayS, h1, h2]) (by simp -implicitDefEqProofs [mayS, h1, h2]) ?_
   refine Run.retI Tryz.func147 r147_ok trivial (by simp -implicitDefEqProofs [r147]; rfl) (by simp ) ?_ (by simp -implicitDefEqProofs ) (by simp -implicitDefEqProofs )
   simp
  ·have h2' : ¬ (hi.length : Int) ≤ 64 := by omega
   (repeat (first | refine Run.adm rfl ?_ | refine Run.seq ?_ | ((first | apply Run.opS rfl | apply Run.condS); (· (simp -implicitDefEqProofs [h1', h2']; first | exact ⟨rfl, rfl⟩ | exact rfl)))))
   refine Run.mv [] [(2, .bool (mayS lo hi))] [] (by rfl) (by decide) (by simp -implicitDefEqProofs [mayS, h1, h2]) (by simp -implicitDefEqProofs [mayS, h1, h2]) ?_
   refine Run.retI Tryz.func147 r147_ok trivial (by simp -implicitDefEqProofs [r147]; rfl) (by simp ) ?_ (by simp -implicitDefEqProofs ) (by simp -implicitDefEqProofs )
   simp
 ·have h1' : ¬ (lo.length : Int) ≤ 64 := by omega
  (repeat (first | refine Run.adm rfl ?_ | refine Run.seq ?_ | ((first | apply Run.opS rfl | apply Run.condS); (· (simp -implicitDefEqProofs [h1']; first | exact ⟨rfl, rfl⟩ | exact rfl)))))
  refine Run.mv [] [(2, .bool (mayS lo hi))] [] (by rfl) (by decide) (by simp -implicitDefEqProofs [mayS, h1]) (by simp -implicitDefEqProofs [mayS, h1]) ?_
  refine Run.retI Tryz.func147 r147_ok trivial (by simp -implicitDefEqProofs [r147]; rfl) (by simp ) ?_ (by simp -implicitDefEqProofs ) (by simp -implicitDefEqProofs )
  simp
theorem key_at (s : Bs) (H : List O) : Tri Tryz.prog 102 [.str s] H (fun v H' => v = .bool (keyB s) ∧ H' = H) := by
 refine Tri.at (v0 := .bool (keyB s)) ?_ rfl rfl H
 refine Tri.of_run' Tryz.func102 rfl c102_ok (by simp [Tryz.ntmps102]) ?_
 have hc : decide ((s.length : Int) ≤ 64) = decide (s.length ≤ 64) := by simp; omega
 by_cases h : s = []
 ·(repeat (first | refine Run.adm rfl ?_ | refine Run.seq ?_ | ((first | apply Run.opS rfl | apply Run.condS); (· (simp -implicitDefEqProofs [h]; first | exact ⟨rfl, rfl⟩ | exact rfl)))))
  refine Run.retI Tryz.func102 r102_ok trivial (by simp -implicitDefEqProofs [r102, h]; rfl) (by simp [h]) ?_ (by simp -implicitDefEqProofs [h]) (by simp -implicitDefEqProofs [h])
  simp [keyB, h]
 ·(repeat (first | refine Run.adm rfl ?_ | refine Run.seq ?_ | ((first | apply Run.opS rfl | apply Run.condS); (· (simp -implicitDefEqProofs [h, hc]; first | exact ⟨rfl, rfl⟩ | exact rfl)))))
  refine Run.retI Tryz.func102 r102_ok trivial (by simp -implicitDefEqProofs [r102, h, hc]; rfl) (by simp [h, hc]) ?_ (by simp -implicitDefEqProofs [h, hc]) (by simp -implicitDefEqProofs [h, hc])
  simp [keyB, h]
theorem has_at (lo hi key : Bs) (H : List O) : Tri Tryz.prog 105 [.agg [.str lo, .str hi], .str key] H (fun v H' => v = .bool (hasS lo hi key) ∧ H' = H) := by
 refine Tri.at (v0 := .bool (hasS lo hi key)) ?_ rfl rfl H
 refine Tri.of_run' Tryz.func105 rfl c105_ok (by simp [Tryz.ntmps105]) ?_
 (repeat (first | refine Run.adm rfl ?_ | refine Run.seq ?_ | ((first | apply Run.opS rfl | apply Run.condS); (· (simp -implicitDefEqProofs; first | exact ⟨rfl, rfl⟩ | exact rfl)))))
 refine Run.opC rfl rfl rfl (smay_at lo hi _) ?_
 rintro v H' ⟨rfl, rfl⟩
 cases h1 : mayS lo hi
 ·(repeat (first | refine Run.adm rfl ?_ | refine Run.seq ?_ | ((first | apply Run.opS rfl | apply Run.condS); (· (simp -implicitDefEqProofs [h1]; first | exact ⟨rfl, rfl⟩ | exact rfl)))))
  refine Run.mv [] [(4, .bool (hasS lo hi key))] [] (by rfl) (by decide) (by simp -implicitDefEqProofs [hasS, h1]) (by simp -implicitDefEqProofs [hasS, h1]) ?_
  refine Run.retI Tryz.func105 r105_ok trivial (by simp -implicitDefEqProofs [r105]; rfl) (by simp ) ?_ (by simp -implicitDefEqProofs ) (by simp -implicitDefEqProofs )
  simp
 (repeat (first | refine Run.adm rfl ?_ | refine Run.seq ?_ | ((first | apply Run.opS rfl | apply Run.condS); (· (simp -implicitDefEqProofs [h1]; first | exact ⟨rfl, rfl⟩ | exact rfl)))))
 refine Run.opC rfl (by simp) rfl (key_at key _) ?_
 rintro v H' ⟨rfl, rfl⟩
 cases h2 : keyB key
 ·(repeat (first | refine Run.adm rfl ?_ | refine Run.seq ?_ | ((first | apply Run.opS rfl | apply Run.condS); (· (simp -implicitDefEqProofs [h2]; first | exact ⟨rfl, rfl⟩ | exact rfl)))))
  refine Run.mv [] [(4, .bool (hasS lo hi key))] [] (by rfl) (by decide) (by simp -implicitDefEqProofs [hasS, h1, h2]) (by simp -implicitDefEqProofs [hasS, h1, h2]) ?_
  refine Run.retI Tryz.func105 r105_ok trivial (by simp -implicitDefEqProofs [r105]; rfl) (by simp ) ?_ (by simp -implicitDefEqProofs ) (by simp -implicitDefEqProofs )
  simp
 cases h3 : (Op.bytesLess lo key || decide (lo = key))
 rotate_left
 ·(repeat (first | refine Run.adm rfl ?_ | refine Run.seq ?_ | ((first | apply Run.opS rfl | apply Run.condS); (· (simp -implicitDefEqProofs [h2, h3]; first | exact ⟨rfl, rfl⟩ | exact rfl)))))
  refine Run.opC rfl (by simp) rfl (ahead_at key hi _) ?_
  rintro v H' ⟨rfl, rfl⟩
  (repeat (first | refine Run.adm rfl ?_ | refine Run.seq ?_ | ((first | apply Run.opS rfl | apply Run.condS); (· (simp -implicitDefEqProofs; first | exact ⟨rfl, rfl⟩ | exact rfl)))))
  refine Run.mv [] [(4, .bool (hasS lo hi key))] [] (by rfl) (by decide) (by simp -implicitDefEqProofs [hasS, h1, h2, h3]) (by simp -implicitDefEqProofs [hasS, h1, h2, h3]) ?_
  refine Run.retI Tryz.func105 r105_ok trivial (by simp -implicitDefEqProofs [r105]; rfl) (by simp ) ?_ (by simp -implicitDefEqProofs ) (by simp -implicitDefEqProofs )
  simp
 ·(repeat (first | refine Run.adm rfl ?_ | refine Run.seq ?_ | ((first | apply Run.opS rfl | apply Run.condS); (· (simp -implicitDefEqProofs [h2, h3]; first | exact ⟨rfl, rfl⟩ | exact rfl)))))
  refine Run.mv [] [(4, .bool (hasS lo hi key))] [] (by rfl) (by decide) (by simp -implicitDefEqProofs [hasS, h1, h2, h3]) (by simp -implicitDefEqProofs [hasS, h1, h2, h3]) ?_
  refine Run.retI Tryz.func105 r105_ok trivial (by simp -implicitDefEqProofs [r105]; rfl) (by simp ) ?_ (by simp -implicitDefEqProofs ) (by simp -implicitDefEqProofs )
  simp
def idxI (p : ShM → Bool) (l : List ShM) : Int := match l.findIdx? p with | some i => (i : Nat) | none => -1
theorem encSh_ren (ρ) (x : ShM) : V.renL ρ (encSh x) = encSh x := rfl
theorem encSh_ones (x : ShM) : V.ones (encSh x) = true := rfl
theorem encSh_len (x : ShM) : (encSh x).length = 6 := rfl
attribute [local simp] encSh_ren encSh_ones encSh_len
theorem idx_tri {f : Nat} {cv : V} {p : ShM → Bool} (hp : cv.pure = true) (hf : ∀ x, Tri Tryz.prog f [.agg (encSh x), .ptr 0 0] [.row [cv]] (fun v H => v = .bool (p x) ∧ H = [.row [cv]])) (l : List ShM) (hl : l.length ≤ 1000000) :
  Tri Tryz.prog 103 [.vs (l.map encSh) 6, .fn f [.ptr 0 0]] [.row [cv]] (fun v H => v = .int .i64 (idxI p l) ∧ H = [.row [cv]]) := by
 have hr : ∀ ρ, cv.ren ρ = cv := fun ρ => V.ren_pure ρ cv hp
 refine Tri.of_run' Tryz.func103 rfl c103_ok (by simp [Tryz.ntmps103]) ?_
 (repeat (first | refine Run.adm rfl ?_ | refine Run.seq ?_ | ((first | apply Run.opS rfl | apply Run.condS); (· (simp -implicitDefEqProofs; first | exact ⟨rfl, rfl⟩ | exact rfl)))))
 refine Run.sl [(0, .vs (l.map encSh) 6), (1, .fn f [.ptr 0 0]), (7, .int .i64 l.length), (8, .int .i64 (0 : Nat))] (by simp) ?_
 refine Run.loopS (fun (i : Nat) => ([(0, .vs (l.map encSh) 6), (1, .fn f [.ptr 0 0]), (7, .int .i64 l.length), (8, .int .i64 i)], [.row [cv]])) (fun i => i ≤ l.length ∧ (l.take i).findIdx? p = none) (fun i => l.length - i) ?_ 0 ⟨Nat.zero_le _, rfl⟩
 rintro i ⟨hi, hno⟩ ih
 by_cases hlt : i < l.length
 ·obtain ⟨x, hx, hxi, -, -⟩ := getL hlt
  have hlt' : (i : Int) < l.length := by omega
  have hw := wrap_small (n := (i : Int) + 1) (by omega) (by omega)
  have hlen : ((l.map encSh).length : Int) = l.length := by simp
  have htk : (encSh x).take 6 = encSh x := rfl
  (repeat (first | refine Run.adm rfl ?_ | refine Run.seq ?_ | ((first | apply Run.opS rfl | apply Run.condS); (· (simp -implicitDefEqProofs [hlt, hlt', hx, hxi, htk]; first | exact ⟨rfl, rfl⟩ | exact rfl)))))
  refine Run.opC rfl rfl rfl (hf x) ?_
  rintro v H ⟨rfl, rfl⟩
  cases hpx : p x
  ·(repeat (first | refine Run.adm rfl ?_ | refine Run.seq ?_ | ((first | apply Run.opS rfl | apply Run.condS); (· (simp -implicitDefEqProofs [hpx]; first | exact ⟨rfl, rfl⟩ | exact rfl)))))
   refine Run.sl _ ?_ (ih (i + 1) ⟨by omega, ?_⟩ (by omega))
   ·simp [hw]
   ·rw [List.take_add_one, hx, List.findIdx?_append, hno]; simp [hpx]
  ·(repeat (first | refine Run.adm rfl ?_ | refine Run.seq ?_ | ((first | apply Run.opS rfl | apply Run.condS); (· (simp -implicitDefEqProofs [hpx]; first | exact ⟨rfl, rfl⟩ | exact rfl)))))
   refine Run.mv [0] [(4, .int .i64 (idxI p l))] [.row [cv]] (by rfl) (by decide) (by simp -implicitDefEqProofs [hr, show idxI p l = i from (by
    have : l.findIdx? p = some i := by
     have h1 : l = l.take i ++ x :: l.drop (i + 1) := by rw [← hxi, ← List.drop_eq_getElem_cons hlt, List.take_append_drop]
     rw [h1, List.findIdx?_append, hno]
     simp [hpx, List.findIdx?_cons]
     omega
    simp [idxI, this])]) (by simp -implicitDefEqProofs [hr, show idxI p l = i from (by
    have : l.findIdx? p = some i := by
     have h1 : l = l.take i ++ x :: l.drop (i + 1) := by rw [← hxi, ← List.drop_eq_getElem_cons hlt, List.take_append_drop]
     rw [h1, List.findIdx?_append, hno]
     simp [hpx, List.findIdx?_cons]
     omega
    simp [idxI, this])]) ?_
   refine Run.retI Tryz.func103 r103_ok trivial (by simp -implicitDefEqProofs [r103, hr]; rfl) (by simp [hr]) ?_ (by simp -implicitDefEqProofs [hr]) (by simp -implicitDefEqProofs [hr])
   simp
 ·have : i = l.length := by omega
  subst this
  rw [List.take_length] at hno
  (repeat (first | refine Run.adm rfl ?_ | refine Run.seq ?_ | ((first | apply Run.opS rfl | apply Run.condS); (· (simp -implicitDefEqProofs; first | exact ⟨rfl, rfl⟩ | exact rfl)))))
  refine Run.mv [0] [(4, .int .i64 (idxI p l))] [.row [cv]] (by rfl) (by decide) (by simp -implicitDefEqProofs [hr, show idxI p l = -1 by simp [idxI, hno]]) (by simp -implicitDefEqProofs [hr, show idxI p l = -1 by simp [idxI, hno]]) ?_
  refine Run.retI Tryz.func103 r103_ok trivial (by simp -implicitDefEqProofs [r103, hr]; rfl) (by simp [hr]) ?_ (by simp -implicitDefEqProofs [hr]) (by simp -implicitDefEqProofs [hr])
  simp
attribute [local simp ↓] upd_app tl_cons tl_nil
structure DSt where
 m : List ShM
 move : Int
 epoch : Int
 next : Int
 kind : Int
 phase : Int
 shard : Int
 other : Int
 node : Int
def encD (s : DSt) : List V := [.vs (s.m.map encSh) 6, .int .i64 s.move, .int .i64 s.epoch, .int .i64 s.next, .int .i64 s.kind, .int .i64 s.phase, .int .i64 s.shard, .int .i64 s.other, .int .i64 s.node]
theorem encD_ones (s : DSt) : V.ones (encD s) = true := rfl
theorem encD_len (s : DSt) : (encD s).length = 9 := rfl
theorem encD_ren (ρ) (s : DSt) : V.renL ρ (encD s) = encD s := rfl
attribute [local simp] encD_ones encD_ren
def opZ (kind lim : Int) : OpM := ⟨kind, [], [], [], false, [], [], [], lim⟩
def rpZ : RpM := ⟨0, [], false, [], []⟩
def mapMsg (s : DSt) : MsgM := ⟨4, s.shard, s.other, s.epoch, s.node, s.next, s.move, false, opZ s.kind s.phase, rpZ, s.m, [], []⟩
def textD (s : DSt) : Bs := (putM (mapMsg s)).1
theorem mapMsg_plain (s : DSt) : Plain (mapMsg s) := ⟨rfl, rfl, rfl, rfl⟩
structure TxtOk (s : DSt) : Prop where
 v : msgV (mapMsg s) = true
 len : (msgB (mapMsg s)).length ≤ 100000
theorem TxtOk.text {s : DSt} (h : TxtOk s) : textD s = sealB (msgB (mapMsg s)) := by
 have := h.len
 simp only [textD, putM]; rw [if_pos ⟨h.v, by omega⟩]
theorem TxtOk.tlen {s : DSt} (h : TxtOk s) : (textD s).length ≤ 100004 := by rw [h.text, sealB_len]; have := h.len; omega
theorem text_at (s : DSt) (h : TxtOk s) (H : List O) : Tri Tryz.prog 91 [.agg (encD s)] H (fun v H' => v = .str (textD s) ∧ H' = H) := by
 refine Tri.at (v0 := .str (textD s)) ?_ rfl rfl H
 have hl := h.len
 refine Tri.of_run' Tryz.func91 rfl c91_ok (by simp [Tryz.ntmps91]) ?_
 (repeat (first | refine Run.adm rfl ?_ | refine Run.seq ?_ | ((first | apply Run.opS rfl | apply Run.condS); (· (simp -implicitDefEqProofs [encD]; first | exact ⟨rfl, rfl⟩ | exact rfl)))))
 refine Run.opC rfl rfl rfl (Tri.args (show VsLe [V.agg (inMsg (mapMsg s) (.vs (s.m.map encSh) 6))] [.agg (encMsg (mapMsg s))] from ⟨VLe.agg (inMsg_le _ (mapMsg_plain s) (VLe.refl _)), trivial⟩) (pput_at (mapMsg s) (by omega) _)) ?_
 rintro v H' ⟨rfl, rfl⟩
 (repeat (first | refine Run.adm rfl ?_ | refine Run.seq ?_ | ((first | apply Run.opS rfl | apply Run.condS); (· (simp -implicitDefEqProofs; first | exact ⟨rfl, rfl⟩ | exact rfl)))))
 refine Run.mv [] [(2, .str (textD s))] [] (by rfl) (by decide) (by simp -implicitDefEqProofs [textD]) (by simp -implicitDefEqProofs [textD]) ?_
 refine Run.retI Tryz.func91 r91_ok trivial (by simp -implicitDefEqProofs [r91]; rfl) (by simp ) ?_ (by simp -implicitDefEqProofs ) (by simp -implicitDefEqProofs )
 simp
def beginsD (s : DSt) : DSt := { s with move := s.move + 2, epoch := s.epoch + 1, next := s.next + 2, phase := 1 }
def overD (s : DSt) : DSt := { s with kind := 0, phase := 0, shard := 0, other := 0, node := 0 }
theorem begins_at (s : DSt) (h : 0 ≤ s.move ∧ s.move ≤ 1000000 ∧ 0 ≤ s.epoch ∧ s.epoch ≤ 1000000 ∧ 0 ≤ s.next ∧ s.next ≤ 1000000) (H : List O) : Tri Tryz.prog 49 [.agg (encD s)] H (fun v H' => v = .agg (encD (beginsD s)) ∧ H' = H) := by
 refine Tri.at (v0 := .agg (encD (beginsD s))) ?_ rfl rfl H
 have w1 := wrap_small (n := s.move + 2) (by omega) (by omega)
 have w2 := wrap_small (n := s.epoch + 1) (by omega) (by omega)
 have w3 := wrap_small (n := s.next + 2) (by omega) (by omega)
 refine Tri.of_run' Tryz.func49 rfl c49_ok (by simp [Tryz.ntmps49]) ?_
 (repeat (first | refine Run.adm rfl ?_ | refine Run.seq ?_ | ((first | apply Run.opS rfl | apply Run.condS); (· (simp -implicitDefEqProofs [encD, w1, w2, w3]; first | exact ⟨rfl, rfl⟩ | exact rfl)))))
 refine Run.ret Tryz.func49 r49_ok trivial (by simp -implicitDefEqProofs [r49, encD, beginsD]; rfl) (fun _ => none) (v' := .agg (encD (beginsD s))) (h' := []) (namesN _) (by simp [encD, beginsD]) ⟨rfl, rfl⟩ trivial
theorem over_at (s : DSt) (H : List O) : Tri Tryz.prog 96 [.agg (encD s)] H (fun v H' => v = .agg (encD (overD s)) ∧ H' = H) := by
 refine Tri.at (v0 := .agg (encD (overD s))) ?_ rfl rfl H
 refine Tri.of_run' Tryz.func96 rfl c96_ok (by simp [Tryz.ntmps96]) ?_
 (repeat (first | refine Run.adm rfl ?_ | refine Run.seq ?_ | ((first | apply Run.opS rfl | apply Run.condS); (· (simp -implicitDefEqProofs [encD]; first | exact ⟨rfl, rfl⟩ | exact rfl)))))
 refine Run.ret Tryz.func96 r96_ok trivial (by simp -implicitDefEqProofs [r96, encD, overD]; rfl) (fun _ => none) (v' := .agg (encD (overD s))) (h' := []) (namesN _) (by simp [encD, overD]) ⟨rfl, rfl⟩ trivial
def sameD (s t : DSt) : Bool := decide (s.kind = t.kind) && decide (s.phase = t.phase) && decide (s.shard = t.shard) && decide (s.other = t.other) && decide (s.node = t.node)
theorem dsame_at (s t : DSt) (H : List O) : Tri Tryz.prog 143 [.agg (encD s), .agg (encD t)] H (fun v H' => v = .bool (sameD s t) ∧ H' = H) := by
 refine Tri.at (v0 := .bool (sameD s t)) ?_ rfl rfl H
 refine Tri.of_run' Tryz.func143 rfl c143_ok (by simp [Tryz.ntmps143]) ?_
 by_cases a1 : s.kind = t.kind
 rotate_left
 ·(repeat (first | refine Run.adm rfl ?_ | refine Run.seq ?_ | ((first | apply Run.opS rfl | apply Run.condS); (· (simp -implicitDefEqProofs [encD, a1]; first | exact ⟨rfl, rfl⟩ | exact rfl))))); refine Run.ret Tryz.func143 r143_ok trivial (by simp -implicitDefEqProofs [r143, sameD, a1]; rfl) (fun _ => none) (v' := .bool (sameD s t)) (h' := []) (namesN _) (by simp [sameD, a1]) ⟨rfl, rfl⟩ trivial
 by_cases a2 : s.phase = t.phase
 rotate_left
 ·(repeat (first | refine Run.adm rfl ?_ | refine Run.seq ?_ | ((first | apply Run.opS rfl | apply Run.condS); (· (simp -implicitDefEqProofs [encD, a1, a2]; first | exact ⟨rfl, rfl⟩ | exact rfl))))); refine Run.ret Tryz.func143 r143_ok trivial (by simp -implicitDefEqProofs [r143, sameD, a1, a2]; rfl) (fun _ => none) (v' := .bool (sameD s t)) (h' := []) (namesN _) (by simp [sameD, a1, a2]) ⟨rfl, rfl⟩ trivial
 by_cases a3 : s.shard = t.shard
 rotate_left
 ·(repeat (first | refine Run.adm rfl ?_ | refine Run.seq ?_ | ((first | apply Run.opS rfl | apply Run.condS); (· (simp -implicitDefEqProofs [encD, a1, a2, a3]; first | exact ⟨rfl, rfl⟩ | exact rfl))))); refine Run.ret Tryz.func143 r143_ok trivial (by simp -implicitDefEqProofs [r143, sameD, a1, a2, a3]; rfl) (fun _ => none) (v' := .bool (sameD s t)) (h' := []) (namesN _) (by simp [sameD, a1, a2, a3]) ⟨rfl, rfl⟩ trivial
 by_cases a4 : s.other = t.other
 rotate_left
 ·(repeat (first | refine Run.adm rfl ?_ | refine Run.seq ?_ | ((first | apply Run.opS rfl | apply Run.condS); (· (simp -implicitDefEqProofs [encD, a1, a2, a3, a4]; first | exact ⟨rfl, rfl⟩ | exact rfl))))); refine Run.ret Tryz.func143 r143_ok trivial (by simp -implicitDefEqProofs [r143, sameD, a1, a2, a3, a4]; rfl) (fun _ => none) (v' := .bool (sameD s t)) (h' := []) (namesN _) (by simp [sameD, a1, a2, a3, a4]) ⟨rfl, rfl⟩ trivial
 by_cases a5 : s.node = t.node
 rotate_left
 ·(repeat (first | refine Run.adm rfl ?_ | refine Run.seq ?_ | ((first | apply Run.opS rfl | apply Run.condS); (· (simp -implicitDefEqProofs [encD, a1, a2, a3, a4, a5]; first | exact ⟨rfl, rfl⟩ | exact rfl))))); refine Run.ret Tryz.func143 r143_ok trivial (by simp -implicitDefEqProofs [r143, sameD, a1, a2, a3, a4, a5]; rfl) (fun _ => none) (v' := .bool (sameD s t)) (h' := []) (namesN _) (by simp [sameD, a1, a2, a3, a4, a5]) ⟨rfl, rfl⟩ trivial
 (repeat (first | refine Run.adm rfl ?_ | refine Run.seq ?_ | ((first | apply Run.opS rfl | apply Run.condS); (· (simp -implicitDefEqProofs [encD, a1, a2, a3, a4, a5]; first | exact ⟨rfl, rfl⟩ | exact rfl))))); refine Run.ret Tryz.func143 r143_ok trivial (by simp -implicitDefEqProofs [r143, sameD, a1, a2, a3, a4, a5]; rfl) (fun _ => none) (v' := .bool (sameD s t)) (h' := []) (namesN _) (by simp [sameD, a1, a2, a3, a4, a5]) ⟨rfl, rfl⟩ trivial
theorem find_at (s : DSt) (id : Int) (hl : s.m.length ≤ 1000) (H : List O) : Tri Tryz.prog 94 [.agg (encD s), .int .i64 id] H (fun v H' => v = .int .i64 (idxI (fun x => decide (x.id = id)) s.m) ∧ H' = H) := by
 refine Tri.at (v0 := .int .i64 (idxI (fun x => decide (x.id = id)) s.m)) ?_ rfl rfl H
 have hf : ∀ x, Tri Tryz.prog 144 [.agg (encSh x), .ptr 0 0] [.row [.int .i64 id]] (fun v H => v = .bool (decide (x.id = id)) ∧ H = [.row [.int .i64 id]]) := by
  intro x
  refine Tri.of_run' Tryz.func144 rfl c144_ok (by simp [Tryz.ntmps144]) ?_
  (repeat (first | refine Run.adm rfl ?_ | refine Run.seq ?_ | ((first | apply Run.opS rfl | apply Run.condS); (· (simp -implicitDefEqProofs [encSh]; first | exact ⟨rfl, rfl⟩ | exact rfl)))))
  refine Run.mv [0] [(3, .bool (decide (x.id = id)))] [.row [.int .i64 id]] (by rfl) (by decide) (by simp -implicitDefEqProofs) (by simp -implicitDefEqProofs) ?_
  refine Run.retI Tryz.func144 r144_ok trivial (by simp -implicitDefEqProofs [r144]; rfl) (by simp ) ?_ (by simp -implicitDefEqProofs ) (by simp -implicitDefEqProofs )
  simp
 show Tri Tryz.prog 94 _ _ _
 refine Tri.of_run' Tryz.func94 rfl c94_ok (by simp [Tryz.ntmps94]) ?_
 (repeat (first | refine Run.adm rfl ?_ | refine Run.seq ?_ | ((first | apply Run.opS rfl | apply Run.condS); (· (simp -implicitDefEqProofs [encD]; first | exact ⟨rfl, rfl⟩ | exact rfl)))))
 refine Run.opF [1] (idx_tri rfl hf s.m (by omega)) rfl (by simp -implicitDefEqProofs) rfl (by simp -implicitDefEqProofs) (by decide) (by rfl) (by simp -implicitDefEqProofs) ?_
 rintro v0 Hs ⟨rfl, rfl⟩
 (repeat (first | refine Run.adm rfl ?_ | refine Run.seq ?_ | ((first | apply Run.opS rfl | apply Run.condS); (· (simp -implicitDefEqProofs; first | exact ⟨rfl, rfl⟩ | exact rfl)))))
 refine Run.ret Tryz.func94 r94_ok trivial (by simp -implicitDefEqProofs [r94]; rfl) (fun _ => none) (v' := .int .i64 (idxI (fun x => decide (x.id = id)) s.m)) (h' := []) (namesN _) (by simp) ⟨rfl, rfl⟩ trivial
def freshD (s : DSt) : List ShM := if s.kind = 5 then [⟨s.next - 2, [], [], s.epoch, 0, 0⟩, ⟨s.next - 1, [], [], s.epoch, 0, 0⟩] else [⟨s.next - 2, [], [], s.epoch, 0, 0⟩]
theorem fresh_at (s : DSt) (h : 0 ≤ s.next ∧ s.next ≤ 1000000) (H : List O) : Tri Tryz.prog 99 [.agg (encD s)] H (fun v H' => (∃ id, H.length ≤ id ∧ v = .sl id 0 (freshD s).length 6 (some (freshD s).length) ∧ H'[id]? = some (.arr ((freshD s).map encSh) 6)) ∧ Kept H H' []) := by
 have w1 := wrap_small (n := s.next - 2) (by omega) (by omega)
 have w2 := wrap_small (n := s.next - 1) (by omega) (by omega)
 refine Tri.of_run' Tryz.func99 rfl c99_ok (by simp [Tryz.ntmps99]) ?_
 by_cases hk : s.kind = 5
 ·(repeat (first | refine Run.adm rfl ?_ | refine Run.seq ?_ | ((first | apply Run.opS rfl | apply Run.condS); (· (simp -implicitDefEqProofs [encD, hk, w1, w2]; first | exact ⟨rfl, rfl⟩ | exact rfl)))))
  refine Run.retS Tryz.func99 r99_ok trivial (by simp [r99]; rfl) ?_
  exact ⟨⟨H.length + 2, by omega, by simp [freshD, hk], by simp [freshD, hk, encSh]⟩, (Kept.refl H []).app _⟩
 ·(repeat (first | refine Run.adm rfl ?_ | refine Run.seq ?_ | ((first | apply Run.opS rfl | apply Run.condS); (· (simp -implicitDefEqProofs [encD, hk, w1, w2]; first | exact ⟨rfl, rfl⟩ | exact rfl)))))
  refine Run.retS Tryz.func99 r99_ok trivial (by simp [r99]; rfl) ?_
  exact ⟨⟨H.length + 2, by omega, by simp [freshD, hk], by simp [freshD, hk, encSh]⟩, (Kept.refl H []).app _⟩
attribute [local simp ↓] upd_app tl_cons tl_nil
def encSp (x : ShM) : List V := [.str x.lo, .str x.hi]
def covGo : List ShM → Bs → Bool → Bool
 | [], _, over => over
 | x :: r, lo, over => if mayS x.lo x.hi = true ∧ over = false ∧ x.lo = lo then covGo r x.hi (decide (x.hi = [])) else false
theorem covers_at (l : List ShM) (hl : l.length ≤ 100000) (H : List O) : Tri Tryz.prog 142 [.vs (l.map encSp) 2] H (fun v H' => v = .bool (covGo l [] false) ∧ H' = H) := by
 refine Tri.at (v0 := .bool (covGo l [] false)) ?_ rfl rfl H
 refine Tri.of_run' Tryz.func142 rfl c142_ok (by simp [Tryz.ntmps142]) ?_
 (repeat (first | refine Run.adm rfl ?_ | refine Run.seq ?_ | ((first | apply Run.opS rfl | apply Run.condS); (· (simp -implicitDefEqProofs; first | exact ⟨rfl, rfl⟩ | exact rfl)))))
 refine Run.loopC [] (fun (x : Nat × Bs × Bool) => ([(7, .vs (l.map encSp) 2), (8, .int .i64 l.length), (9, .int .i64 x.1), (3, .str x.2.1), (4, .bool x.2.2)], [])) (fun x => x.1 ≤ l.length ∧ covGo l [] false = covGo (l.drop x.1) x.2.1 x.2.2) (fun x => l.length - x.1) (0, [], false) ⟨Nat.zero_le _, rfl⟩ (by rfl) (by decide) (by simp) (by simp) ?_
 rintro ⟨i, lo, over⟩ ⟨hi, hg⟩ ih
 simp only at hi hg ih ⊢
 by_cases hlt : i < l.length
 ·obtain ⟨x, hx, hxi, hxd, -⟩ := getL hlt
  have hlt' : (i : Int) < l.length := by omega
  have hw := wrap_small (n := (i : Int) + 1) (by omega) (by omega)
  rw [hxd, covGo] at hg
  (repeat (first | refine Run.adm rfl ?_ | refine Run.seq ?_ | ((first | apply Run.opS rfl | apply Run.condS); (· (simp -implicitDefEqProofs [hlt, hlt', hx, hxi, encSp]; first | exact ⟨rfl, rfl⟩ | exact rfl)))))
  refine Run.opC rfl rfl rfl (smay_at x.lo x.hi _) ?_
  rintro v H' ⟨rfl, rfl⟩
  by_cases h1 : mayS x.lo x.hi = true
  rotate_left
  ·(repeat (first | refine Run.adm rfl ?_ | refine Run.seq ?_ | ((first | apply Run.opS rfl | apply Run.condS); (· (simp -implicitDefEqProofs [h1]; first | exact ⟨rfl, rfl⟩ | exact rfl)))))
   refine Run.mv [] [(2, .bool (covGo l [] false))] [] (by rfl) (by decide) (by simp -implicitDefEqProofs [show covGo l [] false = false by rw [hg, if_neg (fun h => h1 h.1)]]) (by simp -implicitDefEqProofs [show covGo l [] false = false by rw [hg, if_neg (fun h => h1 h.1)]]) ?_
   refine Run.retI Tryz.func142 r142_ok trivial (by simp -implicitDefEqProofs [r142]; rfl) (by simp ) ?_ (by simp -implicitDefEqProofs ) (by simp -implicitDefEqProofs )
   simp
  by_cases h2 : over = false
  rotate_left
  ·(repeat (first | refine Run.adm rfl ?_ | refine Run.seq ?_ | ((first | apply Run.opS rfl | apply Run.condS); (· (simp -implicitDefEqProofs [h1, h2]; first | exact ⟨rfl, rfl⟩ | exact rfl)))))
   refine Run.mv [] [(2, .bool (covGo l [] false))] [] (by rfl) (by decide) (by simp -implicitDefEqProofs [show covGo l [] false = false by rw [hg, if_neg (fun h => h2 h.2.1)]]) (by simp -implicitDefEqProofs [show covGo l [] false = false by rw [hg, if_neg (fun h => h2 h.2.1)]]) ?_
   refine Run.retI Tryz.func142 r142_ok trivial (by simp -implicitDefEqProofs [r142]; rfl) (by simp ) ?_ (by simp -implicitDefEqProofs ) (by simp -implicitDefEqProofs )
   simp
  by_cases h3 : x.lo = lo
  rotate_left
  ·(repeat (first | refine Run.adm rfl ?_ | refine Run.seq ?_ | ((first | apply Run.opS rfl | apply Run.condS); (· (simp -implicitDefEqProofs [h1, h2, h3]; first | exact ⟨rfl, rfl⟩ | exact rfl)))))
   refine Run.mv [] [(2, .bool (covGo l [] false))] [] (by rfl) (by decide) (by simp -implicitDefEqProofs [show covGo l [] false = false by rw [hg, if_neg (fun h => h3 h.2.2)]]) (by simp -implicitDefEqProofs [show covGo l [] false = false by rw [hg, if_neg (fun h => h3 h.2.2)]]) ?_
   refine Run.retI Tryz.func142 r142_ok trivial (by simp -implicitDefEqProofs [r142]; rfl) (by simp ) ?_ (by simp -implicitDefEqProofs ) (by simp -implicitDefEqProofs )
   simp
  subst h3
  (repeat (first | refine Run.adm rfl ?_ | refine Run.seq ?_ | ((first | apply Run.opS rfl | apply Run.condS); (· (simp -implicitDefEqProofs [h1, h2]; first | exact ⟨rfl, rfl⟩ | exact rfl)))))
  refine Run.quietM prog_mixed (by kernel_rfl) [] [(3, .str x.hi), (4, .bool (decide (x.hi = []))), (7, .vs (l.map encSp) 2), (8, .int .i64 l.length), (9, .int .i64 i)] [] (by rfl) (by decide) ?_ ?_
  ·(repeat (first | refine execQ_E rfl ?_ | (apply execQ_S rfl; (· (simp -implicitDefEqProofs; exact ⟨rfl, rfl⟩)))))
   simp
  (repeat (first | refine Run.adm rfl ?_ | refine Run.seq ?_ | ((first | apply Run.opS rfl | apply Run.condS); (· (simp -implicitDefEqProofs; first | exact ⟨rfl, rfl⟩ | exact rfl)))))
  refine Run.mv [] _ _ (by rfl) (by decide) (by simp -implicitDefEqProofs [hw]) (by simp -implicitDefEqProofs [hw]) (ih ((i + 1, x.hi, decide (x.hi = []))) ?_ ?_)
  ·exact ⟨by simp only; omega, by simp only; rw [hg, if_pos ⟨h1, h2, rfl⟩]⟩
  ·simp only; omega
 ·have : i = l.length := by omega
  subst this
  rw [List.drop_length, covGo] at hg
  (repeat (first | refine Run.adm rfl ?_ | refine Run.seq ?_ | ((first | apply Run.opS rfl | apply Run.condS); (· (simp -implicitDefEqProofs; first | exact ⟨rfl, rfl⟩ | exact rfl)))))
  refine Run.mv [] [(2, .bool (covGo l [] false))] [] (by rfl) (by decide) (by simp -implicitDefEqProofs [hg]) (by simp -implicitDefEqProofs [hg]) ?_
  refine Run.retI Tryz.func142 r142_ok trivial (by simp -implicitDefEqProofs [r142]; rfl) (by simp ) ?_ (by simp -implicitDefEqProofs ) (by simp -implicitDefEqProofs )
  simp
def nodeOk (nodes : Int) (x : ShM) : Bool := decide (0 ≤ x.node) && decide (x.node < nodes) && decide (x.st = 2)
theorem dcovers_at (l : List ShM) (nodes : Int) (hl : l.length ≤ 1000) (hn : l.all (nodeOk nodes) = true) (H : List O) : Tri Tryz.prog 92 [.vs (l.map encSh) 6, .int .i64 nodes] H (fun v H' => v = .bool (covGo l [] false) ∧ H' = H) := by
 refine Tri.at (v0 := .bool (covGo l [] false)) ?_ rfl rfl H
 refine Tri.of_run' Tryz.func92 rfl c92_ok (by simp [Tryz.ntmps92]) ?_
 (repeat (first | refine Run.adm rfl ?_ | refine Run.seq ?_ | ((first | apply Run.opS rfl | apply Run.condS); (· (simp -implicitDefEqProofs; first | exact ⟨rfl, rfl⟩ | exact rfl)))))
 refine Run.nilA 5 2 (by simp) ?_
 refine Run.loopC [0] (fun (i : Nat) => ([(1, .int .i64 nodes), (5, .sl 0 0 i 2 none), (8, .vs (l.map encSh) 6), (9, .int .i64 l.length), (10, .int .i64 i)], [.arr ((l.take i).map encSp) 2])) (fun i => i ≤ l.length) (fun i => l.length - i) 0 (Nat.zero_le _) (by rfl) (by decide) (by simp) (by simp) ?_
 intro i hi ih
 by_cases hlt : i < l.length
 ·obtain ⟨x, hx, hxi, hxd, hxm⟩ := getL hlt
  have hlt' : (i : Int) < l.length := by omega
  have hw := wrap_small (n := (i : Int) + 1) (by omega) (by omega)
  have hno := List.all_eq_true.1 hn x hxm
  simp only [nodeOk, Bool.and_eq_true, decide_eq_true_eq] at hno
  obtain ⟨⟨n1, n2⟩, n3⟩ := hno
  have n1' : ¬ x.node < 0 := by omega
  have n2' : ¬ nodes ≤ x.node := by omega
  have hbb : (i + 1) * 32 ≤ 70368744177664 := by omega
  have hmn : min i l.length = i := by omega
  (repeat (first | refine Run.adm rfl ?_ | refine Run.seq ?_ | ((first | apply Run.opS rfl | apply Run.condS); (· (simp -implicitDefEqProofs [hlt, hlt', hx, hxi, encSh, n1', n2', n3, hbb, hmn]; first | exact ⟨rfl, rfl⟩ | exact rfl)))))
  refine Run.mv [3] _ _ (by rfl) (by decide) (by simp -implicitDefEqProofs [hw, encSp, List.take_add_one, hx]) (by simp -implicitDefEqProofs [hw, encSp, List.take_add_one, hx]) (ih (i + 1) ?_ ?_)
  ·omega
  ·omega
 ·have : i = l.length := by omega
  subst this
  (repeat (first | refine Run.adm rfl ?_ | refine Run.seq ?_ | ((first | apply Run.opS rfl | apply Run.condS); (· (simp -implicitDefEqProofs; first | exact ⟨rfl, rfl⟩ | exact rfl)))))
  refine Run.freeze 0 (es := l.map encSp) (sz := 2) (by simp) ?_
  (repeat (first | refine Run.adm rfl ?_ | refine Run.seq ?_ | ((first | apply Run.opS rfl | apply Run.condS); (· (simp -implicitDefEqProofs; first | exact ⟨rfl, rfl⟩ | exact rfl)))))
  refine Run.opC rfl rfl (by simp) (covers_at l (by omega) _) ?_
  rintro v H' ⟨rfl, rfl⟩
  (repeat (first | refine Run.adm rfl ?_ | refine Run.seq ?_ | ((first | apply Run.opS rfl | apply Run.condS); (· (simp -implicitDefEqProofs; first | exact ⟨rfl, rfl⟩ | exact rfl)))))
  refine Run.mv [] [(4, .bool (covGo l [] false))] [] (by rfl) (by decide) (by simp -implicitDefEqProofs) (by simp -implicitDefEqProofs) ?_
  refine Run.retI Tryz.func92 r92_ok trivial (by simp -implicitDefEqProofs [r92]; rfl) (by simp ) ?_ (by simp -implicitDefEqProofs ) (by simp -implicitDefEqProofs )
  simp
def FitOk (s : DSt) (nodes : Int) : Prop := (s.kind = 0 ∧ s.phase = 0 ∧ s.shard = 0 ∧ s.other = 0 ∧ s.node = 0) ∨ (s.kind = 7 ∧ s.phase = 3 ∧ s.other < nodes ∧ s.node < nodes) ∨
 ∃ (k : Nat) (x : ShM), idxI (fun y => decide (y.id = s.shard)) s.m = k ∧ s.m[k]? = some x ∧ 1 ≤ s.epoch ∧ 2 ≤ s.next ∧ ((s.kind = 5 ∧ s.phase = 1 ∧ s.other = 0 ∧ s.node = 0) ∨ (s.kind = 7 ∧ (s.phase = 1 ∨ s.phase = 2) ∧ s.node < nodes ∧ s.node ≠ s.other ∧ x.node = s.other))
theorem fits_at (s : DSt) (nodes : Int) (h : FitOk s nodes) (hl : s.m.length ≤ 1000) (H : List O) : Tri Tryz.prog 93 [.agg (encD s), .int .i64 nodes] H (fun v H' => v = .bool true ∧ H' = H) := by
 refine Tri.at (v0 := .bool true) ?_ rfl rfl H
 obtain ⟨m, mv, ep, nx, kd, ph, sh, ot, nd⟩ := s
 simp only at hl
 refine Tri.of_run' Tryz.func93 rfl c93_ok (by simp [Tryz.ntmps93]) ?_
 rcases h with ⟨k0, p0, s0, o0, n0⟩ | ⟨k0, p0, o0, n0⟩ | ⟨k, x, hk, hx, e0, x0, h⟩
 ·simp only at k0 p0 s0 o0 n0
  subst k0 p0 s0 o0 n0
  (repeat (first | refine Run.adm rfl ?_ | refine Run.seq ?_ | ((first | apply Run.opS rfl | apply Run.condS); (· (simp -implicitDefEqProofs [encD]; first | exact ⟨rfl, rfl⟩ | exact rfl)))))
  refine Run.quietM prog_mixed (by kernel_rfl) [] [(4, .bool true)] [] (by rfl) (by decide) ?_ ?_
  ·(repeat (first | refine execQ_E rfl ?_ | (apply execQ_S rfl; (· (simp -implicitDefEqProofs [encD]; exact ⟨rfl, rfl⟩)))))
   refine execQ_C rfl rfl rfl (over_at ⟨m, mv, ep, nx, 0, 0, 0, 0, 0⟩ _) ?_
   (repeat (first | refine execQ_E rfl ?_ | (apply execQ_S rfl; (· (simp -implicitDefEqProofs; exact ⟨rfl, rfl⟩)))))
   refine execQ_C rfl rfl rfl (dsame_at ⟨m, mv, ep, nx, 0, 0, 0, 0, 0⟩ (overD ⟨m, mv, ep, nx, 0, 0, 0, 0, 0⟩) _) ?_
   (repeat (first | refine execQ_E rfl ?_ | (apply execQ_S rfl; (· (simp -implicitDefEqProofs; exact ⟨rfl, rfl⟩)))))
   simp [sameD, overD]
  (repeat (first | refine Run.adm rfl ?_ | refine Run.seq ?_ | ((first | apply Run.opS rfl | apply Run.condS); (· (simp -implicitDefEqProofs; first | exact ⟨rfl, rfl⟩ | exact rfl)))))
  refine Run.retI Tryz.func93 r93_ok trivial (by simp -implicitDefEqProofs [r93]; rfl) (by simp ) ?_ (by simp -implicitDefEqProofs ) (by simp -implicitDefEqProofs )
  simp
 ·simp only at k0 p0 o0 n0
  subst k0 p0
  have hm2 : (if ot < nd then nd else ot) < nodes := by split <;> omega
  (repeat (first | refine Run.adm rfl ?_ | refine Run.seq ?_ | ((first | apply Run.opS rfl | apply Run.condS); (· (simp -implicitDefEqProofs [encD, hm2]; first | exact ⟨rfl, rfl⟩ | exact rfl)))))
  refine Run.mv [] [(4, .bool true)] [] (by rfl) (by decide) (by simp -implicitDefEqProofs) (by simp -implicitDefEqProofs) ?_
  refine Run.retI Tryz.func93 r93_ok trivial (by simp -implicitDefEqProofs [r93]; rfl) (by simp ) ?_ (by simp -implicitDefEqProofs ) (by simp -implicitDefEqProofs )
  simp
 ·simp only at hk hx e0 x0 h
  obtain ⟨hkl, -⟩ := List.getElem?_eq_some_iff.1 hx
  have hxi : m[k] = x := (List.getElem?_eq_some_iff.1 hx).2
  have hk0 : ¬ kd = 0 := by rcases h with ⟨h, -⟩ | ⟨h, -⟩ <;> omega
  have e1 : ¬ ep < 1 := by omega
  have x1 : ¬ nx < 2 := by omega
  have hkn : ¬ (k : Int) < 0 := by omega
  rcases h with ⟨h5, h1, h2, h3⟩ | ⟨h7, h1, h2, h3, h4⟩
  ·subst h5
   (repeat (first | refine Run.adm rfl ?_ | refine Run.seq ?_ | ((first | apply Run.opS rfl | apply Run.condS); (· (simp -implicitDefEqProofs [encD]; first | exact ⟨rfl, rfl⟩ | exact rfl)))))
   refine Run.opC rfl rfl rfl (find_at ⟨m, mv, ep, nx, _, ph, sh, ot, nd⟩ sh hl _) ?_
   rintro v H' ⟨rfl, rfl⟩
   (repeat (first | refine Run.adm rfl ?_ | refine Run.seq ?_ | ((first | apply Run.opS rfl | apply Run.condS); (· (simp -implicitDefEqProofs [hk, hkn, e1, x1, h1, h2, h3]; first | exact ⟨rfl, rfl⟩ | exact rfl)))))
   refine Run.mv [] [(4, .bool true)] [] (by rfl) (by decide) (by simp -implicitDefEqProofs) (by simp -implicitDefEqProofs) ?_
   refine Run.retI Tryz.func93 r93_ok trivial (by simp -implicitDefEqProofs [r93]; rfl) (by simp ) ?_ (by simp -implicitDefEqProofs ) (by simp -implicitDefEqProofs )
   simp
  ·have hp3 : ¬ ph = 3 := by omega
   have hkI : (k : Int) < m.length := by omega
   subst h7
   (repeat (first | refine Run.adm rfl ?_ | refine Run.seq ?_ | ((first | apply Run.opS rfl | apply Run.condS); (· (simp -implicitDefEqProofs [encD, hp3]; first | exact ⟨rfl, rfl⟩ | exact rfl)))))
   refine Run.opC rfl rfl rfl (find_at ⟨m, mv, ep, nx, _, ph, sh, ot, nd⟩ sh hl _) ?_
   rintro v H' ⟨rfl, rfl⟩
   (repeat (first | refine Run.adm rfl ?_ | refine Run.seq ?_ | ((first | apply Run.opS rfl | apply Run.condS); (· (simp -implicitDefEqProofs [hk, hkn, e1, x1]; first | exact ⟨rfl, rfl⟩ | exact rfl)))))
   refine Run.quietM prog_mixed (by kernel_rfl) [] [(4, .bool true)] [] (by rfl) (by decide) ?_ ?_
   ·rcases h1 with h1 | h1
    all_goals
     (repeat (first | refine execQ_E rfl ?_ | (apply execQ_S rfl; (· (simp -implicitDefEqProofs [h1, h2, h3, hx, hxi, hkl, hkI, encSh, h4, hk]; exact ⟨rfl, rfl⟩)))))
     simp [h4]
   (repeat (first | refine Run.adm rfl ?_ | refine Run.seq ?_ | ((first | apply Run.opS rfl | apply Run.condS); (· (simp -implicitDefEqProofs; first | exact ⟨rfl, rfl⟩ | exact rfl)))))
   refine Run.retI Tryz.func93 r93_ok trivial (by simp -implicitDefEqProofs [r93]; rfl) (by simp ) ?_ (by simp -implicitDefEqProofs ) (by simp -implicitDefEqProofs )
   simp
theorem encMap (s : DSt) : encMsg (mapMsg s) = [.int .i64 4, .int .i64 s.shard, .int .i64 s.other, .int .i64 s.epoch, .int .i64 s.node, .int .i64 s.next, .int .i64 s.move, .bool false, .int .i64 s.kind, .str [], .str [], .str [], .bool false, .vs [] 3, .str [], .str [], .int .i64 s.phase, .int .i64 0, .str [], .bool false, .vs [] 2, .str [], .vs (s.m.map encSh) 6, .vs [] 4, .vs [] 7] := rfl
theorem read_at (s : DSt) (nodes : Int) (h : TxtOk s) (hk : s.kind = 0 ∨ s.kind = 5 ∨ s.kind = 7) (hc : covGo s.m [] false = true) (hn : s.m.all (nodeOk nodes) = true) (hf : FitOk s nodes) (hl : s.m.length ≤ 1000) (H : List O) :
  Tri Tryz.prog 48 [.str (textD s), .int .i64 nodes] H (fun v H' => v = .tup [.agg (encD s), .bool true] ∧ H' = H) := by
 refine Tri.at (v0 := .tup [.agg (encD s), .bool true]) ?_ rfl rfl H
 have hlen := h.len
 have htx := fun H => text_at s h H
 have hcv := fun H => dcovers_at s.m nodes hl hn H
 have hft := fun H => fits_at s nodes hf hl H
 have htk := ptake_at (mapMsg s) (mapMsg_plain s) h.v (by omega)
 rw [← h.text, encMap] at htk
 obtain ⟨m, mv, ep, nx, kd, ph, sh, ot, nd⟩ := s
 simp only at hk hc htx hcv hft htk
 refine Tri.of_run' Tryz.func48 rfl c48_ok (by simp [Tryz.ntmps48]) ?_
 (repeat (first | refine Run.adm rfl ?_ | refine Run.seq ?_ | ((first | apply Run.opS rfl | apply Run.condS); (· (simp -implicitDefEqProofs; first | exact ⟨rfl, rfl⟩ | exact rfl)))))
 refine Run.opC rfl rfl rfl (htk _) ?_
 rintro v H' ⟨rfl, rfl⟩
 rcases hk with hk | hk | hk
 all_goals
  subst hk
  (repeat (first | refine Run.adm rfl ?_ | refine Run.seq ?_ | ((first | apply Run.opS rfl | apply Run.condS); (· (simp -implicitDefEqProofs; first | exact ⟨rfl, rfl⟩ | exact rfl)))))
  refine Run.opC rfl (by simp) rfl (htx _) ?_
  rintro v H' ⟨rfl, rfl⟩
  (repeat (first | refine Run.adm rfl ?_ | refine Run.seq ?_ | ((first | apply Run.opS rfl | apply Run.condS); (· (simp -implicitDefEqProofs; first | exact ⟨rfl, rfl⟩ | exact rfl)))))
  refine Run.opC rfl (by simp) rfl (hcv _) ?_
  rintro v H' ⟨rfl, rfl⟩
  (repeat (first | refine Run.adm rfl ?_ | refine Run.seq ?_ | ((first | apply Run.opS rfl | apply Run.condS); (· (simp -implicitDefEqProofs [hc]; first | exact ⟨rfl, rfl⟩ | exact rfl)))))
  refine Run.opC rfl (by simp) rfl (hft _) ?_
  rintro v H' ⟨rfl, rfl⟩
  (repeat (first | refine Run.adm rfl ?_ | refine Run.seq ?_ | ((first | apply Run.opS rfl | apply Run.condS); (· (simp -implicitDefEqProofs; first | exact ⟨rfl, rfl⟩ | exact rfl)))))
  refine Run.ret Tryz.func48 r48_ok trivial (by simp -implicitDefEqProofs [r48, encD]; rfl) (fun _ => none) (v' := .tup [.agg (encD ⟨m, mv, ep, nx, _, ph, sh, ot, nd⟩), .bool true]) (h' := []) (namesN _) (by simp [encD]) ⟨rfl, rfl⟩ trivial
attribute [local simp ↓] upd_app tl_cons tl_nil
theorem WalOwn.put {X : List O} {L : List Nat} {d : Nat} {D : Dk} {Y : List O} {lg n : Nat} {ts : List (Bs × Nat)} (h : WalOwn X L d D lg ts n Y) {i : Nat} (hi : i ∈ L) (o : O) : WalOwn X L d D lg ts n (Y.set i o) := by
 obtain ⟨a, ho, na, naL, nlL, g1, g2⟩ := h
 exact ⟨a, ho.put (by simp [hi]) o, na, naL, nlL, by rw [setN fun e => nlL (by rw [← e]; exact hi)]; exact g1, by rw [setN fun e => naL (by rw [← e]; exact hi)]; exact g2⟩
theorem WalOwn.more {X : List O} {L : List Nat} {d lg n : Nat} {D : Dk} {Y : List O} {ts : List (Bs × Nat)} (h : WalOwn X L d D lg ts n Y) (o : O) : WalOwn X (Y.length :: L) d D lg ts n (Y ++ [o]) := by
 obtain ⟨a, ho, na, naL, nlL, g1, g2⟩ := h
 have h1 := ho.lt (i := a) (by simp)
 have h2 := ho.lt (i := lg) (by simp)
 refine ⟨a, (ho.more [o] [Y.length] (by intro i hi; simp at hi; simp [hi])).sub fun i hi => ?_, na, fun hm => ?_, fun hm => ?_, getA g1 _, getA g2 _⟩
 ·simp only [List.mem_cons, List.mem_append, List.not_mem_nil, or_false] at hi ⊢
  rcases hi with hi | hi | hi | hi
  ·exact .inl (.inl hi)
  ·exact .inl (.inr (.inl hi))
  ·exact .inr hi
  ·exact .inl (.inr (.inr hi))
 ·rcases List.mem_cons.1 hm with hm | hm
  ·omega
  ·exact naL hm
 ·rcases List.mem_cons.1 hm with hm | hm
  ·omega
  ·exact nlL hm
theorem WalOwn.keep {X : List O} {L : List Nat} {d lg n : Nat} {D : Dk} {Y Z : List O} {ts : List (Bs × Nat)} (h : WalOwn X L d D lg ts n Y) (hk : Kept Y Z []) : WalOwn X L d D lg ts n Z ∧ StayL L Y Z := by
 obtain ⟨a, ho, na, naL, nlL, hlog⟩ := h
 obtain ⟨k1, k2⟩ := ho.keep hk
 exact ⟨⟨a, k1, na, naL, nlL, hlog.stay k2⟩, k2.tl.tl⟩
theorem above_last {A : List LF} {f : LF} (h : Ris (A ++ [f])) : aboveF (f.num : Int) (A ++ [f]) = [f] := by
 obtain ⟨m1, -⟩ := h.mid
 unfold aboveF
 rw [List.filter_append]
 have : A.filter (fun g => decide ((f.num : Int) ≤ (g.num : Int))) = [] := by
  rw [List.filter_eq_nil_iff]
  intro a ha
  have := m1 a ha
  simp; omega
 rw [this]
 simp
theorem Own.lts {X L d D Y} (h : Own X L d D Y) : ∀ i ∈ L, i < Y.length := fun _ hi => h.lt hi
section calm
variable {X : List O} {L : List Nat} {d lg n : Nat} {A fs : List LF} {f : LF} {Y : List O} {ts : List (Bs × Nat)}
theorem WalOwn.addC (h : WalOwn X L d (LD (A ++ [f]) (-1) false) lg ts f.num Y) (hR : Ris (A ++ [f])) (hl : ts.length ≤ 1000000000) (s : Bs) (hs : s.length ≤ 131072) (hb : f.bytes.length + (frmB s).length ≤ 4194304) :
  Tri Tryz.prog 79 [.ptr lg 0, .str s] Y (fun v Z => v = .int .i64 0 ∧ WalOwn X L d (LD (A ++ [⟨f.num, f.bytes ++ frmB s, f.sure⟩]) (-1) false) lg (ts ++ [(s, f.num)]) f.num Z ∧ StayL L Y Z) := by
 refine (h.add hR hl s hs hb).mono fun v Z hq => ?_
 rcases hq with ⟨e, -⟩ | ⟨-, g⟩
 ·exact absurd e (by simp)
 ·exact g
theorem WalOwn.flushC (h : WalOwn X L d (LD (A ++ [f]) (-1) false) lg ts f.num Y) (hR : Ris (A ++ [f])) :
  Tri Tryz.prog 81 [.ptr lg 0] Y (fun v Z => v = .int .i64 0 ∧ WalOwn X L d (LD (A ++ [⟨f.num, f.bytes, f.bytes.length⟩]) (-1) false) lg ts f.num Z ∧ StayL L Y Z) := by
 refine (h.flush hR).mono fun v Z hq => ?_
 rcases hq with ⟨e, -⟩ | ⟨-, g⟩
 ·exact absurd e (by simp)
 ·exact g
end calm
def encDir (lg : Nat) (nodes n : Int) (s : DSt) (kc ks w : V) : List V := .ptr lg 0 :: .int .i64 nodes :: .int .i64 n :: (encD s ++ [kc, ks, w])
theorem bigF_len (s : Bs) (h : s.length ≤ 100004) : (frmB s).length ≤ 100017 := by
 have h1 := fr_len s
 have h2 := vput_len9 (n := s.length) (by omega)
 omega
theorem dputs_tri {X : List O} {L : List Nat} {d dd lg : Nat} {A : List LF} {f : LF} {Z : List O} {ts : List (Bs × Nat)} {nodes n : Int} {s0 s : DSt} {kc ks w : V}
  (h : WalOwn X (dd :: L) d (LD (A ++ [f]) (-1) false) lg ts f.num Z) (hb : Z[dd]? = some (.row (encDir lg nodes n s0 kc ks w))) (hbL : dd ∉ L) (hR : Ris (A ++ [f])) (hl : ts.length ≤ 100000) (hs : TxtOk s) (hn : 0 ≤ n ∧ n ≤ 15) (hbb : f.bytes.length ≤ 2000000) :
  Tri Tryz.prog 50 [.ptr dd 0, .agg (encD s)] Z (fun v W => v = .int .i64 0 ∧ StayL L Z W ∧ W[dd]? = some (.row (encDir lg nodes (n + 1) s kc ks w)) ∧
   WalOwn X (dd :: L) d (LD (A ++ [⟨f.num, f.bytes ++ frmB (textD s), (f.bytes ++ frmB (textD s)).length⟩]) (-1) false) lg (ts ++ [(textD s, f.num)]) f.num W) := by
 have htl := hs.tlen
 have hfl := bigF_len _ htl
 have hw := wrap_small (n := n + 1) (by omega) (by omega)
 have hn16 : ¬ 16 ≤ n := by omega
 have hZ1 := h.more (.row (encD s))
 have hbl := lt_of_get hb
 have hLlt := h.disk.lts
 have b1 : (Z ++ [O.row (encD s)])[dd]? = some (.row (encDir lg nodes n s0 kc ks w)) := getA hb _
 have e1 : (Z ++ [O.row (encD s)])[Z.length]? = some (.row (encD s)) := by simp
 have st1 : StayL L Z (Z ++ [O.row (encD s)]) := fun i hi => List.getElem?_append_left (hLlt i (by simp [hi]))
 refine Tri.of_run' Tryz.func50 rfl c50_ok (by simp [Tryz.ntmps50]) ?_
 (repeat (first | refine Run.adm rfl ?_ | refine Run.seq ?_ | ((first | apply Run.opS rfl | apply Run.condS); (· (simp -implicitDefEqProofs; first | exact ⟨rfl, rfl⟩ | exact rfl)))))
 generalize hY : Z ++ [O.row (encD s)] = Y at *
 generalize Z.length = e at *
 have hed : e ≠ dd := by omega
 (repeat (first | refine Run.adm rfl ?_ | refine Run.seq ?_ | ((first | apply Run.opS rfl | apply Run.condS); (· (simp -implicitDefEqProofs [b1, encDir, hn16]; first | exact ⟨rfl, rfl⟩ | exact rfl)))))
 refine Run.qchain prog_mixed 6 (by kernel_rfl) ?_
 (repeat (first | refine execQ_E rfl ?_ | (apply execQ_S rfl; (· (simp -implicitDefEqProofs [b1, e1, encDir, encD_len, List.take_of_length_le (Nat.le_of_eq (encD_len s))]; exact ⟨rfl, rfl⟩)))))
 refine execQ_C rfl rfl rfl (text_at s hs _) ?_
 (repeat (first | refine execQ_E rfl ?_ | (apply execQ_S rfl; (· (simp -implicitDefEqProofs; exact ⟨rfl, rfl⟩)))))
 refine SeqR.C rfl rfl rfl (hZ1.addC hR (by omega) (textD s) (by omega) (by omega)) ?_
 rintro v W ⟨rfl, hW, st2⟩
 have b2 := (st2 dd (by simp)).trans b1
 have e2 := (st2 e (by simp)).trans e1
 obtain ⟨f', hf'⟩ : ∃ f' : LF, f' = ⟨f.num, f.bytes ++ frmB (textD s), f.sure⟩ := ⟨_, rfl⟩
 have hn' : f.num = f'.num := by rw [hf']
 have hb' : f.bytes ++ frmB (textD s) = f'.bytes := by rw [hf']
 have hR2 : Ris (A ++ [f']) := by rw [hf']; exact hR.put rfl
 rw [← hf', hn'] at hW
 (repeat (first | refine SeqR.E rfl ?_ | (apply SeqR.o0 rfl; (· (simp -implicitDefEqProofs; exact ⟨rfl, rfl⟩))) | (apply SeqR.A rfl; (· (simp -implicitDefEqProofs; done)); (· (simp -implicitDefEqProofs; exact ⟨rfl, rfl⟩))) | (apply SeqR.N rfl; (· (simp -implicitDefEqProofs; done)))))
 (repeat (first | refine Run.adm rfl ?_ | refine Run.seq ?_ | ((first | apply Run.opS rfl | apply Run.condS); (· (simp -implicitDefEqProofs [b2, encDir]; first | exact ⟨rfl, rfl⟩ | exact rfl)))))
 refine Run.opC rfl rfl rfl (hW.flushC hR2) ?_
 rintro v U ⟨rfl, hU, st3⟩
 have b3 := (st3 dd (by simp)).trans b2
 have e3 := (st3 e (by simp)).trans e2
 have b4 : ∀ o, (U.set dd o)[dd]? = some o := fun o => setG b3 o
 have htk9 : (encD s).take 9 = encD s := rfl
 (repeat (first | refine Run.adm rfl ?_ | refine Run.seq ?_ | ((first | apply Run.opS rfl | apply Run.condS); (· (simp -implicitDefEqProofs [b3, e3, b4, encDir, hw, encD_len, htk9, encD_ones]; first | exact ⟨rfl, rfl⟩ | exact rfl)))))
 refine Run.retS Tryz.func50 r50_ok trivial (by simp [r50]; rfl) ?_
 rw [← hn'] at hU
 refine ⟨rfl, fun i hi => ?_, ?_, ?_⟩
 ·have hid : i ≠ dd := fun e => hbL (e ▸ hi)
  rw [setN (Ne.symm hid), st3 i (by simp [hi]), st2 i (by simp [hi]), st1 i hi]
 ·rw [b4]; rfl
 ·rw [hb']
  exact (hU.put (by simp) _).sub (fun i hi => by simp at hi ⊢; rcases hi with h | h <;> simp [h])
attribute [local simp ↓] upd_app tl_cons tl_nil
structure GoodS (nodes : Int) (s : DSt) : Prop where
 txt : TxtOk s
 kind : s.kind = 0 ∨ s.kind = 5 ∨ s.kind = 7
 cov : covGo s.m [] false = true
 nods : s.m.all (nodeOk nodes) = true
 fit : FitOk s nodes
 len : s.m.length ≤ 1000
 num : 0 ≤ s.move ∧ s.move ≤ 1000000 ∧ 0 ≤ s.epoch ∧ s.epoch ≤ 1000000 ∧ 0 ≤ s.next ∧ s.next ≤ 1000000
def againD (s : DSt) : DSt := if s.kind = 7 ∧ s.phase = 1 then beginsD s else s
def initD : DSt := ⟨[⟨1, [], [], 1, 0, 2⟩], 0, 1, 2, 0, 0, 0, 0, 0⟩
def lastD (ss : List DSt) : DSt := ss.getLast?.getD initD
def waysM (dd : Nat) : List (V × V) := [(.int .i64 5, .bnd 51 dd), (.int .i64 6, .bnd 52 dd), (.int .i64 7, .bnd 53 dd)]
def DirL (X : List O) (L : List Nat) (d dd m : Nat) (nodes : Int) (us : List Bs) (s : DSt) (kc ks : V) (Z : List O) : Prop :=
 ∃ lg w lts, lts.length ≤ 1000 + us.length ∧ WalOwn X (w :: dd :: L) d (LD [⟨m, us.flatMap frmB, (us.flatMap frmB).length⟩] (-1) false) lg lts m Z ∧ Z[dd]? = some (.row (encDir lg nodes us.length s kc ks (.mp w))) ∧ Z[w]? = some (.map (waysM dd)) ∧ dd ∉ L ∧ w ∉ L ∧ dd ≠ w
theorem Run.joinP2 {E : Env} {x y : AItem} {k : List AItem} {t : T} {h : List O} {α : Type} (st : α → List (Nat × V) × List O) (P : α → Prop) (h2 : ∀ a, P a → Run E ⟨k, tl (st a).1, (st a).2⟩)
  (h1 : ∀ k, (∀ a, P a → Run E ⟨k, tl (st a).1, (st a).2⟩) → Run E ⟨x :: y :: k, t, h⟩) : Run E ⟨x :: y :: k, t, h⟩ := h1 k h2
theorem lastD_snoc (ss : List DSt) (s : DSt) : lastD (ss ++ [s]) = s := by simp [lastD]
theorem dopen_gen {X : List O} {L : List Nat} {d last : Nat} {fs : List LF} {nodes : Int} {ss : List DSt} {Y : List O} (h : Own X L d (LD fs (-1) false) Y) (hR : Ris fs) (hRl : ∀ f ∈ fs, f.num < last) (hla9 : last < 100)
  (o1 : (opnT fs).map (·.1) = ss.map textD) (o2 : opnN 0 fs = last) (hbb : ∀ f ∈ fs, f.bytes.length ≤ 4194304) (hg : ∀ s ∈ ss, GoodS nodes s) (hl : ss.length ≤ 900) (hlast : GoodS nodes (lastD ss)) (hag : GoodS nodes (againD (lastD ss))) (hn : 1 ≤ nodes ∧ nodes ≤ 6) :
  Tri Tryz.prog 21 [.ptr d 0, .int .i64 nodes] Y (fun v Z => ∃ dd, v = .tup [.ptr dd 0, .int .i64 0] ∧ DirL X L d dd last nodes [textD (againD (lastD ss))] (againD (lastD ss)) .nilp .nilp Z ∧ StayL L Y Z) := by
 have hlen : (opnT fs).length = ss.length := by
  have := congrArg List.length o1; simpa using this
 have hk0 : keepF 0 fs = fs := List.filter_eq_self.2 fun f _ => by simp
 have n1 : ¬ nodes < 1 := by omega
 have n2 : ¬ 6 < nodes := by omega
 have hsure : ¬ (sureD (LD fs (-1) false) [97]).2 = 1 := by
  have e0 : lookE (LD fs (-1) false) [97] = if (fileOf (LD fs (-1) false).files [97]).isSome = true then 0 else 3 := by simp [lookE, may_a, LD]
  simp only [sureD, e0]
  cases fileOf (LD fs (-1) false).files [97] <;> simp
 refine Tri.of_run' Tryz.func21 rfl c21_ok (by simp [Tryz.ntmps21]) ?_
 (repeat (first | refine Run.adm rfl ?_ | refine Run.seq ?_ | ((first | apply Run.opS rfl | apply Run.condS); (· (simp -implicitDefEqProofs; first | exact ⟨rfl, rfl⟩ | exact rfl)))))
 refine Run.opC rfl rfl rfl (sure_own h [97]) ?_
 rintro v Y1 ⟨rfl, h1, st1⟩
 (repeat (first | refine Run.adm rfl ?_ | refine Run.seq ?_ | ((first | apply Run.opS rfl | apply Run.condS); (· (simp -implicitDefEqProofs [hsure, n1, n2]; first | exact ⟨rfl, rfl⟩ | exact rfl)))))
 have hop := open_own (frm := 0) h1 hR (by decide) (fun f hf => by have := hRl f hf; omega) hbb (by omega)
 rw [hk0, o2] at hop
 generalize hlts : opnT fs = lts at *
 refine Run.opC rfl rfl rfl hop ?_
 rintro v Z ⟨lg, rfl, hlg, hZ, stZ⟩
 (repeat (first | refine Run.adm rfl ?_ | refine Run.seq ?_ | ((first | apply Run.opS rfl | apply Run.condS); (· (simp -implicitDefEqProofs; first | exact ⟨rfl, rfl⟩ | exact rfl)))))
 refine Run.sl [(1, .int .i64 nodes), (4, .nilp), (5, .int .i64 0), (8, .ptr lg 0), (9, .int .i64 0), (10, .ptr (Z.length + 1) 0), (46, .ptr lg 0)] (by simp) ?_
 refine Run.frzR Z.length (Z.length + 1) (es := [encSh ⟨1, [], [], 1, 0, 2⟩]) (sz := 6) (by simp [encSh]) (by simp; rfl) ?_
 obtain ⟨dd, hdd⟩ : ∃ dd, dd = Z.length + 1 := ⟨_, rfl⟩
 have hZl := hZ.disk.lts
 have hddL : dd ∉ L := fun hm => by have := hZl dd hm; omega
 have key : ∀ (o0 o1 : O) (cs : List V), cs = encDir lg nodes 0 initD .nilp .nilp .nilm → WalOwn X (dd :: L) d (LD (fs ++ [⟨last, [], 0⟩]) (-1) false) lg lts last (((Z ++ [o0, o1]).set Z.length .gone).set (Z.length + 1) (.row cs)) ∧
   (((Z ++ [o0, o1]).set Z.length .gone).set (Z.length + 1) (.row cs))[dd]? = some (.row (encDir lg nodes 0 initD .nilp .nilp .nilm)) ∧ StayL L Y (((Z ++ [o0, o1]).set Z.length .gone).set (Z.length + 1) (.row cs)) := by
  rintro o0 o1 cs rfl
  have hZ2 := (hZ.more o0).more o1
  rw [List.length_append, List.length_singleton, ← hdd, List.append_assoc] at hZ2
  rw [← hdd]
  refine ⟨((hZ2.put (i := Z.length) (by simp) .gone).put (i := dd) (by simp) _).sub (fun j hj => by simp at hj ⊢; rcases hj with h | h <;> simp [h]), ?_, fun j hj => ?_⟩
  ·rw [List.getElem?_set_self (by simp; omega)]
  ·have hj2 := hZl j hj
   rw [setN (by omega), setN (by omega), List.getElem?_append_left hj2, stZ j hj, st1 j hj]
 refine run_to [(1, .int .i64 nodes), (4, .nilp), (5, .int .i64 0), (8, .ptr lg 0), (9, .int .i64 0), (10, .ptr dd 0), (46, .ptr lg 0)]
  (fun W => WalOwn X (dd :: L) d (LD (fs ++ [⟨last, [], 0⟩]) (-1) false) lg lts last W ∧ W[dd]? = some (.row (encDir lg nodes 0 initD .nilp .nilp .nilm)) ∧ StayL L Y W) (by simp [hdd]) ?_ ?_
 ·exact key _ _ _ (by simp [encDir, encD, initD, encSh])
 rintro W ⟨hW, w1, sW⟩
 refine Run.opC rfl rfl rfl (WalOwn.all hW (by omega)) ?_
 rintro v W1 ⟨rfl, hW1, sW1⟩
 have w2 := (sW1 dd (by simp)).trans w1
 have sY1 : StayL L Y W1 := sW.trans sW1.tl
 rw [o1]
 have hml : ((ss.map textD).map encS).length = ss.length := by simp
 have hmlI : (((ss.map textD).map encS).length : Int) = ss.length := by simp
 (repeat (first | refine Run.adm rfl ?_ | refine Run.seq ?_ | ((first | apply Run.opS rfl | apply Run.condS); (· (simp -implicitDefEqProofs [hmlI]; first | exact ⟨rfl, rfl⟩ | exact rfl)))))
 refine Run.sl [(1, .int .i64 nodes), (4, .nilp), (5, .int .i64 0), (8, .ptr lg 0), (9, .int .i64 0), (10, .ptr dd 0), (47, .vs ((ss.map textD).map encS) 1), (48, .int .i64 ss.length), (49, .int .i64 (0 : Nat))] (by simp) ?_
 refine Run.loopS (fun (x : Nat × List O) => ([(1, .int .i64 nodes), (4, .nilp), (5, .int .i64 0), (8, .ptr lg 0), (9, .int .i64 0), (10, .ptr dd 0), (47, .vs ((ss.map textD).map encS) 1), (48, .int .i64 ss.length), (49, .int .i64 x.1)], x.2))
  (fun x => x.1 ≤ ss.length ∧ StayL L Y x.2 ∧ WalOwn X (dd :: L) d (LD (fs ++ [⟨last, [], 0⟩]) (-1) false) lg lts last x.2 ∧ x.2[dd]? = some (.row (encDir lg nodes 0 (lastD (ss.take x.1)) .nilp .nilp .nilm))) (fun x => ss.length - x.1) ?_ (0, W1) ⟨Nat.zero_le _, sY1, hW1, w2⟩
 rintro ⟨i, U⟩ ⟨hi, sU, hU, u1⟩ ih
 simp only at hi sU hU u1 ih ⊢
 by_cases hlt : i < ss.length
 ·obtain ⟨s, hx, hxi, -, hmem⟩ := getL hlt
  have hlt' : (i : Int) < ss.length := by omega
  have hw := wrap_small (n := (i : Int) + 1) (by omega) (by omega)
  have hgs := hg s hmem
  have hnx : lastD (ss.take (i + 1)) = s := by rw [List.take_add_one, hx]; exact lastD_snoc _ _
  have hx2 : ((ss.map textD).map encS)[i]? = some (encS (textD s)) := by simp [hx]
  (repeat (first | refine Run.adm rfl ?_ | refine Run.seq ?_ | ((first | apply Run.opS rfl | apply Run.condS); (· (simp -implicitDefEqProofs [hlt, hlt', hx, hxi, encS]; first | exact ⟨rfl, rfl⟩ | exact rfl)))))
  refine Run.opC rfl rfl rfl (read_at s nodes hgs.txt hgs.kind hgs.cov hgs.nods hgs.fit hgs.len _) ?_
  rintro v V1 ⟨rfl, e⟩
  replace e := e.symm
  subst e
  have htk9 : (encD s).take 9 = encD s := rfl
  have hUl := lt_of_get u1
  have v1 : ∀ o, (U ++ [o])[dd]? = some (.row (encDir lg nodes 0 (lastD (ss.take i)) .nilp .nilp .nilm)) := fun o => getA u1 _
  have hU2 := hU.more (.row (encD s))
  (repeat (first | refine Run.adm rfl ?_ | refine Run.seq ?_ | ((first | apply Run.opS rfl | apply Run.condS); (· (simp -implicitDefEqProofs [v1, encDir, encD_len, htk9, encD_ones]; first | exact ⟨rfl, rfl⟩ | exact rfl)))))
  refine Run.sl _ ?_ (ih (i + 1, (U ++ [O.row (encD s)]).set dd (.row (encDir lg nodes 0 s .nilp .nilp .nilm))) ⟨by simp only; omega, ?_, (hU2.put (i := dd) (by simp) _).sub (fun j hj => by simp at hj ⊢; rcases hj with h | h <;> simp [h]), by simp only; rw [hnx]; exact setG (v1 _) _⟩ (by simp only; omega))
  ·simp [hw]
  ·intro j hj
   have hjd : dd ≠ j := fun e => hddL (e ▸ hj)
   simp only
   rw [setN hjd, List.getElem?_append_left (hU.disk.lts j (by simp [hj]))]
   exact sU j hj
 ·have : i = ss.length := by omega
  subst this
  rw [List.take_length] at u1
  generalize lastD ss = s0 at *
  have htk9 : ∀ s, (encD s).take 9 = encD s := fun _ => rfl
  have hU2 := (hU.more (.row (encD s0))).sub (L' := dd :: U.length :: L) (fun j hj => by simp at hj ⊢; rcases hj with h | h | h <;> simp [h])
  have hddU : dd ≠ U.length := by have := lt_of_get u1; omega
  have u2 : ∀ o, (U ++ [o])[dd]? = some (.row (encDir lg nodes 0 s0 .nilp .nilp .nilm)) := fun o => getA u1 _
  have hUL := hU.disk.lts
  obtain ⟨sm, smv, sep, snx, skd, sph, ssh, sot, snd⟩ := s0
  (repeat (first | refine Run.adm rfl ?_ | refine Run.seq ?_ | ((first | apply Run.opS rfl | apply Run.condS); (· (simp -implicitDefEqProofs [u1, encDir, encD]; first | exact ⟨rfl, rfl⟩ | exact rfl)))))
  refine Run.joinP2 (fun (x : DSt × List O) => ([(1, .int .i64 nodes), (4, .nilp), (5, .int .i64 0), (8, .ptr lg 0), (9, .int .i64 0), (10, .ptr dd 0), (15, .ptr U.length 0)], x.2))
   (fun x => GoodS nodes x.1 ∧ x.1 = againD ⟨sm, smv, sep, snx, skd, sph, ssh, sot, snd⟩ ∧ x.2 = U ++ [.row (encD x.1)]) ?_ ?_
  rotate_left
  ·intro K hK
   by_cases c7 : skd = 7
   ·by_cases c1 : sph = 1
    ·subst c7 c1
     have hnum := hlast.num
     (repeat (first | refine Run.adm rfl ?_ | refine Run.seq ?_ | ((first | apply Run.opS rfl | apply Run.condS); (· (simp -implicitDefEqProofs; first | exact ⟨rfl, rfl⟩ | exact rfl)))))
     refine Run.opC rfl rfl rfl (begins_at ⟨sm, smv, sep, snx, 7, 1, ssh, sot, snd⟩ hnum _) ?_
     rintro v W ⟨rfl, e⟩
     replace e := e.symm
     subst e
     (repeat (first | refine Run.adm rfl ?_ | refine Run.seq ?_ | ((first | apply Run.opS rfl | apply Run.condS); (· (simp -implicitDefEqProofs [encD_len, encD_ones]; first | exact ⟨rfl, rfl⟩ | exact rfl)))))
     refine Run.sl _ ?_ (hK (beginsD ⟨sm, smv, sep, snx, 7, 1, ssh, sot, snd⟩, _) ⟨by simpa [againD] using hag, by simp [againD], rfl⟩)
     simp
    ·have e0 : againD ⟨sm, smv, sep, snx, skd, sph, ssh, sot, snd⟩ = ⟨sm, smv, sep, snx, skd, sph, ssh, sot, snd⟩ := by simp [againD, c1]
     (repeat (first | refine Run.adm rfl ?_ | refine Run.seq ?_ | ((first | apply Run.opS rfl | apply Run.condS); (· (simp -implicitDefEqProofs [c7, c1]; first | exact ⟨rfl, rfl⟩ | exact rfl)))))
     refine Run.sl _ ?_ (hK (⟨sm, smv, sep, snx, skd, sph, ssh, sot, snd⟩, _) ⟨hlast, e0.symm, by simp [encD, c7]⟩)
     simp
   ·have e0 : againD ⟨sm, smv, sep, snx, skd, sph, ssh, sot, snd⟩ = ⟨sm, smv, sep, snx, skd, sph, ssh, sot, snd⟩ := by simp [againD, c7]
    (repeat (first | refine Run.adm rfl ?_ | refine Run.seq ?_ | ((first | apply Run.opS rfl | apply Run.condS); (· (simp -implicitDefEqProofs [c7]; first | exact ⟨rfl, rfl⟩ | exact rfl)))))
    refine Run.sl _ ?_ (hK (⟨sm, smv, sep, snx, skd, sph, ssh, sot, snd⟩, _) ⟨hlast, e0.symm, by simp [encD]⟩)
    simp
  rintro ⟨s1, U1⟩ ⟨hg1, es1, hU1⟩
  simp only at hg1 es1 hU1 ⊢
  subst hU1
  rw [← es1]
  have hWU : WalOwn X (dd :: U.length :: L) d (LD (fs ++ [⟨last, [], 0⟩]) (-1) false) lg lts last (U ++ [.row (encD s1)]) := (hU.more (.row (encD s1))).sub (L' := dd :: U.length :: L) (fun j hj => by simp at hj ⊢; rcases hj with h | h | h <;> simp [h])
  have hR2 : Ris (fs ++ [⟨last, [], 0⟩]) := hR.snoc (fun a ha => by have := hRl a ha; simpa using this) (by simp only; omega)
  have hUL0 : dd ∉ U.length :: L := by simp [hddU, hddL]
  (repeat (first | refine Run.adm rfl ?_ | refine Run.seq ?_ | ((first | apply Run.opS rfl | apply Run.condS); (· (simp -implicitDefEqProofs [encD_len, htk9]; first | exact ⟨rfl, rfl⟩ | exact rfl)))))
  refine Run.opC rfl rfl rfl (dputs_tri (f := ⟨last, [], 0⟩) hWU (u2 _) hUL0 hR2 (by omega) hg1.txt (by omega) (by simp)) ?_
  rintro v V1 ⟨rfl, sV1, v1, hV⟩
  simp only [List.nil_append] at hV
  have hR3 : Ris (fs ++ [⟨last, frmB (textD s1), (frmB (textD s1)).length⟩]) := hR2.put rfl
  have hdr := drop_own (b := (last : Int)) hV hR3 (by simp; omega)
  rw [dropGo_calm, List.nil_append, above_last (f := ⟨last, frmB (textD s1), (frmB (textD s1)).length⟩) hR3] at hdr
  (repeat (first | refine Run.adm rfl ?_ | refine Run.seq ?_ | ((first | apply Run.opS rfl | apply Run.condS); (· (simp -implicitDefEqProofs; first | exact ⟨rfl, rfl⟩ | exact rfl)))))
  refine Run.opC rfl rfl rfl hV.last ?_
  rintro v V0 ⟨rfl, e⟩
  replace e := e.symm
  subst e
  (repeat (first | refine Run.adm rfl ?_ | refine Run.seq ?_ | ((first | apply Run.opS rfl | apply Run.condS); (· (simp -implicitDefEqProofs; first | exact ⟨rfl, rfl⟩ | exact rfl)))))
  refine Run.opC rfl rfl rfl hdr ?_
  rintro v V2 (⟨e, -⟩ | ⟨-, rfl, hV2, stV⟩)
  ·omega
  have v2 := (stV dd (by simp)).trans v1
  have v2l := lt_of_get v2
  have v3 : ∀ o, (V2 ++ [o])[dd]? = some (.row (encDir lg nodes (0 + 1) s1 .nilp .nilp .nilm)) := fun o => getA v2 _
  have hV2L := hV2.disk.lts
  have hV3 : WalOwn X (dd :: U.length :: L) d (LD [⟨last, [textD s1].flatMap frmB, ([textD s1].flatMap frmB).length⟩] (-1) false) lg (stayT last (lts ++ [(textD s1, last)])) last V2 := by simpa using hV2
  (repeat (first | refine Run.adm rfl ?_ | refine Run.seq ?_ | ((first | apply Run.opS rfl | apply Run.condS); (· (simp -implicitDefEqProofs [v2, v3, encDir, encD]; first | exact ⟨rfl, rfl⟩ | exact rfl)))))
  refine Run.retS Tryz.func21 r21_ok trivial (by simp [r21]; rfl) ?_
  refine ⟨dd, by simp, ⟨lg, V2.length, _, ?_, ((hV3.more (.map (waysM dd))).put (i := dd) (by simp) _).sub (L' := V2.length :: dd :: L) (fun j hj => by simp only [List.mem_cons] at hj; rcases hj with h | h | h <;> simp [h]), (setG (v3 _) _).trans ?_, ?_, hddL, fun hm => by have := hV2L V2.length (by simp [hm]); omega, by omega⟩, fun j hj => ?_⟩
  ·have := stayT_len (last : Int) (lts ++ [(textD s1, last)])
   simp at this ⊢; omega
  ·simp [encDir, encD]
  ·rw [setN (by omega)]; simp [waysM]
  ·have hjd : dd ≠ j := fun e => hddL (e ▸ hj)
   rw [setN hjd, List.getElem?_append_left (hV2L j (by simp [hj])), stV j (by simp [hj]), sV1 j (by simp [hj]), List.getElem?_append_left (hUL j (by simp [hj])), sU j hj]
attribute [local simp ↓] upd_app tl_cons tl_nil
section told
variable {Z : List O} {dd lg : Nat} {nodes n : Int} {s : DSt} {kc ks w : V}
theorem dgiven_tri (h : Z[dd]? = some (.row (encDir lg nodes n s kc ks w))) : Tri Tryz.prog 57 [.ptr dd 0] Z (fun v H => v = .bool true ∧ H = Z) := by
 refine Tri.of_run' Tryz.func57 rfl c57_ok (by simp [Tryz.ntmps57]) ?_
 (repeat (first | refine Run.adm rfl ?_ | refine Run.seq ?_ | ((first | apply Run.opS rfl | apply Run.condS); (· (simp -implicitDefEqProofs [h, encDir]; first | exact ⟨rfl, rfl⟩ | exact rfl)))))
 refine Run.retS Tryz.func57 r57_ok trivial (by simp [r57]; rfl) ?_
 exact ⟨by simp, rfl⟩
theorem dbusy_tri (h : Z[dd]? = some (.row (encDir lg nodes n s kc ks w))) : Tri Tryz.prog 29 [.ptr dd 0] Z (fun v H => v = .int .i64 s.kind ∧ H = Z) := by
 refine Tri.of_run' Tryz.func29 rfl c29_ok (by simp [Tryz.ntmps29]) ?_
 (repeat (first | refine Run.adm rfl ?_ | refine Run.seq ?_ | ((first | apply Run.opS rfl | apply Run.condS); (· (simp -implicitDefEqProofs; first | exact ⟨rfl, rfl⟩ | exact rfl)))))
 refine Run.opC rfl rfl rfl (dgiven_tri h) ?_
 rintro v H ⟨rfl, rfl⟩
 (repeat (first | refine Run.adm rfl ?_ | refine Run.seq ?_ | ((first | apply Run.opS rfl | apply Run.condS); (· (simp -implicitDefEqProofs [h, encDir, encD]; first | exact ⟨rfl, rfl⟩ | exact rfl)))))
 refine Run.retS Tryz.func29 r29_ok trivial (by simp [r29]; rfl) ?_
 exact ⟨by simp, rfl⟩
theorem cloneS_tri (x : ShM) (r : List ShM) (hl : r.length ≤ 100000) : Tri Tryz.prog 63 [.vs ((x :: r).map encSh) 6] [] (fun v H => v = .vs ((x :: r).map encSh) 6 ∧ H = []) := by
 refine Tri.of_run' Tryz.func63 rfl c63_ok (by simp [Tryz.ntmps63]) ?_
 have hb : (r.length + 1) * 64 ≤ 70368744177664 := by omega
 have htk : (r.map encSh).take r.length = r.map encSh := List.take_of_length_le (by simp)
 (repeat (first | refine Run.adm rfl ?_ | refine Run.seq ?_ | ((first | apply Run.opS rfl | apply Run.condS); (· (simp -implicitDefEqProofs [hb]; first | exact ⟨rfl, rfl⟩ | exact rfl)))))
 refine Run.freeze 1 (es := encSh x :: r.map encSh) (sz := 6) (by simp) ?_
 refine Run.mv [] [(2, .vs (encSh x :: r.map encSh) 6)] [] (by rfl) (by decide) (by simp -implicitDefEqProofs [htk]) (by simp -implicitDefEqProofs [htk]) ?_
 refine Run.retI Tryz.func63 r63_ok trivial (by simp -implicitDefEqProofs [r63]; rfl) (by simp ) ?_ (by simp -implicitDefEqProofs ) (by simp -implicitDefEqProofs )
 simp
theorem dmap_tri (h : Z[dd]? = some (.row (encDir lg nodes n s kc ks w))) (hm : s.m ≠ []) (hl : s.m.length ≤ 1000) : Tri Tryz.prog 28 [.ptr dd 0] Z (fun v H => v = .vs (s.m.map encSh) 6 ∧ H = Z) := by
 obtain ⟨x, r, hxr⟩ : ∃ x r, s.m = x :: r := by
  cases hs : s.m with
  | nil => exact absurd hs hm
  | cons x r => exact ⟨x, r, rfl⟩
 have hc := (cloneS_tri x r (by rw [hxr] at hl; simp at hl; omega)).at rfl rfl Z
 rw [← hxr] at hc
 refine Tri.of_run' Tryz.func28 rfl c28_ok (by simp [Tryz.ntmps28]) ?_
 (repeat (first | refine Run.adm rfl ?_ | refine Run.seq ?_ | ((first | apply Run.opS rfl | apply Run.condS); (· (simp -implicitDefEqProofs; first | exact ⟨rfl, rfl⟩ | exact rfl)))))
 refine Run.opC rfl rfl rfl (dgiven_tri h) ?_
 rintro v H ⟨rfl, rfl⟩
 (repeat (first | refine Run.adm rfl ?_ | refine Run.seq ?_ | ((first | apply Run.opS rfl | apply Run.condS); (· (simp -implicitDefEqProofs [h, encDir, encD]; first | exact ⟨rfl, rfl⟩ | exact rfl)))))
 refine Run.opC rfl rfl rfl hc ?_
 rintro v H ⟨rfl, rfl⟩
 (repeat (first | refine Run.adm rfl ?_ | refine Run.seq ?_ | ((first | apply Run.opS rfl | apply Run.condS); (· (simp -implicitDefEqProofs; first | exact ⟨rfl, rfl⟩ | exact rfl)))))
 refine Run.retS Tryz.func28 r28_ok trivial (by simp [r28]; rfl) ?_
 exact ⟨by simp, rfl⟩
end told
theorem idxK_tri {f c : Nat} {cv : V} {p : ShM → Bool} {H : List O} (hf : ∀ x U, U[c]? = some (.row [cv]) → Tri Tryz.prog f [.agg (encSh x), .ptr c 0] U (fun v W => v = .bool (p x) ∧ Kept U W [])) (hc : H[c]? = some (.row [cv])) (l : List ShM) (hl : l.length ≤ 1000000) :
  Tri Tryz.prog 103 [.vs (l.map encSh) 6, .fn f [.ptr c 0]] H (fun v W => v = .int .i64 (idxI p l) ∧ Kept H W []) := by
 refine Tri.of_run' Tryz.func103 rfl c103_ok (by simp [Tryz.ntmps103]) ?_
 (repeat (first | refine Run.adm rfl ?_ | refine Run.seq ?_ | ((first | apply Run.opS rfl | apply Run.condS); (· (simp -implicitDefEqProofs; first | exact ⟨rfl, rfl⟩ | exact rfl)))))
 refine Run.sl [(0, .vs (l.map encSh) 6), (1, .fn f [.ptr c 0]), (7, .int .i64 l.length), (8, .int .i64 (0 : Nat))] (by simp) ?_
 refine Run.loopS (fun (x : Nat × List O) => ([(0, .vs (l.map encSh) 6), (1, .fn f [.ptr c 0]), (7, .int .i64 l.length), (8, .int .i64 x.1)], x.2)) (fun x => x.1 ≤ l.length ∧ (l.take x.1).findIdx? p = none ∧ Kept H x.2 []) (fun x => l.length - x.1) ?_ (0, H) ⟨Nat.zero_le _, rfl, Kept.refl _ _⟩
 rintro ⟨i, U⟩ ⟨hi, hno, hk⟩ ih
 simp only at hi hno hk ih ⊢
 by_cases hlt : i < l.length
 ·obtain ⟨x, hx, hxi, -, -⟩ := getL hlt
  have hlt' : (i : Int) < l.length := by omega
  have hw := wrap_small (n := (i : Int) + 1) (by omega) (by omega)
  have htk : (encSh x).take 6 = encSh x := rfl
  (repeat (first | refine Run.adm rfl ?_ | refine Run.seq ?_ | ((first | apply Run.opS rfl | apply Run.condS); (· (simp -implicitDefEqProofs [hlt, hlt', hx, hxi, htk]; first | exact ⟨rfl, rfl⟩ | exact rfl)))))
  refine Run.opC rfl rfl rfl (hf x U (hk.get hc (by simp))) ?_
  rintro v W ⟨rfl, hW⟩
  have hkW : Kept H W [] := (hk.trans hW).mono (by simp)
  cases hpx : p x
  ·(repeat (first | refine Run.adm rfl ?_ | refine Run.seq ?_ | ((first | apply Run.opS rfl | apply Run.condS); (· (simp -implicitDefEqProofs [hpx]; first | exact ⟨rfl, rfl⟩ | exact rfl)))))
   refine Run.sl _ ?_ (ih (i + 1, W) ⟨by simp only; omega, ?_, hkW⟩ (by simp only; omega))
   ·simp [hw]
   ·simp only; rw [List.take_add_one, hx, List.findIdx?_append, hno]; simp [hpx]
  ·(repeat (first | refine Run.adm rfl ?_ | refine Run.seq ?_ | ((first | apply Run.opS rfl | apply Run.condS); (· (simp -implicitDefEqProofs [hpx]; first | exact ⟨rfl, rfl⟩ | exact rfl)))))
   refine Run.retS Tryz.func103 r103_ok trivial (by simp [r103]; rfl) ?_
   refine ⟨?_, hkW⟩
   have : l.findIdx? p = some i := by
    have h1 : l = l.take i ++ x :: l.drop (i + 1) := by rw [← hxi, ← List.drop_eq_getElem_cons hlt, List.take_append_drop]
    rw [h1, List.findIdx?_append, hno]
    simp [hpx, List.findIdx?_cons]
    omega
   simp [idxI, this]
 ·have : i = l.length := by omega
  subst this
  rw [List.take_length] at hno
  (repeat (first | refine Run.adm rfl ?_ | refine Run.seq ?_ | ((first | apply Run.opS rfl | apply Run.condS); (· (simp -implicitDefEqProofs; first | exact ⟨rfl, rfl⟩ | exact rfl)))))
  refine Run.retS Tryz.func103 r103_ok trivial (by simp [r103]; rfl) ?_
  exact ⟨by simp [idxI, hno], hk⟩
theorem hasC_tri (x : ShM) {U : List O} {c : Nat} {key : Bs} (hc : U[c]? = some (.row [.str key])) : Tri Tryz.prog 104 [.agg (encSh x), .ptr c 0] U (fun v W => v = .bool (hasS x.lo x.hi key) ∧ Kept U W []) := by
 have hc2 : ∀ o, (U ++ [o])[c]? = some (.row [.str key]) := fun o => getA hc _
 refine Tri.of_run' Tryz.func104 rfl c104_ok (by simp [Tryz.ntmps104]) ?_
 (repeat (first | refine Run.adm rfl ?_ | refine Run.seq ?_ | ((first | apply Run.opS rfl | apply Run.condS); (· (simp -implicitDefEqProofs [hc2, encSh]; first | exact ⟨rfl, rfl⟩ | exact rfl)))))
 refine Run.opC rfl rfl rfl (has_at x.lo x.hi key _) ?_
 rintro v H ⟨rfl, rfl⟩
 (repeat (first | refine Run.adm rfl ?_ | refine Run.seq ?_ | ((first | apply Run.opS rfl | apply Run.condS); (· (simp -implicitDefEqProofs; first | exact ⟨rfl, rfl⟩ | exact rfl)))))
 refine Run.retS Tryz.func104 r104_ok trivial (by simp [r104]; rfl) ?_
 exact ⟨by simp, (Kept.refl U []).app _⟩
attribute [local simp ↓] upd_app tl_cons tl_nil
structure DirG (X : List O) (L : List Nat) (d dd m : Nat) (nodes : Int) (ss : List DSt) (kc ks : V) (Z : List O) : Prop where
 at_ : DirL X L d dd m nodes (ss.map textD) (lastD ss) kc ks Z
 good : ∀ s ∈ ss, GoodS nodes s
 ne : ss ≠ []
 len : ss.length ≤ 14
 num : m < 90
theorem frm_small {ss : List DSt} (h : ∀ s ∈ ss, TxtOk s) : ((ss.map textD).flatMap frmB).length ≤ ss.length * 100017 := by
 induction ss with
 | nil => simp
 | cons s r ih =>
  have h1 := bigF_len _ (h s (by simp)).tlen
  have h2 := ih (fun x hx => h x (by simp [hx]))
  simp only [List.map_cons, List.flatMap_cons, List.length_append, List.length_cons] at h2 ⊢
  omega
section ops
variable {X : List O} {L : List Nat} {d dd m : Nat} {nodes : Int} {ss : List DSt} {kc ks : V} {Z : List O}
theorem DirG.last (h : DirG X L d dd m nodes ss kc ks Z) : GoodS nodes (lastD ss) := by
 obtain ⟨r, x, rfl⟩ : ∃ r x, ss = r ++ [x] := by
  rcases List.eq_nil_or_concat ss with e | ⟨r, x, e⟩
  ·exact absurd e h.ne
  ·exact ⟨r, x, by rw [e, List.concat_eq_append]⟩
 rw [lastD_snoc]; exact h.good x (by simp)
theorem DirG.row (h : DirG X L d dd m nodes ss kc ks Z) : ∃ lg w, Z[dd]? = some (.row (encDir lg nodes ss.length (lastD ss) kc ks (.mp w))) ∧ Z[w]? = some (.map (waysM dd)) ∧ dd ≠ w ∧ dd ∉ L ∧ w ∉ L := by
 obtain ⟨lg, w, lts, h1, h2, h3, h4, h5, h6, h7⟩ := h.at_
 exact ⟨lg, w, by simpa using h3, h4, h7, h5, h6⟩
theorem DirG.keep (h : DirG X L d dd m nodes ss kc ks Z) {W : List O} (hk : Kept Z W []) : DirG X L d dd m nodes ss kc ks W ∧ StayL L Z W := by
 obtain ⟨⟨lg, w, lts, h1, h2, h3, h4, h5, h6, h7⟩, g1, g2, g3, g4⟩ := h
 obtain ⟨k1, k2⟩ := h2.keep hk
 exact ⟨⟨⟨lg, w, lts, h1, k1, (k2 dd (by simp)).trans h3, (k2 w (by simp)).trans h4, h5, h6, h7⟩, g1, g2, g3, g4⟩, k2.tl.tl⟩
theorem DirG.lts (h : DirG X L d dd m nodes ss kc ks Z) : ∀ i ∈ L, i < Z.length := by
 obtain ⟨⟨lg, w, lts, h1, h2, h3, h4, h5, h6, h7⟩, -⟩ := h
 exact fun i hi => h2.disk.lts i (by simp [hi])
theorem DirG.kcs (h : DirG X L d dd m nodes ss kc ks Z) {lg w : Nat} (hr : Z[dd]? = some (.row (encDir lg nodes ss.length (lastD ss) kc ks (.mp w)))) (kc' ks' : V) :
  DirG X L d dd m nodes ss kc' ks' (Z.set dd (.row (encDir lg nodes ss.length (lastD ss) kc' ks' (.mp w)))) ∧ StayL L Z (Z.set dd (.row (encDir lg nodes ss.length (lastD ss) kc' ks' (.mp w)))) := by
 obtain ⟨⟨lg', w', lts, h1, h2, h3, h4, h5, h6, h7⟩, g1, g2, g3, g4⟩ := h
 rw [hr] at h3
 have e : lg = lg' ∧ w = w' := by
  have := congrArg (fun o => match o with | some (O.row (V.ptr a _ :: _)) => a | _ => 0) h3
  have e2 := congrArg (fun o => match o with | some (O.row [_, _, _, _, _, _, _, _, _, _, _, _, _, _, V.mp a]) => a | _ => 0) h3
  exact ⟨by simpa [encDir] using this, by simpa [encDir, encD] using e2⟩
 obtain ⟨rfl, rfl⟩ := e
 refine ⟨⟨⟨lg, w, lts, h1, h2.put (by simp) _, ?_, ?_, h5, h6, h7⟩, g1, g2, g3, g4⟩, fun i hi => by
  have hne : dd ≠ i := fun e => h5 (by rw [e]; exact hi)
  exact setN hne _⟩
 ·rw [setG hr]; simp
 ·rw [setN h7]; exact h4
theorem DirG.puts (h : DirG X L d dd m nodes ss kc ks Z) (hl : ss.length ≤ 13) {s : DSt} (hs : GoodS nodes s) :
  Tri Tryz.prog 50 [.ptr dd 0, .agg (encD s)] Z (fun v W => v = .int .i64 0 ∧ DirG X L d dd m nodes (ss ++ [s]) kc ks W ∧ StayL L Z W) := by
 obtain ⟨⟨lg, w, lts, h1, h2, h3, h4, h5, h6, h7⟩, g1, g2, g3, g4⟩ := h
 have hfs := frm_small fun s hs => (g1 s hs).txt
 have hR : Ris ([] ++ [⟨m, (ss.map textD).flatMap frmB, ((ss.map textD).flatMap frmB).length⟩]) := ⟨by simp, fun g hg => by simp at hg; rw [hg]; simp only; omega⟩
 rw [List.length_map] at h1
 have hW : WalOwn X (dd :: w :: L) d (LD ([] ++ [⟨m, (ss.map textD).flatMap frmB, ((ss.map textD).flatMap frmB).length⟩]) (-1) false) lg lts m Z := h2.sub (fun j hj => by simp only [List.mem_cons] at hj ⊢; rcases hj with h | h | h <;> simp [h])
 refine (dputs_tri (f := ⟨m, (ss.map textD).flatMap frmB, ((ss.map textD).flatMap frmB).length⟩) hW h3 (by simp [h7, h5]) hR (by omega) hs.txt (by simp; omega) (by simp only; omega)).mono fun v W ⟨e, st, q1, q2⟩ => ⟨e, ⟨⟨lg, w, lts ++ [(textD s, m)], by simp; omega, ?_, ?_, (st w (by simp)).trans h4, h5, h6, h7⟩, ?_, by simp, by simp; omega, g4⟩, st.tl⟩
 ·have : WalOwn X (dd :: w :: L) d (LD [⟨m, ((ss ++ [s]).map textD).flatMap frmB, (((ss ++ [s]).map textD).flatMap frmB).length⟩] (-1) false) lg (lts ++ [(textD s, m)]) m W := by simpa using q2
  exact this.sub (fun j hj => by simp only [List.mem_cons] at hj ⊢; rcases hj with h | h | h <;> simp [h])
 ·rw [q1, lastD_snoc]; simp
 ·intro x hx
  rcases List.mem_append.1 hx with hx | hx
  ·exact g1 x hx
  ·rw [List.mem_singleton.1 hx]; exact hs
theorem encD_take (s : DSt) (r : List V) : (encD s ++ r).take 9 = encD s := rfl
theorem dbegin_tri {f : Nat} {caps : List V} {s' : DSt} {x0 : ShM} (h : DirG X L d dd m nodes ss kc ks Z) (hl : ss.length ≤ 13) (hm : (lastD ss).m = [x0]) (hlo : x0.lo = [] ∧ x0.hi = []) (key : Bs)
  (hf : ∀ U sp, Z.length ≤ sp → U[sp]? = some (.row (encD (lastD ss))) → Kept Z U [] → Tri Tryz.prog f ([.ptr sp 0, .int .i64 0] ++ caps) U (fun v W => v = .int .i64 0 ∧ W[sp]? = some (.row (encD s')) ∧ Kept U W [sp]))
  (hs' : s'.m = [x0] ∧ s'.move = (lastD ss).move ∧ s'.epoch = (lastD ss).epoch ∧ s'.next = (lastD ss).next) (hg : (lastD ss).kind = 0 → GoodS nodes (beginsD { s' with shard := x0.id })) :
  Tri Tryz.prog 54 [.ptr dd 0, .str key, .fn f caps] Z (fun v W => StayL L Z W ∧ ((keyB key = false ∧ v = .int .i64 1 ∧ DirG X L d dd m nodes ss kc ks W) ∨ (keyB key = true ∧ (lastD ss).kind ≠ 0 ∧ v = .int .i64 200 ∧ DirG X L d dd m nodes ss kc ks W) ∨
   (keyB key = true ∧ (lastD ss).kind = 0 ∧ v = .int .i64 0 ∧ DirG X L d dd m nodes (ss ++ [beginsD { s' with shard := x0.id }]) .nilp .nilp W))) := by
 obtain ⟨lg, w, hr, hwy, hdw, hdL, hwL⟩ := h.row
 have hlast := h.last
 have hZa : ∀ x, (Z ++ [x])[dd]? = some (.row (encDir lg nodes ss.length (lastD ss) kc ks (.mp w))) := fun x => getA hr _
 refine Tri.of_run' Tryz.func54 rfl c54_ok (by simp [Tryz.ntmps54]) ?_
 (repeat (first | refine Run.adm rfl ?_ | refine Run.seq ?_ | ((first | apply Run.opS rfl | apply Run.condS); (· (simp -implicitDefEqProofs; first | exact ⟨rfl, rfl⟩ | exact rfl)))))
 refine Run.opC rfl rfl rfl (dgiven_tri (hZa _)) ?_
 rintro v H ⟨rfl, e⟩
 replace e := e.symm
 subst e
 (repeat (first | refine Run.adm rfl ?_ | refine Run.seq ?_ | ((first | apply Run.opS rfl | apply Run.condS); (· (simp -implicitDefEqProofs; first | exact ⟨rfl, rfl⟩ | exact rfl)))))
 refine Run.opC rfl (by simp) rfl (key_at key _) ?_
 rintro v H ⟨rfl, e⟩
 replace e := e.symm
 subst e
 cases hkey : keyB key
 ·(repeat (first | refine Run.adm rfl ?_ | refine Run.seq ?_ | ((first | apply Run.opS rfl | apply Run.condS); (· (simp -implicitDefEqProofs [hkey]; first | exact ⟨rfl, rfl⟩ | exact rfl)))))
  refine Run.retS Tryz.func54 r54_ok trivial (by simp [r54]; rfl) ?_
  obtain ⟨k1, k2⟩ := h.keep ((Kept.refl Z []).app [O.row [V.str key]])
  exact ⟨k2, .inl ⟨rfl, by simp, k1⟩⟩
 have hidx : idxI (fun x => hasS x.lo x.hi key) (lastD ss).m = 0 := by
  rw [hm]
  have hkl : key.length ≤ 64 ∧ key ≠ [] := by simp only [keyB, Bool.and_eq_true, decide_eq_true_eq, Bool.not_eq_true', decide_eq_false_iff_not] at hkey; exact ⟨hkey.2, hkey.1⟩
  have : hasS x0.lo x0.hi key = true := by
   rw [hlo.1, hlo.2]
   have e1 : Op.bytesLess [] key = true := by
    cases hk : key with
    | nil => exact absurd hk hkl.2
    | cons a r => rfl
   simp [hasS, mayS, ahB, hkey, e1]
  simp [idxI, this]
 have hm1 : (lastD ss).m.length = 1 := by rw [hm]; rfl
 obtain ⟨ke, hke⟩ : ∃ ke, ke = Z.length := ⟨_, rfl⟩
 obtain ⟨sp, hsp⟩ : ∃ sp, sp = Z.length + 1 := ⟨_, rfl⟩
 (repeat (first | refine Run.adm rfl ?_ | refine Run.seq ?_ | ((first | apply Run.opS rfl | apply Run.condS); (· (simp -implicitDefEqProofs [hkey, hZa, encDir, encD_take, encD_len]; first | exact ⟨rfl, rfl⟩ | exact rfl)))))
 refine run_to [(0, .ptr dd 0), (2, .fn f caps), (4, .ptr ke 0), (6, .int .i64 0), (7, .ptr sp 0), (23, .vs ((lastD ss).m.map encSh) 6), (24, .fn 104 [.ptr ke 0])] (fun U => U[ke]? = some (.row [.str key]) ∧ U[sp]? = some (.row (encD (lastD ss))) ∧ Kept Z U []) (by simp [hke, hsp, encD]) ⟨by simp [hke], by simp [hsp, encD], (Kept.refl Z []).app _⟩ ?_
 rintro U ⟨u1, u2, u3⟩
 refine Run.opC rfl rfl rfl (idxK_tri (fun x U hc => hasC_tri x hc) u1 _ (by omega)) ?_
 rintro v U1 ⟨rfl, hk1⟩
 rw [hidx]
 have p2 := hk1.get u2 (by simp)
 have hkU1 : Kept Z U1 [] := (u3.trans hk1).mono (by simp)
 (repeat (first | refine Run.adm rfl ?_ | refine Run.seq ?_ | ((first | apply Run.opS rfl | apply Run.condS); (· (simp -implicitDefEqProofs; first | exact ⟨rfl, rfl⟩ | exact rfl)))))
 refine Run.opC rfl rfl rfl (hf U1 sp (by omega) p2 hkU1) ?_
 rintro v U2 ⟨rfl, q2, hk2⟩
 have hkU2 : Kept Z U2 [] := by
  refine ⟨Nat.le_trans hkU1.1 hk2.1, fun i hi _ => ?_⟩
  rw [hk2.2 i (by have := hkU1.1; omega) (by simp; omega)]; exact hkU1.2 i hi (by simp)
 obtain ⟨g1, g2⟩ := h.keep hkU2
 have r2 : U2[dd]? = some (.row (encDir lg nodes ss.length (lastD ss) kc ks (.mp w))) := hkU2.get hr (by simp)
 have hk7 : ((encDir lg nodes ss.length (lastD ss) kc ks (.mp w))[7]? : Option V) = some (.int .i64 (lastD ss).kind) := rfl
 by_cases hkind : (lastD ss).kind = 0
 rotate_left
 ·(repeat (first | refine Run.adm rfl ?_ | refine Run.seq ?_ | ((first | apply Run.opS rfl | apply Run.condS); (· (simp -implicitDefEqProofs [r2, hk7, hkind]; first | exact ⟨rfl, rfl⟩ | exact rfl)))))
  refine Run.retS Tryz.func54 r54_ok trivial (by simp [r54]; rfl) ?_
  exact ⟨g2, .inr (.inl ⟨rfl, hkind, by simp, g1⟩)⟩
 have hg' := hg hkind
 have hnum := hlast.num
 obtain ⟨sm, smv, sep, snx, skd, sph, ssh, sot, snd⟩ := s'
 simp only at hs' hg' ⊢
 obtain ⟨e1, e2, e3, e4⟩ := hs'
 subst e1
 have n1 : ¬ 1099511627771 < smv := by omega
 have n2 : ¬ 1099511627771 < sep := by omega
 have n3 : ¬ 1099511627771 < snx := by omega
 obtain ⟨s3, hs3⟩ : ∃ s3 : DSt, s3 = ⟨[x0], smv, sep, snx, skd, sph, x0.id, sot, snd⟩ := ⟨_, rfl⟩
 have hspd : sp ≠ dd := by have := lt_of_get hr; omega
 have hkV : Kept Z (U2.set sp (.row (encD s3))) [] := hkU2.set _ _ (.inr (by omega))
 obtain ⟨gV, stV⟩ := h.keep hkV
 have rd : ∀ o, (U2.set sp o)[dd]? = some (.row (encDir lg nodes ss.length (lastD ss) kc ks (.mp w))) := fun o => by rw [setN hspd]; exact r2
 have rsp : ∀ o o', ((U2.set sp o).set dd o')[sp]? = some o := fun o o' => by rw [setN (Ne.symm hspd)]; exact setG q2 _
 obtain ⟨gW, stW⟩ := gV.kcs (rd _) .nilp .nilp
 have hgb : GoodS nodes (beginsD s3) := by rw [hs3]; exact hg'
 have hb3 := begins_at s3 (by rw [hs3]; simp only; omega)
 have hps := gW.puts hl hgb
 have hkD : (lastD ss).kind = 0 := hkind
 have q3 : U2[sp]? = some (.row [.vs (([x0] : List ShM).map encSh) 6, .int .i64 smv, .int .i64 sep, .int .i64 snx, .int .i64 skd, .int .i64 sph, .int .i64 ssh, .int .i64 sot, .int .i64 snd]) := q2
 subst hs3
 have hst := stV.trans stW
 simp only [encDir, encD, hkind, List.cons_append, List.nil_append] at hps hst
 by_cases c1 : smv < sep
 ·by_cases c2 : sep < snx
  all_goals
   (repeat (first | refine Run.adm rfl ?_ | refine Run.seq ?_ | ((first | apply Run.opS rfl | apply Run.condS); (· (simp -implicitDefEqProofs [r2, hkind, q3, c1, c2, n1, n2, n3, rd, rsp, encDir, encD, encSh]; first | exact ⟨rfl, rfl⟩ | exact rfl)))))
   refine Run.opC rfl rfl rfl (hb3 _) ?_
   rintro v V1 ⟨rfl, e⟩
   replace e := e.symm
   subst e
   (repeat (first | refine Run.adm rfl ?_ | refine Run.seq ?_ | ((first | apply Run.opS rfl | apply Run.condS); (· (simp -implicitDefEqProofs; first | exact ⟨rfl, rfl⟩ | exact rfl)))))
   refine Run.opC rfl rfl rfl hps ?_
   rintro v V2 ⟨rfl, gV2, stV2⟩
   (repeat (first | refine Run.adm rfl ?_ | refine Run.seq ?_ | ((first | apply Run.opS rfl | apply Run.condS); (· (simp -implicitDefEqProofs; first | exact ⟨rfl, rfl⟩ | exact rfl)))))
   refine Run.retS Tryz.func54 r54_ok trivial (by simp [r54]; rfl) ?_
   exact ⟨hst.trans stV2, .inr (.inr ⟨trivial, hkD, by simp, gV2⟩)⟩
 ·by_cases c2 : smv < snx
  all_goals
   (repeat (first | refine Run.adm rfl ?_ | refine Run.seq ?_ | ((first | apply Run.opS rfl | apply Run.condS); (· (simp -implicitDefEqProofs [r2, hkind, q3, c1, c2, n1, n2, n3, rd, rsp, encDir, encD, encSh]; first | exact ⟨rfl, rfl⟩ | exact rfl)))))
   refine Run.opC rfl rfl rfl (hb3 _) ?_
   rintro v V1 ⟨rfl, e⟩
   replace e := e.symm
   subst e
   (repeat (first | refine Run.adm rfl ?_ | refine Run.seq ?_ | ((first | apply Run.opS rfl | apply Run.condS); (· (simp -implicitDefEqProofs; first | exact ⟨rfl, rfl⟩ | exact rfl)))))
   refine Run.opC rfl rfl rfl hps ?_
   rintro v V2 ⟨rfl, gV2, stV2⟩
   (repeat (first | refine Run.adm rfl ?_ | refine Run.seq ?_ | ((first | apply Run.opS rfl | apply Run.condS); (· (simp -implicitDefEqProofs; first | exact ⟨rfl, rfl⟩ | exact rfl)))))
   refine Run.retS Tryz.func54 r54_ok trivial (by simp [r54]; rfl) ?_
   exact ⟨hst.trans stV2, .inr (.inr ⟨trivial, hkD, by simp, gV2⟩)⟩
end ops
attribute [local simp ↓] upd_app tl_cons tl_nil
theorem split1_tri {U : List O} {sp : Nat} {s : DSt} (hl : s.m.length < 64) (h : U[sp]? = some (.row (encD s))) :
  Tri Tryz.prog 64 [.ptr sp 0, .int .i64 0] U (fun v W => v = .int .i64 0 ∧ W[sp]? = some (.row (encD { s with kind := 5 })) ∧ Kept U W [sp]) := by
 have g : ∀ o, (U.set sp o)[sp]? = some o := fun o => setG h o
 have n1 : ¬ (64 : Int) ≤ s.m.length := by omega
 have n2 : ¬ 64 ≤ s.m.length := by omega
 refine Tri.of_run' Tryz.func64 rfl c64_ok (by simp [Tryz.ntmps64]) ?_
 (repeat (first | refine Run.adm rfl ?_ | refine Run.seq ?_ | ((first | apply Run.opS rfl | apply Run.condS); (· (simp -implicitDefEqProofs [h, g, encD, n1, n2]; first | exact ⟨rfl, rfl⟩ | exact rfl)))))
 refine Run.retS Tryz.func64 r64_ok trivial (by simp [r64]; rfl) ?_
 exact ⟨by simp, by simp [encD, g], (Kept.refl U [sp]).set _ _ (.inl (by simp))⟩
section ops
variable {X : List O} {L : List Nat} {d dd m : Nat} {nodes : Int} {ss : List DSt} {kc ks : V} {Z : List O}
def splitB (s : DSt) (x0 : ShM) : DSt := beginsD { s with kind := 5, shard := x0.id }
def BegAt (X : List O) (L : List Nat) (d dd m : Nat) (nodes : Int) (ss : List DSt) (kc ks : V) (key : Bs) (s' : DSt) (v : V) (W : List O) : Prop :=
 (keyB key = false ∧ v = .int .i64 1 ∧ DirG X L d dd m nodes ss kc ks W) ∨ (keyB key = true ∧ (lastD ss).kind ≠ 0 ∧ v = .int .i64 200 ∧ DirG X L d dd m nodes ss kc ks W) ∨
   (keyB key = true ∧ (lastD ss).kind = 0 ∧ v = .int .i64 0 ∧ DirG X L d dd m nodes (ss ++ [s']) .nilp .nilp W)
theorem dsplit_tri {x0 : ShM} (h : DirG X L d dd m nodes ss kc ks Z) (hl : ss.length ≤ 13) (hm : (lastD ss).m = [x0]) (hlo : x0.lo = [] ∧ x0.hi = []) (key : Bs)
  (hg : (lastD ss).kind = 0 → GoodS nodes (splitB (lastD ss) x0)) :
  Tri Tryz.prog 30 [.ptr dd 0, .str key] Z (fun v W => StayL L Z W ∧ BegAt X L d dd m nodes ss kc ks key (splitB (lastD ss) x0) v W) := by
 refine Tri.of_run' Tryz.func30 rfl c30_ok (by simp [Tryz.ntmps30]) ?_
 (repeat (first | refine Run.adm rfl ?_ | refine Run.seq ?_ | ((first | apply Run.opS rfl | apply Run.condS); (· (simp -implicitDefEqProofs; first | exact ⟨rfl, rfl⟩ | exact rfl)))))
 refine Run.opC rfl rfl rfl (dbegin_tri (f := 64) (caps := []) (s' := { lastD ss with kind := 5 }) h hl hm hlo key (fun U sp _ hU _ => split1_tri (by rw [hm]; simp) hU) ⟨hm, rfl, rfl, rfl⟩ hg) ?_
 rintro v W ⟨st, hB⟩
 (repeat (first | refine Run.adm rfl ?_ | refine Run.seq ?_ | ((first | apply Run.opS rfl | apply Run.condS); (· (simp -implicitDefEqProofs; first | exact ⟨rfl, rfl⟩ | exact rfl)))))
 refine Run.retS Tryz.func30 r30_ok trivial (by simp [r30]; rfl) ?_
 refine ⟨st, ?_⟩
 rcases hB with ⟨k, rfl, g⟩ | ⟨k, k2, rfl, g⟩ | ⟨k, k2, rfl, g⟩
 ·exact .inl ⟨k, by simp, g⟩
 ·exact .inr (.inl ⟨k, k2, by simp, g⟩)
 ·exact .inr (.inr ⟨k, k2, by simp, g⟩)
end ops
attribute [local simp ↓] upd_app tl_cons tl_nil
theorem encMsg_eq (M : MsgM) : encMsg M = [.int .i64 M.kind, .int .i64 M.shard, .int .i64 M.other, .int .i64 M.epoch, .int .i64 M.client, .int .i64 M.seq, .int .i64 M.move, .bool M.whole, .int .i64 M.op.kind, .str M.op.key, .str M.op.val, .str M.op.old, .bool M.op.has, .vs (M.op.ws.map encW) 3, .str M.op.lo, .str M.op.hi, .int .i64 M.op.lim, .int .i64 M.rep.err, .str M.rep.val, .bool M.rep.has, .vs (M.rep.ps.map encPr) 2, .str M.rep.upto, .vs (M.map.map encSh) 6, .vs (M.ents.map encET) 4, .vs (M.seen.map encSn) 7] := rfl
theorem fails_at (M : MsgM) (k : Int) (H : List O) : Tri Tryz.prog 95 [.agg (encMsg M), .int .i64 k] H (fun v H' => v = .bool (decide (M.kind = 15) && decide (M.seq = k)) ∧ H' = H) := by
 refine Tri.at (v0 := .bool (decide (M.kind = 15) && decide (M.seq = k))) ?_ rfl rfl H
 rw [encMsg_eq]
 refine Tri.of_run' Tryz.func95 rfl c95_ok (by simp [Tryz.ntmps95]) ?_
 by_cases h : M.kind = 15
 ·(repeat (first | refine Run.adm rfl ?_ | refine Run.seq ?_ | ((first | apply Run.opS rfl | apply Run.condS); (· (simp -implicitDefEqProofs [h]; first | exact ⟨rfl, rfl⟩ | exact rfl)))))
  refine Run.mv [] [(4, .bool (decide (M.seq = k)))] [] (by rfl) (by decide) (by simp -implicitDefEqProofs) (by simp -implicitDefEqProofs) ?_
  refine Run.retI Tryz.func95 r95_ok trivial (by simp -implicitDefEqProofs [r95]; rfl) (by simp ) ?_ (by simp -implicitDefEqProofs ) (by simp -implicitDefEqProofs )
  simp [h]
 ·(repeat (first | refine Run.adm rfl ?_ | refine Run.seq ?_ | ((first | apply Run.opS rfl | apply Run.condS); (· (simp -implicitDefEqProofs [h]; first | exact ⟨rfl, rfl⟩ | exact rfl)))))
  refine Run.mv [] [(4, .bool false)] [] (by rfl) (by decide) (by simp -implicitDefEqProofs) (by simp -implicitDefEqProofs) ?_
  refine Run.retI Tryz.func95 r95_ok trivial (by simp -implicitDefEqProofs [r95]; rfl) (by simp ) ?_ (by simp -implicitDefEqProofs ) (by simp -implicitDefEqProofs )
  simp [h]
theorem is_at (M : MsgM) (k : Int) (H : List O) : Tri Tryz.prog 97 [.agg (encMsg M), .int .i64 k] H (fun v H' => v = .bool (decide (M.kind = 14) && decide (M.seq = k)) ∧ H' = H) := by
 refine Tri.at (v0 := .bool (decide (M.kind = 14) && decide (M.seq = k))) ?_ rfl rfl H
 rw [encMsg_eq]
 refine Tri.of_run' Tryz.func97 rfl c97_ok (by simp [Tryz.ntmps97]) ?_
 by_cases h : M.kind = 14
 ·(repeat (first | refine Run.adm rfl ?_ | refine Run.seq ?_ | ((first | apply Run.opS rfl | apply Run.condS); (· (simp -implicitDefEqProofs [h]; first | exact ⟨rfl, rfl⟩ | exact rfl)))))
  refine Run.mv [] [(4, .bool (decide (M.seq = k)))] [] (by rfl) (by decide) (by simp -implicitDefEqProofs) (by simp -implicitDefEqProofs) ?_
  refine Run.retI Tryz.func97 r97_ok trivial (by simp -implicitDefEqProofs [r97]; rfl) (by simp ) ?_ (by simp -implicitDefEqProofs ) (by simp -implicitDefEqProofs )
  simp [h]
 ·(repeat (first | refine Run.adm rfl ?_ | refine Run.seq ?_ | ((first | apply Run.opS rfl | apply Run.condS); (· (simp -implicitDefEqProofs [h]; first | exact ⟨rfl, rfl⟩ | exact rfl)))))
  refine Run.mv [] [(4, .bool false)] [] (by rfl) (by decide) (by simp -implicitDefEqProofs) (by simp -implicitDefEqProofs) ?_
  refine Run.retI Tryz.func97 r97_ok trivial (by simp -implicitDefEqProofs [r97]; rfl) (by simp ) ?_ (by simp -implicitDefEqProofs ) (by simp -implicitDefEqProofs )
  simp [h]
def samP (a b : ShM) : Bool := decide (a.id = b.id) && decide (a.ep = b.ep)
def sameL (l k : List ShM) : Bool := decide (l.length = k.length) && (l.zip k).all fun p => samP p.1 p.2
theorem samP_at (a b : ShM) (H : List O) : Tri Tryz.prog 146 [.agg (encSh a), .agg (encSh b)] H (fun v H' => v = .bool (samP a b) ∧ H' = H) := by
 refine Tri.at (v0 := .bool (samP a b)) ?_ rfl rfl H
 refine Tri.of_run' Tryz.func146 rfl c146_ok (by simp [Tryz.ntmps146]) ?_
 by_cases h : a.id = b.id
 ·(repeat (first | refine Run.adm rfl ?_ | refine Run.seq ?_ | ((first | apply Run.opS rfl | apply Run.condS); (· (simp -implicitDefEqProofs [h, encSh]; first | exact ⟨rfl, rfl⟩ | exact rfl)))))
  refine Run.mv [] [(4, .bool (decide (a.ep = b.ep)))] [] (by rfl) (by decide) (by simp -implicitDefEqProofs) (by simp -implicitDefEqProofs) ?_
  refine Run.retI Tryz.func146 r146_ok trivial (by simp -implicitDefEqProofs [r146]; rfl) (by simp ) ?_ (by simp -implicitDefEqProofs ) (by simp -implicitDefEqProofs )
  simp [h, samP]
 ·(repeat (first | refine Run.adm rfl ?_ | refine Run.seq ?_ | ((first | apply Run.opS rfl | apply Run.condS); (· (simp -implicitDefEqProofs [h, encSh]; first | exact ⟨rfl, rfl⟩ | exact rfl)))))
  refine Run.mv [] [(4, .bool false)] [] (by rfl) (by decide) (by simp -implicitDefEqProofs) (by simp -implicitDefEqProofs) ?_
  refine Run.retI Tryz.func146 r146_ok trivial (by simp -implicitDefEqProofs [r146]; rfl) (by simp ) ?_ (by simp -implicitDefEqProofs ) (by simp -implicitDefEqProofs )
  simp [h, samP]
theorem eqf_at {l k : List ShM} {U : List O} {id : Nat} (hk : U[id]? = some (.arr (k.map encSh) 6)) (hl : l.length ≤ 1000000) :
  Tri Tryz.prog 145 [.vs (l.map encSh) 6, .sl id 0 k.length 6 (some k.length), .fn 146 []] U (fun v W => v = .bool (sameL l k) ∧ Kept U W []) := by
 refine Tri.of_run' Tryz.func145 rfl c145_ok (by simp [Tryz.ntmps145]) ?_
 by_cases hlen : l.length = k.length
 rotate_left
 ·have h2 : ¬ (l.length : Int) = k.length := by omega
  (repeat (first | refine Run.adm rfl ?_ | refine Run.seq ?_ | ((first | apply Run.opS rfl | apply Run.condS); (· (simp -implicitDefEqProofs [hlen, h2]; first | exact ⟨rfl, rfl⟩ | exact rfl)))))
  refine Run.retS Tryz.func145 r145_ok trivial (by simp [r145]; rfl) ?_
  exact ⟨by simp [sameL, hlen], Kept.refl U []⟩
 have hlenI : (l.length : Int) = k.length := by omega
 (repeat (first | refine Run.adm rfl ?_ | refine Run.seq ?_ | ((first | apply Run.opS rfl | apply Run.condS); (· (simp -implicitDefEqProofs [hlen, hlenI]; first | exact ⟨rfl, rfl⟩ | exact rfl)))))
 refine Run.sl [(0, .vs (l.map encSh) 6), (1, .sl id 0 k.length 6 (some k.length)), (2, .fn 146 []), (15, .vs (l.map encSh) 6), (16, .int .i64 k.length), (17, .int .i64 (0 : Nat))] (by simp) ?_
 refine Run.loopS (fun (x : Nat × List O) => ([(0, .vs (l.map encSh) 6), (1, .sl id 0 k.length 6 (some k.length)), (2, .fn 146 []), (15, .vs (l.map encSh) 6), (16, .int .i64 k.length), (17, .int .i64 x.1)], x.2))
  (fun x => x.1 ≤ l.length ∧ ((l.zip k).take x.1).all (fun p => samP p.1 p.2) = true ∧ Kept U x.2 []) (fun x => l.length - x.1) ?_ (0, U) ⟨Nat.zero_le _, rfl, Kept.refl _ _⟩
 rintro ⟨i, W⟩ ⟨hi, hal, hW⟩ ih
 simp only at hi hal hW ih ⊢
 by_cases hlt : i < l.length
 ·obtain ⟨x, hx, hxi, -, -⟩ := getL hlt
  have hlk : i < k.length := by omega
  obtain ⟨y, hy, hyi, -, -⟩ := getL hlk
  have hlt' : (i : Int) < k.length := by omega
  have hlt2 : (i : Int) < l.length := by omega
  have hw := wrap_small (n := (i : Int) + 1) (by omega) (by omega)
  have htk : ∀ z, (encSh z).take 6 = encSh z := fun _ => rfl
  have k1 : ∀ o, (W ++ o)[id]? = some (.arr (k.map encSh) 6) := fun o => by rw [List.getElem?_append_left (lt_of_get (hW.get hk (by simp)))]; exact hW.get hk (by simp)
  have k2 := hW.get hk (by simp)
  have hzip : (l.zip k)[i]? = some (x, y) := by rw [List.getElem?_zip_eq_some]; exact ⟨hx, hy⟩
  (repeat (first | refine Run.adm rfl ?_ | refine Run.seq ?_ | ((first | apply Run.opS rfl | apply Run.condS); (· (simp -implicitDefEqProofs [hlt, hlt', hlt2, hlk, hx, hxi, hy, hyi, htk, k1, k2]; first | exact ⟨rfl, rfl⟩ | exact rfl)))))
  refine Run.opC rfl rfl rfl (samP_at x y _) ?_
  rintro v W2 ⟨rfl, e⟩
  replace e := e.symm
  subst e
  cases hs : samP x y
  ·(repeat (first | refine Run.adm rfl ?_ | refine Run.seq ?_ | ((first | apply Run.opS rfl | apply Run.condS); (· (simp -implicitDefEqProofs [hs]; first | exact ⟨rfl, rfl⟩ | exact rfl)))))
   refine Run.retS Tryz.func145 r145_ok trivial (by simp [r145]; rfl) ?_
   refine ⟨?_, hW.app _⟩
   have hm : (x, y) ∈ l.zip k := List.mem_of_getElem? hzip
   have : (l.zip k).all (fun p => samP p.1 p.2) = false := by
    rw [Bool.eq_false_iff]; intro hh
    have := List.all_eq_true.1 hh _ hm
    simp [hs] at this
   simp [sameL, this]
  ·(repeat (first | refine Run.adm rfl ?_ | refine Run.seq ?_ | ((first | apply Run.opS rfl | apply Run.condS); (· (simp -implicitDefEqProofs [hs]; first | exact ⟨rfl, rfl⟩ | exact rfl)))))
   refine Run.sl _ ?_ (ih (i + 1, W ++ [.row (encSh x), .row (encSh y)]) ⟨by simp only; omega, ?_, hW.app _⟩ (by simp only; omega))
   ·simp [hw]
   ·simp only; rw [List.take_add_one, hzip, List.all_append, hal]; simp [hs]
 ·have : i = l.length := by omega
  subst this
  have h1 : ¬ (l.length : Int) < k.length := by omega
  (repeat (first | refine Run.adm rfl ?_ | refine Run.seq ?_ | ((first | apply Run.opS rfl | apply Run.condS); (· (simp -implicitDefEqProofs [h1]; first | exact ⟨rfl, rfl⟩ | exact rfl)))))
  refine Run.retS Tryz.func145 r145_ok trivial (by simp [r145]; rfl) ?_
  refine ⟨?_, hW⟩
  have : (l.zip k).take l.length = l.zip k := List.take_of_length_le (by simp; omega)
  rw [this] at hal
  simp [sameL, hlen, hal]
theorem same_at {l k : List ShM} {U : List O} {id : Nat} (hk : U[id]? = some (.arr (k.map encSh) 6)) (hl : l.length ≤ 1000000) :
  Tri Tryz.prog 98 [.vs (l.map encSh) 6, .sl id 0 k.length 6 (some k.length)] U (fun v W => v = .bool (sameL l k) ∧ Kept U W []) := by
 refine Tri.of_run' Tryz.func98 rfl c98_ok (by simp [Tryz.ntmps98]) ?_
 (repeat (first | refine Run.adm rfl ?_ | refine Run.seq ?_ | ((first | apply Run.opS rfl | apply Run.condS); (· (simp -implicitDefEqProofs; first | exact ⟨rfl, rfl⟩ | exact rfl)))))
 refine Run.opC rfl rfl rfl (eqf_at hk hl) ?_
 rintro v W ⟨rfl, hW⟩
 (repeat (first | refine Run.adm rfl ?_ | refine Run.seq ?_ | ((first | apply Run.opS rfl | apply Run.condS); (· (simp -implicitDefEqProofs; first | exact ⟨rfl, rfl⟩ | exact rfl)))))
 refine Run.retS Tryz.func98 r98_ok trivial (by simp [r98]; rfl) ?_
 exact ⟨by simp, hW⟩
theorem grow_at (n : Nat) (hn : 0 < n) (hn2 : n ≤ 100000) (U : List O) : Tri Tryz.prog 182 [.nils, .int .i64 n] U (fun v W => v = .sl U.length 0 0 6 none ∧ W = U ++ [.arr [] 6]) := by
 have h1 : ¬ (n : Int) < 0 := by omega
 have h2 : (n : Int) ≤ 70368744177664 := by omega
 have h3 : n * 64 ≤ 70368744177664 := by omega
 have w1 := wrap_small (n := (n : Int)) (by omega) (by omega)
 have h4 : ¬ n = 0 := by omega
 have h5 : (0 : Int) < n := by omega
 refine Tri.of_run' Tryz.func182 rfl c182_ok (by simp [Tryz.ntmps182]) ?_
 have w0 : IntKind.i64.wrap 0 = 0 := wrap_small (n := 0) (by decide) (by decide)
 (repeat (first | refine Run.adm rfl ?_ | refine Run.seq ?_ | ((first | apply Run.opS rfl | apply Run.condS); (· (simp -implicitDefEqProofs [h1, h2, h3, w0, w1, h4, h5, hn]; first | exact ⟨rfl, rfl⟩ | exact rfl)))))
 refine Run.leS U.length 0 (es := List.replicate n [.int .i64 0, .str [], .str [], .int .i64 0, .int .i64 0, .int .i64 0]) (sz := 6) (by simp) ?_
 (repeat (first | refine Run.adm rfl ?_ | refine Run.seq ?_ | ((first | apply Run.opS rfl | apply Run.condS); (· (simp -implicitDefEqProofs; first | exact ⟨rfl, rfl⟩ | exact rfl)))))
 refine Run.retS Tryz.func182 r182_ok trivial (by simp [r182]; rfl) ?_
 exact ⟨by simp, by simp⟩
def totC (a b c : List ShM) : Nat → Nat
 | 0 => 0
 | 1 => a.length
 | 2 => a.length + b.length
 | _ => a.length + b.length + c.length
def catC (a b c : List ShM) : Nat → List ShM
 | 0 => []
 | 1 => a
 | 2 => a ++ b
 | _ => a ++ b ++ c
def nthC (a b c : List ShM) : Nat → List ShM
 | 0 => a
 | 1 => b
 | _ => c
theorem totC_succ (a b c) {i : Nat} (h : i < 3) : totC a b c (i + 1) = totC a b c i + (nthC a b c i).length := by
 obtain rfl | rfl | rfl : i = 0 ∨ i = 1 ∨ i = 2 := by omega
 all_goals simp [totC, nthC]
theorem catC_succ (a b c) {i : Nat} (h : i < 3) : catC a b c (i + 1) = catC a b c i ++ nthC a b c i := by
 obtain rfl | rfl | rfl : i = 0 ∨ i = 1 ∨ i = 2 := by omega
 all_goals simp [catC, nthC]
theorem catC_len (a b c i) : (catC a b c i).length = totC a b c i := by
 match i with
 | 0 => rfl
 | 1 => rfl
 | 2 => simp [catC, totC]
 | i + 3 => simp [catC, totC]; omega
theorem totC_le (a b c i) : totC a b c i ≤ a.length + b.length + c.length := by
 match i with
 | 0 => simp [totC]
 | 1 => simp [totC]; omega
 | 2 => simp [totC]
 | i + 3 => simp [totC]
theorem nthC_get (a b c : List ShM) {i : Nat} (h : i < 3) : ([[.vs (a.map encSh) 6], [.vs (b.map encSh) 6], [.vs (c.map encSh) 6]] : List (List V))[i]? = some [.vs ((nthC a b c i).map encSh) 6] := by
 obtain rfl | rfl | rfl : i = 0 ∨ i = 1 ∨ i = 2 := by omega
 all_goals rfl
theorem concat_at {a b c : List ShM} {U : List O} {id : Nat} {q : Option Nat} (h : U[id]? = some (.arr [[.vs (a.map encSh) 6], [.vs (b.map encSh) 6], [.vs (c.map encSh) 6]] 1)) (hn : 0 < a.length + b.length + c.length) (hn2 : a.length + b.length + c.length ≤ 10000) :
  Tri Tryz.prog 148 [.sl id 0 3 1 q] U (fun v W => ∃ g, U.length ≤ g ∧ v = .sl g 0 (a.length + b.length + c.length) 6 none ∧ W[g]? = some (.arr ((a ++ b ++ c).map encSh) 6) ∧ Kept U W []) := by
 have hUl := lt_of_get h
 refine Tri.of_run' Tryz.func148 rfl c148_ok (by simp [Tryz.ntmps148]) ?_
 (repeat (first | refine Run.adm rfl ?_ | refine Run.seq ?_ | ((first | apply Run.opS rfl | apply Run.condS); (· (simp -implicitDefEqProofs; first | exact ⟨rfl, rfl⟩ | exact rfl)))))
 refine Run.sl [(0, .sl id 0 3 1 q), (3, .int .i64 (0 : Nat)), (9, .sl id 0 3 1 q), (10, .int .i64 (3 : Nat)), (11, .int .i64 (0 : Nat))] (by simp) ?_
 refine Run.loopS (fun (i : Nat) => ([(0, .sl id 0 3 1 q), (3, .int .i64 (totC a b c i)), (9, .sl id 0 3 1 q), (10, .int .i64 (3 : Nat)), (11, .int .i64 i)], U)) (fun i => i ≤ 3) (fun i => 3 - i) ?_ 0 (by omega)
 intro i hi ih
 simp only at ih ⊢
 by_cases hlt : i < 3
 ·have hlt' : (i : Int) < 3 := by omega
  have hw := wrap_small (n := (i : Int) + 1) (by omega) (by omega)
  have ht := totC_le a b c (i + 1)
  rw [totC_succ a b c hlt] at ht
  have hw2 := wrap_small (n := (totC a b c i : Int) + (nthC a b c i).length) (by omega) (by omega)
  have hg := nthC_get a b c hlt
  have hgi := (List.getElem?_eq_some_iff.1 hg).2
  have h0 : ¬ (totC a b c i : Int) + (nthC a b c i).length < 0 := by omega
  (repeat (first | refine Run.adm rfl ?_ | refine Run.seq ?_ | ((first | apply Run.opS rfl | apply Run.condS); (· (simp -implicitDefEqProofs [hlt', hlt, h, hg, hgi, hw2, h0]; first | exact ⟨rfl, rfl⟩ | exact rfl)))))
  refine Run.sl _ ?_ (ih (i + 1) (by omega) (by omega))
  simp [hw, totC_succ a b c hlt]
 ·have : i = 3 := by omega
  subst this
  have ht3 : totC a b c 3 = a.length + b.length + c.length := rfl
  rw [ht3]
  (repeat (first | refine Run.adm rfl ?_ | refine Run.seq ?_ | ((first | apply Run.opS rfl | apply Run.condS); (· (simp -implicitDefEqProofs; first | exact ⟨rfl, rfl⟩ | exact rfl)))))
  refine Run.opC rfl rfl rfl (grow_at _ hn (by omega) U) ?_
  rintro v W ⟨rfl, rfl⟩
  (repeat (first | refine Run.adm rfl ?_ | refine Run.seq ?_ | ((first | apply Run.opS rfl | apply Run.condS); (· (simp -implicitDefEqProofs; first | exact ⟨rfl, rfl⟩ | exact rfl)))))
  refine Run.sl [(6, .sl U.length 0 (0 : Nat) 6 none), (25, .sl id 0 3 1 q), (26, .int .i64 (3 : Nat)), (27, .int .i64 (0 : Nat))] (by simp) ?_
  refine Run.loopS (fun (x : Nat × Nat × List O) => ([(6, .sl x.2.1 0 (totC a b c x.1) 6 none), (25, .sl id 0 3 1 q), (26, .int .i64 (3 : Nat)), (27, .int .i64 x.1)], x.2.2))
   (fun x => x.1 ≤ 3 ∧ U.length ≤ x.2.1 ∧ x.2.2[x.2.1]? = some (.arr ((catC a b c x.1).map encSh) 6) ∧ Kept U x.2.2 []) (fun x => 3 - x.1) ?_ (0, U.length, U ++ [.arr [] 6]) ⟨by simp only; omega, Nat.le_refl _, by simp [catC], (Kept.refl U []).app _⟩
  rintro ⟨i, g, W⟩ ⟨hi, hgU, hW, hk⟩ ih
  simp only at hi hgU hW hk ih ⊢
  by_cases hlt : i < 3
  ·have hlt' : (i : Int) < 3 := by omega
   have hw := wrap_small (n := (i : Int) + 1) (by omega) (by omega)
   have ht := totC_le a b c (i + 1)
   rw [totC_succ a b c hlt] at ht
   have hg := nthC_get a b c hlt
   have hgi := (List.getElem?_eq_some_iff.1 hg).2
   have hidW := hk.get h (by simp)
   have hcl := catC_len a b c i
   have hb : (totC a b c i + (nthC a b c i).length) * 64 ≤ 70368744177664 := by omega
   (repeat (first | refine Run.adm rfl ?_ | refine Run.seq ?_ | ((first | apply Run.opS rfl | apply Run.condS); (· (simp -implicitDefEqProofs [hlt', hlt, hidW, hg, hgi, hW, hcl, hb]; first | exact ⟨rfl, rfl⟩ | exact rfl)))))
   refine Run.sl _ ?_ (ih (i + 1, W.length, W.set g .gone ++ [.arr ((catC a b c i).map encSh ++ (nthC a b c i).map encSh) 6]) ⟨by simp only; omega, by have := hk.1; simp only; omega, ?_, (hk.set _ _ (.inr hgU)).app _⟩ (by simp only; omega))
   ·simp [hw, totC_succ a b c hlt]
   ·have : W.length = (W.set g .gone).length := by simp
    simp only
    rw [this, List.getElem?_concat_length, catC_succ a b c hlt]; simp
  ·have : i = 3 := by omega
   subst this
   (repeat (first | refine Run.adm rfl ?_ | refine Run.seq ?_ | ((first | apply Run.opS rfl | apply Run.condS); (· (simp -implicitDefEqProofs; first | exact ⟨rfl, rfl⟩ | exact rfl)))))
   refine Run.retS Tryz.func148 r148_ok trivial (by simp [r148]; rfl) ?_
   exact ⟨g, hgU, by simp [totC], by rw [hW]; simp [catC], hk⟩
def srv (x : ShM) : ShM := { x with st := 2 }
def setC (ls : List ShM) (i : Nat) : List ShM := (ls.take i).map srv ++ ls.drop i
theorem setC_len (ls i) : (setC ls i).length = ls.length := by simp [setC]; omega
theorem setC_get {ls : List ShM} {i : Nat} (h : i < ls.length) : (setC ls i)[i]? = ls[i]? := by
 simp only [setC]
 rw [List.getElem?_append_right (by simp; omega)]
 simp [Nat.min_eq_left (Nat.le_of_lt h)]
theorem setC_succ {ls : List ShM} {i : Nat} {x : ShM} (h : ls[i]? = some x) : (setC ls i).set i (srv x) = setC ls (i + 1) := by
 have hi := (List.getElem?_eq_some_iff.1 h).1
 have hx : ls[i] = x := (List.getElem?_eq_some_iff.1 h).2
 simp only [setC]
 rw [List.set_append_right _ _ (by simp; omega), List.take_add_one, h]
 simp only [List.length_map, List.length_take, Nat.min_eq_left (Nat.le_of_lt hi), Nat.sub_self]
 rw [List.drop_eq_getElem_cons hi, List.set_cons_zero]
 simp
theorem setC_all (ls) : setC ls ls.length = ls.map srv := by simp [setC]
theorem place_at {s : DSt} {ls : List ShM} {at_ many : Nat} {U : List O} {l : Nat} {q : Option Nat} (h : U[l]? = some (.arr (ls.map encSh) 6)) (ha : at_ + many ≤ s.m.length) (hl : s.m.length ≤ 1000) (hl2 : ls.length ≤ 1000) (hne : ls ≠ []) :
  Tri Tryz.prog 101 [.agg (encD s), .int .i64 at_, .int .i64 many, .sl l 0 ls.length 6 q] U (fun v W => v = .agg (encD { s with m := s.m.take at_ ++ ls.map srv ++ s.m.drop (at_ + many) }) ∧ Kept U W [l]) := by
 have hUl := lt_of_get h
 obtain ⟨sm, smv, sep, snx, skd, sph, ssh, sot, snd⟩ := s
 simp only at ha hl ⊢
 refine Tri.of_run' Tryz.func101 rfl c101_ok (by simp [Tryz.ntmps101]) ?_
 (repeat (first | refine Run.adm rfl ?_ | refine Run.seq ?_ | ((first | apply Run.opS rfl | apply Run.condS); (· (simp -implicitDefEqProofs [encD]; first | exact ⟨rfl, rfl⟩ | exact rfl)))))
 obtain ⟨b4, hb4⟩ : ∃ b4, b4 = U.length := ⟨_, rfl⟩
 obtain ⟨b8, hb8⟩ : ∃ b8, b8 = U.length + 1 := ⟨_, rfl⟩
 refine run_to [(1, .int .i64 at_), (2, .int .i64 many), (3, .sl l 0 ls.length 6 q), (4, .ptr b4 0), (8, .ptr b8 0), (10, .sl l 0 ls.length 6 q), (11, .int .i64 ls.length), (12, .int .i64 (0 : Nat))]
  (fun W => W[l]? = some (.arr ((setC ls 0).map encSh) 6) ∧ W[b4]? = some (.row (encD ⟨sm, smv, sep, snx, skd, sph, ssh, sot, snd⟩)) ∧ (∃ z, z.length = 9 ∧ W[b8]? = some (.row z)) ∧ Kept U W [l]) (by simp [hb4, hb8]) ⟨by simp [setC]; exact getA h _, by simp [hb4, encD], ⟨_, rfl, by simp [hb8]; rfl⟩, ((Kept.refl U []).app _).mono (by simp)⟩ ?_
 rintro W0 hW0
 refine Run.loopS (fun (x : Nat × List O) => ([(1, .int .i64 at_), (2, .int .i64 many), (3, .sl l 0 ls.length 6 q), (4, .ptr b4 0), (8, .ptr b8 0), (10, .sl l 0 ls.length 6 q), (11, .int .i64 ls.length), (12, .int .i64 x.1)], x.2))
  (fun x => x.1 ≤ ls.length ∧ x.2[l]? = some (.arr ((setC ls x.1).map encSh) 6) ∧ x.2[b4]? = some (.row (encD ⟨sm, smv, sep, snx, skd, sph, ssh, sot, snd⟩)) ∧ (∃ z, z.length = 9 ∧ x.2[b8]? = some (.row z)) ∧ Kept U x.2 [l]) (fun x => ls.length - x.1) ?_ (0, W0) ⟨Nat.zero_le _, hW0⟩
 rintro ⟨i, W⟩ ⟨hi, w1, w2, ⟨z, hz, w3⟩, hk⟩ ih
 simp only at hi w1 w2 w3 hk ih ⊢
 by_cases hlt : i < ls.length
 ·obtain ⟨x, hx, hxi, -, -⟩ := getL hlt
  have hlt' : (i : Int) < ls.length := by omega
  have hw := wrap_small (n := (i : Int) + 1) (by omega) (by omega)
  have hsc : ((setC ls i).map encSh)[i]? = some (encSh x) := by simp [setC_get hlt, hx]
  have hscl : i < ((setC ls i).map encSh).length := by simp [setC_len]; omega
  have hsi : ∀ p, (setC ls i)[i]'p = x := fun p => by
   have := setC_get hlt
   rw [List.getElem?_eq_getElem p, hx] at this
   exact Option.some.inj this
  have hset : ((setC ls i).map encSh).set i [.int .i64 x.id, .str x.lo, .str x.hi, .int .i64 x.ep, .int .i64 x.node, .int .i64 2] = (setC ls (i + 1)).map encSh := by
   rw [← setC_succ hx, List.map_set]; rfl
  have hl4 : l ≠ b4 := by omega
  have hl8 : l ≠ b8 := by omega
  (repeat (first | refine Run.adm rfl ?_ | refine Run.seq ?_ | ((first | apply Run.opS rfl | apply Run.condS); (· (simp -implicitDefEqProofs [hlt, hlt', w1, hsc, hscl, setC_len, hsi, encSh]; first | exact ⟨rfl, rfl⟩ | exact rfl)))))
  rw [hset]
  refine Run.sl _ ?_ (ih (i + 1, W.set l (.arr ((setC ls (i + 1)).map encSh) 6)) ⟨by simp only; omega, setG w1 _, by simp only; rw [setN hl4]; exact w2, ⟨z, hz, by simp only; rw [setN hl8]; exact w3⟩, hk.set _ _ (.inl (by simp))⟩ (by simp only; omega))
  simp [hw]
 ·have : i = ls.length := by omega
  subst this
  rw [setC_all] at w1
  have hl4 : l ≠ b4 := by omega
  have hl8 : l ≠ b8 := by omega
  (repeat (first | refine Run.adm rfl ?_ | refine Run.seq ?_ | ((first | apply Run.opS rfl | apply Run.condS); (· (simp -implicitDefEqProofs; first | exact ⟨rfl, rfl⟩ | exact rfl)))))
  refine Run.frzS l w1 ?_
  have v2 : (W.set l .gone)[b4]? = some (.row (encD ⟨sm, smv, sep, snx, skd, sph, ssh, sot, snd⟩)) := by rw [setN hl4]; exact w2
  have v3 : (W.set l .gone)[b8]? = some (.row z) := by rw [setN hl8]; exact w3
  have hkY : Kept U (W.set l .gone) [l] := hk.set _ _ (.inl (by simp))
  generalize W.set l .gone = Y at *
  obtain ⟨ls', hls⟩ : ∃ l', l' = ls.map srv := ⟨_, rfl⟩
  have hlen' : ls'.length = ls.length := by rw [hls]; simp
  have hne' : 0 < ls.length := List.length_pos_iff.2 hne
  rw [← hls]
  refine Run.sl [(1, .int .i64 at_), (2, .int .i64 many), (3, .vs (ls'.map encSh) 6), (4, .ptr b4 0), (8, .ptr b8 0)] (by simp [V.frz, hlen', List.take_of_length_le (Nat.le_of_eq ((List.length_map encSh).trans hlen'))]) ?_
  obtain ⟨E, hE⟩ : ∃ E, E = sm.map encSh := ⟨_, rfl⟩
  have hEl : E.length = sm.length := by rw [hE]; simp
  obtain ⟨A, hA⟩ : ∃ A, A = sm.take at_ := ⟨_, rfl⟩
  obtain ⟨C, hC⟩ : ∃ C, C = sm.drop (at_ + many) := ⟨_, rfl⟩
  have hAl : A.length ≤ 1000 := by rw [hA]; simp; omega
  have hCl : C.length ≤ 1000 := by rw [hC]; simp; omega
  have hE1 : E.take at_ = A.map encSh := by rw [hE, hA, List.map_take]
  have hE2 : E.drop (at_ + many) = C.map encSh := by rw [hE, hC, List.map_drop]
  rw [← hA, ← hC]
  have hE3 : E.take sm.length = E := List.take_of_length_le (by omega)
  have hw := wrap_small (n := (at_ : Int) + many) (by omega) (by omega)
  have a1 : (at_ : Int) ≤ sm.length := by omega
  have a2 : (at_ : Int) + many ≤ sm.length := by omega
  have a3 : 0 ≤ (at_ : Int) + many := by omega
  have a4 : ((at_ : Int) + many).toNat = at_ + many := by omega
  simp only [encD, ← hE] at v2
  refine Run.qchain prog_mixed 11 (by kernel_rfl) ?_
  (repeat (first | refine execQ_E rfl ?_ | (apply execQ_S rfl; (· (simp -implicitDefEqProofs [v2, hEl, hE3, hw, a1, a2, a3, a4]; exact ⟨rfl, rfl⟩)))))
  (repeat (first | refine SeqR.E rfl ?_ | (apply SeqR.o0 rfl; (· (simp -implicitDefEqProofs [hE1, hE2]; exact ⟨rfl, rfl⟩))) | (apply SeqR.A rfl; (· (simp -implicitDefEqProofs [hE1, hE2]; done)); (· (simp -implicitDefEqProofs [hE1, hE2]; exact ⟨rfl, rfl⟩))) | (apply SeqR.N rfl; (· (simp -implicitDefEqProofs [hE1, hE2]; done)))))
  have hY : (Y ++ [O.arr [[.vs (A.map encSh) 6], [.vs (ls'.map encSh) 6], [.vs (C.map encSh) 6]] 1])[Y.length]? = some (.arr [[.vs (A.map encSh) 6], [.vs (ls'.map encSh) 6], [.vs (C.map encSh) 6]] 1) := by simp
  refine SeqR.C rfl rfl rfl (concat_at hY (by omega) (by omega)) ?_
  rintro v W2 ⟨g, hg, rfl, hWg, hkW⟩
  have hkU : Kept U W2 [l] := ((hkY.app _).trans hkW).mono (by simp)
  have b4l := lt_of_get v2
  have b8l := lt_of_get v3
  have y2 := hkW.get (getA v2 _) (by simp)
  have y3 := hkW.get (getA v3 _) (by simp)
  (repeat (first | refine SeqR.E rfl ?_ | (apply SeqR.o0 rfl; (· (simp -implicitDefEqProofs [y2]; exact ⟨rfl, rfl⟩))) | (apply SeqR.A rfl; (· (simp -implicitDefEqProofs [y2]; done)); (· (simp -implicitDefEqProofs [y2]; exact ⟨rfl, rfl⟩))) | (apply SeqR.N rfl; (· (simp -implicitDefEqProofs [y2]; done)))))
  have hgb : g ≠ b4 := by simp at hg; omega
  have hgb8 : g ≠ b8 := by simp at hg; omega
  have h48 : b4 ≠ b8 := by omega
  generalize hm' : A ++ ls' ++ C = m' at *
  have hml : A.length + ls'.length + C.length = m'.length := by rw [← hm']; simp; omega
  rw [hml]
  refine Run.sl [(4, .ptr b4 0), (8, .ptr b8 0)] (by simp) ?_
  refine run_to [(4, .ptr b4 0), (8, .ptr b8 0)] (fun Q => Q[g]? = some (.arr (m'.map encSh) 6) ∧ Q[b4]? = some (.row [.sl g 0 m'.length 6 none, .int .i64 smv, .int .i64 sep, .int .i64 snx, .int .i64 skd, .int .i64 sph, .int .i64 ssh, .int .i64 sot, .int .i64 snd]) ∧ Q[b8]? = some (.row z) ∧ Kept U Q [l]) (by simp)
   ⟨by rw [setN (Ne.symm hgb)]; exact hWg, setG y2 _, by rw [setN h48]; exact y3, hkU.set _ _ (.inr (by omega))⟩ ?_
  rintro Q ⟨q1, q2, q3, hkQ⟩
  refine Run.frzR g b4 q1 q2 ?_
  have r2 : ∀ o, ((Q.set g .gone).set b4 o)[b4]? = some o := fun o => by rw [List.getElem?_set_self]; simpa using lt_of_get q2
  have r3 : ∀ o o', ((Q.set g o').set b4 o)[b8]? = some (.row z) := fun o o' => by rw [setN h48, setN hgb8]; exact q3
  have hz' := hz
  have htk : (m'.map encSh).take m'.length = m'.map encSh := List.take_of_length_le (by simp)
  have r4 : ∀ o o' o'', (((Q.set g o').set b4 o).set b8 o'')[b8]? = some o'' := fun o o' o'' => by rw [List.getElem?_set_self]; simpa using lt_of_get q3
  have hzd : z.drop 9 = [] := List.drop_eq_nil_of_le (by omega)
  (repeat (first | refine Run.adm rfl ?_ | refine Run.seq ?_ | ((first | apply Run.opS rfl | apply Run.condS); (· (simp -implicitDefEqProofs [V.frz, r2, r3, htk, hz, hzd]; first | exact ⟨rfl, rfl⟩ | exact rfl)))))
  refine Run.retS Tryz.func101 r101_ok trivial (by simp [r101, r4]; rfl) ?_
  exact ⟨by simp [encD], ((hkQ.set _ _ (.inr (by simp at hg; have := hkY.1; omega))).set _ _ (.inr (by omega))).set _ _ (.inr (by omega))⟩
end Go.Proofs.YthphkcpbglhabaaGreatDoor
