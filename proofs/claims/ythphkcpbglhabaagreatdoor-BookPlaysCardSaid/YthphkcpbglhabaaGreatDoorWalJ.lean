/-
  Layer 06, part J: a log of one's own; Add.
-/
import Derived.Test.YthphkcpbglhabaaGreatDoorWalI
namespace Go.Proofs.YthphkcpbglhabaaGreatDoor
open Sx Go
set_option maxRecDepth 100000
set_option linter.unusedSimpArgs false
set_option linter.unusedVariables false
set_option linter.unnecessarySimpa false
attribute [local simp] stepV condR boundsC appendG appendO copyV srcC guardB isCall opStep Opd.ev put readAt aBin aUn args0 V.celled V.ones V.one V.cells putAt bounds bound1 elemsOf srcOf appendV fillAt fillEl V.pures V.pure unwind evs ARes.ev mkRes V.ren V.renL O.ren eqCells eq1 aEq aMM hasTy hasTyN okTy mmGo Known HLe OLe VsLe.refl VLe.refl VLe.cap Stay VsLe V.frz V.frzL O.frz fr clearV rn KnownR Objs OLeO ObjsE nm back setAll ren_ite take_map_len List.take_of_length_le
attribute [local simp ↓] upd_app tl_cons tl_nil
attribute [local simp] encS_ren encS_ones encS_len encS_take KnownS VLe.refl

theorem Own.sub {X L L' d D Y} (h : Own X L d D Y) (hs : ∀ i ∈ L', i ∈ L) : Own X L' d D Y := by
  obtain ⟨F, h1, h2, h3, h4⟩ := h
  exact ⟨F, h1, h2, h3, fun i hi => h4 i (hs i hi)⟩
theorem Own.lt {X L d D Y} (h : Own X L d D Y) {i : Nat} (hi : i ∈ L) : i < Y.length := by
  obtain ⟨F, h1, h2, h3, h4⟩ := h
  exact (h4 i hi).2.1

/-- a log in the heap -/
def LogAt (Y : List O) (lg a d : Nat) (ts : List (Bs × Nat)) (n : Nat) : Prop :=
  Y[lg]? = some (.row [.ptr d 0, .sl a 0 ts.length 2 none, .int .i64 n]) ∧ Y[a]? = some (.arr (ts.map encT) 2)
/-- a log of one's own -/
def WalOwn (X : List O) (L : List Nat) (d : Nat) (D : Dk) (lg : Nat) (ts : List (Bs × Nat)) (n : Nat) (Y : List O) : Prop :=
  ∃ a, Own X (a :: lg :: L) d D Y ∧ a ≠ lg ∧ a ∉ L ∧ lg ∉ L ∧ LogAt Y lg a d ts n
theorem LogAt.stay {Y Z lg a d ts n} {L : List Nat} (h : LogAt Y lg a d ts n) (hs : StayL (a :: lg :: L) Y Z) : LogAt Z lg a d ts n :=
  ⟨(hs lg (by simp)).trans h.1, (hs a (by simp)).trans h.2⟩
theorem StayL.tl {Y Z : List O} {i : Nat} {L : List Nat} (h : StayL (i :: L) Y Z) : StayL L Y Z := fun j hj => h j (List.mem_cons_of_mem _ hj)
theorem StayL.trans {Y Z W : List O} {L : List Nat} (h : StayL L Y Z) (k : StayL L Z W) : StayL L Y W := fun j hj => (k j hj).trans (h j hj)

/-- a text behind the others -/
theorem WalOwn.app {X : List O} {L : List Nat} {d : Nat} {D : Dk} {Z : List O} {lg a n : Nat} {ts : List (Bs × Nat)} (h : LogAt Z lg a d ts n) (hZ : Own X (a :: lg :: L) d D Z) (na : a ≠ lg) (naL : a ∉ L) (nlL : lg ∉ L) (B : O) (x : Bs × Nat) :
    WalOwn X L d D lg (ts ++ [x]) n (((Z ++ [B]).set a O.gone ++ [O.arr (ts.map encT ++ [encT x]) 2]).set lg (O.row [.ptr d 0, .sl (Z.length + 1) 0 (ts.length + 1) 2 none, .int .i64 n])) ∧
    StayL L Z (((Z ++ [B]).set a O.gone ++ [O.arr (ts.map encT ++ [encT x]) 2]).set lg (O.row [.ptr d 0, .sl (Z.length + 1) 0 (ts.length + 1) 2 none, .int .i64 n])) := by
  obtain ⟨g1, g2⟩ := h
  have hlt := lt_of_get g2
  have hlt1 := lt_of_get g1
  have o1 := (hZ.more [B] [] (by simp)).put (i := a) (by simp) .gone
  have o2 := (o1.more [O.arr (ts.map encT ++ [encT x]) 2] [Z.length + 1] (by intro i hi; simp at hi; simp [hi])).put (i := lg) (by simp) (O.row [.ptr d 0, .sl (Z.length + 1) 0 (ts.length + 1) 2 none, .int .i64 n])
  refine ⟨⟨Z.length + 1, o2.sub (fun i hi => ?_), by omega, fun hm => ?_, nlL, ?_, ?_⟩, fun i hi => ?_⟩
  · simp only [List.mem_cons] at hi
    simp only [List.mem_append, List.mem_cons]
    rcases hi with hi | hi | hi
    · exact .inr (.inl hi)
    · exact .inl (.inl (.inr (.inl hi)))
    · exact .inl (.inl (.inr (.inr hi)))
  · have := hZ.lt (List.mem_cons_of_mem a (List.mem_cons_of_mem lg hm))
    omega
  · rw [List.getElem?_set_self (by simp; omega)]
    simp
  · rw [setN (by omega), List.getElem?_append_right (by simp)]
    simp
  · have h1 := hZ.lt (List.mem_cons_of_mem a (List.mem_cons_of_mem lg hi))
    have n1 : lg ≠ i := fun e => nlL (e ▸ hi)
    have n2 : a ≠ i := fun e => naL (e ▸ hi)
    rw [setN n1, List.getElem?_append_left (by simp; omega), setN n2, List.getElem?_append_left h1]

/-- what Add comes to -/
def addD (D : Dk) (n : Nat) (s : Bs) : Int × Dk := appendD D (logN n) (frmB s)
def addT (D : Dk) (n : Nat) (s : Bs) (ts : List (Bs × Nat)) : List (Bs × Nat) := if (addD D n s).1 = 0 then ts ++ [(s, n)] else ts

theorem add_own {X : List O} {L : List Nat} {d : Nat} {D : Dk} {Y : List O} {lg n : Nat} {ts : List (Bs × Nat)} (h : WalOwn X L d D lg ts n Y) (hn : n < 100) (hl : ts.length ≤ 1000000000) (s : Bs) (hs : s.length ≤ 131072) :
    Tri Tryz.prog 79 [.ptr lg 0, .str s] Y (fun v Z => v = .int .i64 (addD D n s).1 ∧ WalOwn X L d (addD D n s).2 lg (addT D n s ts) n Z ∧ StayL L Y Z) := by
  obtain ⟨a, ho, na, naL, nlL, hlog⟩ := h
  refine Tri.of_run' Tryz.func79 rfl c79_ok (by simp [Tryz.ntmps79]) ?_
  have hs' : ¬ (131072 : Int) < s.length := by omega
  have hs2 : ¬ 131072 < s.length := by omega
  have hfm := frameM_eq (s := s) (by omega)
  have hfl : (frmB s).length ≤ 70368744177664 := by
    have h1 := fr_len s
    have h2 := vput_len9 (n := s.length) (by omega)
    omega
  (repeat (first | refine Run.adm rfl ?_ | refine Run.seq ?_ | ((first | apply Run.opS rfl | apply Run.condS); (· (simp -implicitDefEqProofs; first | exact ⟨rfl, rfl⟩ | exact rfl)))))
  refine Run.opC rfl rfl rfl (given_tri Y hlog.1) ?_
  rintro v H ⟨rfl, rfl⟩
  (repeat (first | refine Run.adm rfl ?_ | refine Run.seq ?_ | ((first | apply Run.opS rfl | apply Run.condS); (· (simp -implicitDefEqProofs [hs', hs2]; first | exact ⟨rfl, rfl⟩ | exact rfl)))))
  refine Run.opC rfl rfl rfl (fput_at s (by omega) _) ?_
  rintro v h' ⟨rfl, rfl⟩
  rw [hfm]
  (repeat (first | refine Run.adm rfl ?_ | refine Run.seq ?_ | ((first | apply Run.opS rfl | apply Run.condS); (· (simp -implicitDefEqProofs; first | exact ⟨rfl, rfl⟩ | exact rfl)))))
  refine Run.qchain prog_mixed 10 (by kernel_rfl) ?_
  (repeat (first | refine execQ_E rfl ?_ | (apply execQ_S rfl; (· (simp -implicitDefEqProofs [hlog.1]; exact ⟨rfl, rfl⟩)))))
  refine execQ_C rfl rfl rfl (lname_at n hn _) ?_
  (repeat (first | refine execQ_E rfl ?_ | (apply execQ_S rfl; (· (simp -implicitDefEqProofs; exact ⟨rfl, rfl⟩)))))
  refine SeqR.C rfl rfl rfl (append_own ho (logN n) (frmB s) hfl) ?_
  rintro v Z ⟨rfl, hZ, hst⟩
  (repeat (first | refine SeqR.E rfl ?_ | (apply SeqR.o0 rfl; (· (simp -implicitDefEqProofs; exact ⟨rfl, rfl⟩))) | (apply SeqR.A rfl; (· (simp -implicitDefEqProofs; done)); (· (simp -implicitDefEqProofs; exact ⟨rfl, rfl⟩))) | (apply SeqR.N rfl; (· (simp -implicitDefEqProofs; done)))))
  have hlog2 := hlog.stay hst
  unfold addT addD
  by_cases e : (appendD D (logN n) (frmB s)).1 = 0
  rotate_left
  · (repeat (first | refine Run.adm rfl ?_ | refine Run.seq ?_ | ((first | apply Run.opS rfl | apply Run.condS); (· (simp -implicitDefEqProofs [e]; first | exact ⟨rfl, rfl⟩ | exact rfl)))))
    refine Run.retS Tryz.func79 r79_ok trivial (by simp [r79]; rfl) ?_
    exact ⟨by simp, ⟨a, hZ, na, naL, nlL, by rw [if_neg e]; exact hlog2⟩, hst.tl.tl⟩
  obtain ⟨g1, g2⟩ := hlog2
  have hlt := lt_of_get g2
  have hlt1 := lt_of_get g1
  have hbb : (ts.length + 1) * 24 ≤ 70368744177664 := by omega
  (repeat (first | refine Run.adm rfl ?_ | refine Run.seq ?_ | ((first | apply Run.opS rfl | apply Run.condS); (· (simp -implicitDefEqProofs [e]; first | exact ⟨rfl, rfl⟩ | exact rfl)))))
  refine Run.quietTo prog_mixed 11 (by kernel_rfl) ?_
  (repeat (first | refine execQ_E rfl ?_ | (apply execQ_S rfl; (· (simp -implicitDefEqProofs [g1]; exact ⟨rfl, rfl⟩)))))
  intro hpo
  refine RunD.chain (by kernel_rfl) hpo rfl ?_
  (apply AStep.S rfl; (· (simp -implicitDefEqProofs; exact ⟨rfl, rfl⟩)))
  refine RunD.chain (by kernel_rfl) (by
    show PendOk _ c79d1 _ _ [4, 3, 2, 1, 0]
    (repeat (first | exact PendOk.nil | (refine PendOk.S rfl rfl ?_ ?_; (· (simp -implicitDefEqProofs [g1, getA g1]; done)))))) rfl ?_
  (apply AStep.S rfl; (· (simp -implicitDefEqProofs [getA g2, hbb]; exact ⟨rfl, rfl⟩)))
  refine RunD.alt1 13 (by kernel_rfl) (by kernel_rfl) (by
    show PendOk _ c79d1 _ _ [0]
    (repeat (first | exact PendOk.nil | (refine PendOk.S rfl rfl ?_ ?_; (· (simp -implicitDefEqProofs; done)))))) ?_
  (apply AStep.S rfl; (· (simp -implicitDefEqProofs; exact ⟨rfl, rfl⟩)))
  refine RunD.alt1 14 (by kernel_rfl) (by kernel_rfl) (show PendOk _ c79d1 _ _ [] from trivial) ?_
  (apply AStep.S rfl; (· (simp -implicitDefEqProofs; exact ⟨rfl, rfl⟩)))
  have hq : ∀ B N, ((Z ++ [B]).set a O.gone ++ [N])[lg]? = some (.row [.ptr d 0, .sl a 0 ts.length 2 none, .int .i64 n]) := fun B N => getA (by rw [setN na]; exact getA g1 _) _
  refine RunD.alt1 15 (by kernel_rfl) (by kernel_rfl) (show PendOk _ c79d1 _ _ [] from trivial) ?_
  (apply AStep.S rfl; (· (simp -implicitDefEqProofs [hq]; exact ⟨rfl, rfl⟩)))
  refine RunD.fin (by kernel_rfl) (show PendOk _ c79d1 _ _ [] from trivial) ?_
  (repeat (first | refine Run.adm rfl ?_ | refine Run.seq ?_ | ((first | apply Run.opS rfl | apply Run.condS); (· (simp -implicitDefEqProofs; first | exact ⟨rfl, rfl⟩ | exact rfl)))))
  refine Run.retS Tryz.func79 r79_ok trivial (by simp [r79]; rfl) ?_
  rw [if_pos e]
  obtain ⟨w1, w2⟩ := WalOwn.app ⟨g1, g2⟩ hZ na naL nlL (O.arr [[V.str s, V.int .i64 n]] 2) (s, n)
  exact ⟨by simp [e], by simpa [encT] using w1, by simpa [encT] using hst.tl.tl.trans w2⟩

end Go.Proofs.YthphkcpbglhabaaGreatDoor
