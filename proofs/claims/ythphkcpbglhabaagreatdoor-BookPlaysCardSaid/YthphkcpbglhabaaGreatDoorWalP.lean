/-
  Layer 06, part P: Drop.
-/
import Derived.Test.YthphkcpbglhabaaGreatDoorWalO
namespace Go.Proofs.YthphkcpbglhabaaGreatDoor
open Sx Go
set_option maxRecDepth 100000
set_option linter.unusedSimpArgs false
set_option linter.unusedVariables false
set_option linter.unnecessarySimpa false
attribute [local simp] stepV condR boundsC appendG appendO copyV srcC guardB isCall opStep Opd.ev put readAt aBin aUn args0 V.celled V.ones V.one V.cells putAt bounds bound1 elemsOf srcOf appendV fillAt fillEl V.pures V.pure unwind evs ARes.ev mkRes V.ren V.renL O.ren eqCells eq1 aEq aMM hasTy hasTyN okTy mmGo Known HLe OLe VsLe.refl VLe.refl VLe.cap Stay VsLe V.frz V.frzL O.frz fr clearV rn KnownR Objs OLeO ObjsE nm back setAll ren_ite take_map_len List.take_of_length_le
attribute [local simp ↓] upd_app tl_cons tl_nil
attribute [local simp] encS_ren encS_ones encS_len encS_take KnownS VLe.refl

/-- the files below a number go, one by one, as long as there is power -/
def dropGo (b : Int) : List LF → List LF → Int → Bool → Int × List LF × Int × Bool
  | acc, [], fu, off => (0, acc, fu, off)
  | acc, f :: r, fu, off => if b ≤ (f.num : Int) then dropGo b (acc ++ [f]) r fu off else if off = true ∨ fu = 0 then (50, acc ++ f :: r, fu, true) else dropGo b acc r (nxF fu) false
def aboveF (b : Int) (fs : List LF) : List LF := fs.filter fun f => decide (b ≤ (f.num : Int))
theorem dropGo_calm (b : Int) : ∀ (r acc : List LF), dropGo b acc r (-1) false = (0, acc ++ aboveF b r, -1, false)
  | [], acc => by simp [dropGo, aboveF]
  | f :: r, acc => by
    unfold dropGo
    have hn : nxF (-1) = -1 := rfl
    by_cases h : b ≤ (f.num : Int)
    · rw [if_pos h, dropGo_calm b r]; simp [aboveF, h]
    · rw [if_neg h, if_neg (by simp), hn, dropGo_calm b r]; simp [aboveF, h]

theorem Own.kept {X L d D Y Z} {G : List Nat} (h : Own X L d D Y) (hk : Kept Y Z G) (hG : ∀ i ∈ G, i ∈ L) : Own X L d D Z := by
  obtain ⟨F, ⟨m, l, h1, hfs, rfl⟩, h2, h3, h4⟩ := h
  refine ⟨_, ⟨m, l, h1.apart (G := G) (fun j hj hm => (h4 j (hG j hm)).1 hj) hk, hfs, rfl⟩, ⟨Nat.le_trans h2.1 hk.1, fun i hi _ => ?_⟩, h3, fun i hi => ?_⟩
  · rw [hk.2 i (Nat.lt_of_lt_of_le hi h2.1) (fun hm => by have := (h4 i (hG i hm)).2.2; omega), h2.2 i hi (by simp)]
  · obtain ⟨g1, g2, g3⟩ := h4 i hi
    exact ⟨g1, Nat.lt_of_lt_of_le g2 hk.1, g3⟩

section drop
variable {X : List O} {L : List Nat} {d lg bb lb n : Nat} {A B fs : List LF} {f : LF} {fu b : Int} {off : Bool} {Y : List O} {ts : List (Bs × Nat)}

theorem drop1_tri (h : WalOwn X L d (LD (A ++ f :: B) fu off) lg ts n Y) (hR : Ris (A ++ f :: B)) (h1 : Y[bb]? = some (.row [.int .i64 b])) (h2 : Y[lb]? = some (.row [.ptr lg 0])) :
    Tri Tryz.prog 82 [.int .i64 f.num, .ptr bb 0, .ptr lb 0] Y (fun v Z => (b ≤ (f.num : Int) ∧ v = .int .i64 0 ∧ Z = Y) ∨
      (¬ b ≤ (f.num : Int) ∧ (off = true ∨ fu = 0) ∧ v = .int .i64 50 ∧ WalOwn X L d (LD (A ++ f :: B) fu true) lg ts n Z ∧ StayL L Y Z) ∨
      (¬ b ≤ (f.num : Int) ∧ ¬ (off = true ∨ fu = 0) ∧ v = .int .i64 0 ∧ WalOwn X L d (LD (A ++ B) (nxF fu) false) lg ts n Z ∧ StayL L Y Z)) := by
  obtain ⟨a, ho, na, naL, nlL, hlog⟩ := h
  have hn := hR.mid.2.2.1
  have hrm := remove_own ho (logN f.num)
  rw [remove_LD hR] at hrm
  refine Tri.of_run' Tryz.func82 rfl c82_ok (by simp [Tryz.ntmps82]) ?_
  by_cases hge : b ≤ (f.num : Int)
  · (repeat (first | refine Run.adm rfl ?_ | refine Run.seq ?_ | ((first | apply Run.opS rfl | apply Run.condS); (· (simp -implicitDefEqProofs [h1, hge]; first | exact ⟨rfl, rfl⟩ | exact rfl)))))
    refine Run.retS Tryz.func82 r82_ok trivial (by simp [r82]; rfl) ?_
    exact .inl ⟨hge, by simp, rfl⟩
  · (repeat (first | refine Run.adm rfl ?_ | refine Run.seq ?_ | ((first | apply Run.opS rfl | apply Run.condS); (· (simp -implicitDefEqProofs [h1, hge]; first | exact ⟨rfl, rfl⟩ | exact rfl)))))
    refine Run.qchain prog_mixed 6 (by kernel_rfl) ?_
    (repeat (first | refine execQ_E rfl ?_ | (apply execQ_S rfl; (· (simp -implicitDefEqProofs [h2, hlog.1]; exact ⟨rfl, rfl⟩)))))
    refine execQ_C rfl rfl rfl (lname_at f.num hn _) ?_
    (repeat (first | refine execQ_E rfl ?_ | (apply execQ_S rfl; (· (simp -implicitDefEqProofs; exact ⟨rfl, rfl⟩)))))
    refine SeqR.C rfl rfl rfl hrm ?_
    rintro v Z ⟨rfl, hZ, hst⟩
    (repeat (first | refine SeqR.E rfl ?_ | (apply SeqR.o0 rfl; (· (simp -implicitDefEqProofs; exact ⟨rfl, rfl⟩))) | (apply SeqR.A rfl; (· (simp -implicitDefEqProofs; done)); (· (simp -implicitDefEqProofs; exact ⟨rfl, rfl⟩))) | (apply SeqR.N rfl; (· (simp -implicitDefEqProofs; done)))))
    (repeat (first | refine Run.adm rfl ?_ | refine Run.seq ?_ | ((first | apply Run.opS rfl | apply Run.condS); (· (simp -implicitDefEqProofs; first | exact ⟨rfl, rfl⟩ | exact rfl)))))
    refine Run.retS Tryz.func82 r82_ok trivial (by simp [r82]; rfl) ?_
    by_cases hb : off = true ∨ fu = 0
    · rw [if_pos hb] at hZ ⊢
      exact .inr (.inl ⟨hge, hb, by simp, ⟨a, hZ, na, naL, nlL, hlog.stay hst⟩, hst.tl.tl⟩)
    · rw [if_neg hb] at hZ ⊢
      exact .inr (.inr ⟨hge, hb, by simp, ⟨a, hZ, na, naL, nlL, hlog.stay hst⟩, hst.tl.tl⟩)

theorem drop_own (h : WalOwn X L d (LD fs fu off) lg ts n Y) (hR : Ris fs) (hl : ts.length ≤ 1000000000) :
    Tri Tryz.prog 38 [.ptr lg 0, .int .i64 b] Y (fun v Z => ((n : Int) < b ∧ v = .int .i64 1 ∧ WalOwn X L d (LD fs fu off) lg ts n Z ∧ StayL L Y Z) ∨
      (¬ (n : Int) < b ∧ v = .int .i64 (dropGo b [] fs fu off).1 ∧ WalOwn X L d (LD (dropGo b [] fs fu off).2.1 (dropGo b [] fs fu off).2.2.1 (dropGo b [] fs fu off).2.2.2) lg (if (dropGo b [] fs fu off).1 = 0 then stayT b ts else ts) n Z ∧ StayL L Y Z)) := by
  obtain ⟨a, ho, na, naL, nlL, hlog⟩ := h
  have hll := lt_of_get hlog.1
  have hla := lt_of_get hlog.2
  have hLl : ∀ i ∈ L, i < Y.length := fun i hi => ho.lt (by simp [hi])
  obtain ⟨lb, hlb⟩ : ∃ lb, lb = Y.length := ⟨_, rfl⟩
  obtain ⟨bb, hbb⟩ : ∃ bb, bb = Y.length + 1 := ⟨_, rfl⟩
  have o1 := ho.more [.row [.ptr lg 0], .row [.int .i64 b]] [lb, bb] (by intro i hi; simp at hi; simp; omega)
  refine Tri.of_run' Tryz.func38 rfl c38_ok (by simp [Tryz.ntmps38]) ?_
  (repeat (first | refine Run.adm rfl ?_ | refine Run.seq ?_ | ((first | apply Run.opS rfl | apply Run.condS); (· (simp -implicitDefEqProofs; first | exact ⟨rfl, rfl⟩ | exact rfl)))))
  refine run_to [(2, .ptr lb 0), (3, .ptr bb 0)] (fun W => WalOwn X (lb :: bb :: L) d (LD fs fu off) lg ts n W ∧ StayL L Y W ∧ W[lb]? = some (.row [.ptr lg 0]) ∧ W[bb]? = some (.row [.int .i64 b])) (by simp [hlb, hbb]) ⟨⟨a, o1.sub ?_, na, ?_, ?_, getA hlog.1 _, getA hlog.2 _⟩, ?_, by simp [hlb], by simp [hbb]⟩ ?_
  · intro i hi
    simp only [List.mem_cons] at hi
    simp only [List.mem_append, List.mem_cons, List.not_mem_nil, or_false]
    rcases hi with hi | hi | hi | hi | hi
    · exact .inl (.inl hi)
    · exact .inl (.inr (.inl hi))
    · exact .inr (.inl hi)
    · exact .inr (.inr hi)
    · exact .inl (.inr (.inr hi))
  · intro hm
    simp only [List.mem_cons] at hm
    rcases hm with hm | hm | hm
    · omega
    · omega
    · exact naL hm
  · intro hm
    simp only [List.mem_cons] at hm
    rcases hm with hm | hm | hm
    · omega
    · omega
    · exact nlL hm
  · intro i hi
    rw [List.getElem?_append_left (hLl i hi)]
  clear o1 hlog hla hll na naL ho
  rintro W ⟨hW, stW, wlb, wbb⟩
  obtain ⟨a, wlg, -⟩ := hW.row
  refine Run.quiet prog_mixed (by kernel_rfl) ?_
  (repeat (first | refine execQ_E rfl ?_ | (apply execQ_S rfl; (· (simp -implicitDefEqProofs [wlb]; exact ⟨rfl, rfl⟩)))))
  refine execQ_C rfl rfl rfl (given_tri W wlg) ?_
  by_cases hbig : (n : Int) < b
  · (repeat (first | refine execQ_E rfl ?_ | (apply execQ_S rfl; (· (simp -implicitDefEqProofs [wlb, wbb, wlg, hbig]; exact ⟨rfl, rfl⟩)))))
    (repeat (first | refine Run.adm rfl ?_ | refine Run.seq ?_ | ((first | apply Run.opS rfl | apply Run.condS); (· (simp -implicitDefEqProofs; first | exact ⟨rfl, rfl⟩ | exact rfl)))))
    refine Run.retS Tryz.func38 r38_ok trivial (by simp [r38]; rfl) ?_
    exact .inl ⟨hbig, by simp, hW.sub fun i hi => by simp [hi], stW⟩
  (repeat (first | refine execQ_E rfl ?_ | (apply execQ_S rfl; (· (simp -implicitDefEqProofs [wlb, wbb, wlg, hbig]; exact ⟨rfl, rfl⟩)))))
  (repeat (first | refine Run.adm rfl ?_ | refine Run.seq ?_ | ((first | apply Run.opS rfl | apply Run.condS); (· (simp -implicitDefEqProofs [wlb, wlg]; first | exact ⟨rfl, rfl⟩ | exact rfl)))))
  have hnm := (WalOwn.names hW (nmOk_LD hR _ _))
  rw [namesD_LD hR] at hnm
  have hall := each_own (Y0 := W) (d := d) (fs.map (·.num)) (fun i hi => by
      obtain ⟨f, hf, rfl⟩ := List.mem_map.1 hi
      exact hR.2 f hf) (by have := hR.len; simp; omega) 82 [.ptr bb 0, .ptr lb 0]
    (fun i Z => ∃ acc fu' off', dropGo b [] fs fu off = dropGo b acc (fs.drop i) fu' off' ∧ Ris (acc ++ fs.drop i) ∧ WalOwn X (lb :: bb :: L) d (LD (acc ++ fs.drop i) fu' off') lg ts n Z ∧ StayL (lb :: bb :: L) W Z)
    (fun e Z => ∃ fs' fu' off', dropGo b [] fs fu off = (e, fs', fu', off') ∧ WalOwn X (lb :: bb :: L) d (LD fs' fu' off') lg ts n Z ∧ StayL (lb :: bb :: L) W Z)
    (hnm.mono fun v Z ⟨g1, g2, g3⟩ => ⟨g1, [], fu, off, rfl, by simpa using hR, by simpa using g2, g3⟩) ?_
  rotate_left
  · intro i m hi Z ⟨acc, fu', off', e1, hRi, hZ, stZ⟩
    rw [List.getElem?_map] at hi
    cases hfi : fs[i]? with
    | none => rw [hfi] at hi; cases hi
    | some f =>
    rw [hfi] at hi
    simp only [Option.map_some, Option.some.injEq] at hi
    subst hi
    have hlt : i < fs.length := (List.getElem?_eq_some_iff.1 hfi).1
    have hdr : fs.drop i = f :: fs.drop (i + 1) := by rw [List.drop_eq_getElem_cons hlt, (List.getElem?_eq_some_iff.1 hfi).2]
    rw [hdr] at hZ hRi e1
    refine (drop1_tri (b := b) hZ hRi ((stZ bb (by simp)).trans wbb) ((stZ lb (by simp)).trans wlb)).mono ?_
    rintro v Z2 (⟨g0, g1, rfl⟩ | ⟨g0, g1, g2, g3, g4⟩ | ⟨g0, g1, g2, g3, g4⟩)
    · refine .inl ⟨g1, acc ++ [f], fu', off', ?_, by simpa using hRi, by simpa using hZ, stZ⟩
      rw [e1, dropGo, if_pos g0]
    · refine .inr ⟨50, by decide, g2, acc ++ f :: fs.drop (i + 1), fu', true, ?_, g3, stZ.trans g4⟩
      rw [e1, dropGo, if_neg g0, if_pos g1]
    · refine .inl ⟨g2, acc, nxF fu', false, ?_, hRi.mid.2.2.2, g3, stZ.trans g4⟩
      rw [e1, dropGo, if_neg g0, if_neg g1]
  refine Run.opC rfl rfl rfl hall ?_
  rintro v Z (⟨rfl, acc, fu', off', e1, -, hZ, stZ⟩ | ⟨e, he, rfl, fs', fu', off', e1, hZ, stZ⟩)
  rotate_left
  · (repeat (first | refine Run.adm rfl ?_ | refine Run.seq ?_ | ((first | apply Run.opS rfl | apply Run.condS); (· (simp -implicitDefEqProofs [he]; first | exact ⟨rfl, rfl⟩ | exact rfl)))))
    refine Run.retS Tryz.func38 r38_ok trivial (by simp [r38]; rfl) ?_
    rw [e1]
    refine .inr ⟨hbig, by simp, ?_, stW.trans stZ.tl.tl⟩
    simp only
    rw [if_neg he]
    exact hZ.sub fun i hi => by simp [hi]
  have hdr : fs.drop (fs.map (·.num)).length = [] := by simp
  rw [hdr, List.append_nil] at hZ
  rw [hdr, dropGo] at e1
  rw [e1]
  have zlb := (stZ lb (by simp)).trans wlb
  have zbb := (stZ bb (by simp)).trans wbb
  obtain ⟨a, ho, na, naL, nlL, g1, g2⟩ := hZ
  have nabb : a ≠ bb := fun e => naL (by simp [e])
  have nalb : a ≠ lb := fun e => naL (by simp [e])
  (repeat (first | refine Run.adm rfl ?_ | refine Run.seq ?_ | ((first | apply Run.opS rfl | apply Run.condS); (· (simp -implicitDefEqProofs; first | exact ⟨rfl, rfl⟩ | exact rfl)))))
  refine Run.quietTo prog_mixed 6 (by kernel_rfl) ?_
  (repeat (first | refine execQ_E rfl ?_ | (apply execQ_S rfl; (· (simp -implicitDefEqProofs [zlb, g1]; exact ⟨rfl, rfl⟩)))))
  intro hpo
  refine RunD.alt1 6 (by kernel_rfl) (by kernel_rfl) hpo ?_
  refine AStep.C rfl rfl rfl (delf_tri Z g2 zbb hl) ?_
  rintro v U ⟨rfl, hU, us, ua, htk⟩
  have ulb := hU.get zlb (by simpa using fun e => nalb e.symm)
  have ulg := hU.get g1 (by simpa using fun e => na e.symm)
  refine RunD.alt1 7 (by kernel_rfl) (by kernel_rfl) (by
    show PendOk _ c38d1 _ _ [0]
    (repeat (first | exact PendOk.nil | (refine PendOk.S rfl rfl ?_ ?_; (· (simp -implicitDefEqProofs [ulb]; done)))))) ?_
  (apply AStep.S rfl; (· (simp -implicitDefEqProofs; exact ⟨rfl, rfl⟩)))
  refine RunD.alt1 8 (by kernel_rfl) (by kernel_rfl) (show PendOk _ c38d1 _ _ [] from trivial) ?_
  (apply AStep.S rfl; (· (simp -implicitDefEqProofs; exact ⟨rfl, rfl⟩)))
  refine RunD.alt1 9 (by kernel_rfl) (by kernel_rfl) (show PendOk _ c38d1 _ _ [] from trivial) ?_
  (apply AStep.S rfl; (· (simp -implicitDefEqProofs [ulg]; exact ⟨rfl, rfl⟩)))
  refine RunD.fin (by kernel_rfl) (show PendOk _ c38d1 _ _ [] from trivial) ?_
  refine Run.leS a (stayT b ts).length (by rw [setN (Ne.symm na)]; exact ua) ?_
  (repeat (first | refine Run.adm rfl ?_ | refine Run.seq ?_ | ((first | apply Run.opS rfl | apply Run.condS); (· (simp -implicitDefEqProofs; first | exact ⟨rfl, rfl⟩ | exact rfl)))))
  refine Run.retS Tryz.func38 r38_ok trivial (by simp [r38]; rfl) ?_
  have htk2 : (us.map encT).take (stayT b ts).length = (stayT b ts).map encT := by rw [← List.map_take, htk]
  have oU := ho.kept hU (by simp)
  refine .inr ⟨hbig, by simp, ⟨a, ((oU.put (by simp) _).put (by simp) _).sub ?_, na, fun hm => naL (by simp [hm]), fun hm => nlL (by simp [hm]), ?_, ?_⟩, fun i hi => ?_⟩
  · intro i hi
    simp only [List.mem_cons] at hi ⊢
    rcases hi with hi | hi | hi
    · exact .inl hi
    · exact .inr (.inl hi)
    · exact .inr (.inr (.inr (.inr hi)))
  · rw [setN na, setG ulg]; simp
  · rw [setG (by rw [setN (Ne.symm na)]; exact ua), htk2]; simp
  · have n1 : a ≠ i := fun e => naL (by simp [e, hi])
    have n2 : lg ≠ i := fun e => nlL (by simp [e, hi])
    have hli := ho.lt (i := i) (by simp [hi])
    rw [setN n1, setN n2, hU.2 i hli (by simpa using Ne.symm n1), stZ i (by simp [hi]), stW i hi]
end drop

end Go.Proofs.YthphkcpbglhabaaGreatDoor
