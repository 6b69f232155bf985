/-
  Layer 05, part I: Crash.
-/
import Derived.Test.YthphkcpbglhabaaGreatDoorFsH
namespace Go.Proofs.YthphkcpbglhabaaGreatDoor
open Sx Go
set_option maxRecDepth 100000
set_option linter.unusedSimpArgs false
set_option linter.unusedVariables false
set_option linter.unnecessarySimpa false
attribute [local simp] stepV condR boundsC appendG appendO copyV srcC guardB isCall opStep Opd.ev put readAt aBin aUn args0 V.celled V.ones V.one V.cells putAt bounds bound1 elemsOf srcOf appendV fillAt fillEl V.pures V.pure unwind evs ARes.ev mkRes V.ren V.renL O.ren eqCells eq1 aEq aMM hasTy hasTyN okTy mmGo Known HLe OLe VsLe.refl VLe.refl VLe.cap Stay VsLe V.frz V.frzL O.frz fr clearV rn KnownR Objs OLeO ObjsE nm back setAll ren_ite take_map_len List.take_of_length_le
attribute [local simp ↓] upd_app tl_cons tl_nil
attribute [local simp] encS_ren encS_ones encS_len encS_take KnownS VLe.refl

def encN (n : Int) : List V := [.int .i64 n]
def cutLen (n : Nat) (f : FileM) : Nat := f.sure + min n (f.bytes.length - f.sure)
def cutF (n : Nat) (f : FileM) : FileM := ⟨f.name, f.bytes.take (cutLen n f), cutLen n f⟩
def keepN (keep : List Int) (k : Nat) : Nat := if keep = [] then 0 else (keep.getD (k % keep.length) 0).toNat
def crashF (keep : List Int) (ns : List Bs) (i : Nat) (fs : List FileM) : List FileM := fs.map fun f => if f.name ∈ ns.take i then cutF (keepN keep (ns.idxOf f.name)) f else f

theorem idx_nodup : ∀ (ns : List Bs), ns.Nodup → ∀ i (h : i < ns.length), ns.idxOf ns[i] = i
  | [], _, i, h => by simp at h
  | a :: l, hn, 0, h => by simp
  | a :: l, hn, i + 1, h => by
    rw [List.nodup_cons] at hn
    have h1 : i < l.length := by simpa using h
    have h2 := idx_nodup l hn.2 i h1
    have h3 : (a == l[i]) = false := by
      rw [beq_eq_false_iff_ne]
      exact fun e => hn.1 (e ▸ List.getElem_mem h1)
    simp only [List.getElem_cons_succ, List.idxOf_cons, h3, cond_false, h2]
theorem crashF_zero (keep ns fs) : crashF keep ns 0 fs = fs := by simp [crashF]
theorem crashF_next {keep ns fs} {i : Nat} (hn : ns.Nodup) (hi : i < ns.length) : crashF keep ns (i + 1) fs = updF (crashF keep ns i fs) ns[i] (cutF (keepN keep i)) := by
  simp only [crashF, updF, List.map_map]
  refine List.map_congr_left fun f _ => ?_
  have htk : ns.take (i + 1) = ns.take i ++ [ns[i]] := by rw [List.take_add_one, List.getElem?_eq_getElem hi]; rfl
  have hnot : ns[i] ∉ ns.take i := by
    intro h
    have := hn
    rw [← List.take_append_drop (i + 1) ns, htk, List.nodup_append, List.nodup_append] at this
    exact this.1.2.2 _ h _ (by simp) rfl
  simp only [Function.comp, htk, List.mem_append, List.mem_singleton]
  by_cases h1 : f.name ∈ ns.take i
  · have h2 : f.name ≠ ns[i] := fun e => hnot (e ▸ h1)
    simp [h1, cutF, h2]
  · by_cases h2 : f.name = ns[i]
    · simp [h2, hnot, idx_nodup ns hn i hi]
    · simp [h1, h2]
theorem crashF_end {keep ns fs} (h : ∀ f ∈ fs, f.name ∈ ns) : crashF keep ns ns.length fs = fs.map fun f => cutF (keepN keep (ns.idxOf f.name)) f := by
  simp only [crashF, List.take_length]
  exact List.map_congr_left fun f hf => by simp [h f hf]

/-- a file is cut -/
theorem cut_at {Y Z : List O} {d m : Nat} {l : List FP} {q : FP} {fu : Int} {off : Bool} (h : DiskAt Y d m l fu off) (hq : findF l q.f.name = some q) (n : Nat)
    (h1 : Z[q.p]? = some (.row [.sl q.a 0 (cutLen n q.f) 1 none, .int .i64 (cutLen n q.f)])) (h2 : Z[q.a]? = some (.arr (byteEls (q.f.bytes.take (cutLen n q.f))) 1)) (hk : Kept Y Z [q.p, q.a]) :
    ∃ l', DiskAt Z d m l' fu off ∧ l'.map (·.f) = updF (l.map (·.f)) q.f.name (cutF n) ∧ foot d m l' = foot d m l := by
  obtain ⟨A, B, rfl, -, -⟩ := find_split hq
  obtain ⟨b1, b2⟩ := h.ok q (by simp)
  have hle : cutLen n q.f ≤ q.f.bytes.length := by simp only [cutLen]; omega
  have hlen : (cutF n q.f).bytes.length = cutLen n q.f := by simp only [cutF, List.length_take]; omega
  refine ⟨A ++ ⟨cutF n q.f, q.p, q.a⟩ :: B, h.upd (f' := cutF n q.f) rfl (by rw [hlen]; exact h1) h2 (.inl rfl) hk ⟨by omega, by rw [hlen]; exact Nat.le_refl _⟩, updF_split h.names (cutF n) q.p q.a, ?_⟩
  simp [foot]

theorem sortN_mem (ns : List Bs) (x : Bs) : x ∈ sortN ns ↔ x ∈ ns := by simp [sortN]

theorem crash_tri (X : List O) {d : Nat} {D : Dk} {F : List Nat} (hD : IsD X d D F) (hn : NmOk D) (keep : List Int) (hkl : keep.length ≤ 1000) :
    Tri Tryz.prog 15 [.ptr d 0, .vs (keep.map encN) 1] X (fun v Y => v = .int .i64 0 ∧ ∃ nf : Bs → Nat, (keep = [] → ∀ x, nf x = 0) ∧ After X d F ⟨D.files.map (fun f => cutF (nf f.name) f), -1, false⟩ Y) := by
  have hnt := fun Y hY => names_tri Y (d := d) (D := D) (F := F) hY hn
  obtain ⟨m, l, hat, hfs, rfl⟩ := hD
  have hdn : (namesD D).Nodup := by
    have h1 := hat.names
    have h2 : l.map (·.f.name) = D.files.map (·.name) := by rw [← hfs, List.map_map]; rfl
    rw [h2] at h1
    exact (List.mergeSort_perm _ _).nodup_iff.2 h1
  have hmem : ∀ x, x ∈ namesD D ↔ ∃ f ∈ D.files, f.name = x := fun x => by
    rw [namesD, sortN_mem, List.mem_map]
  have hnl : (namesD D).length ≤ 256 := by
    have : (namesD D).length = l.length := by simp [namesD, sortN, ← hfs]
    rw [this]; exact hat.len
  refine Tri.of_run' Tryz.func15 rfl c15_ok (by simp [Tryz.ntmps15]) ?_
  (repeat (first | refine Run.adm rfl ?_ | refine Run.seq ?_ | ((first | apply Run.opS rfl | apply Run.condS); (· (simp -implicitDefEqProofs; first | exact ⟨rfl, rfl⟩ | exact rfl)))))
  refine Run.opC rfl rfl rfl (may0_tri X hat.row) ?_
  rintro v Y ⟨rfl, hY⟩
  rw [hY]
  clear hY
  (repeat (first | refine Run.adm rfl ?_ | refine Run.seq ?_ | ((first | apply Run.opS rfl | apply Run.condS); (· (simp -implicitDefEqProofs; first | exact ⟨rfl, rfl⟩ | exact rfl)))))
  refine Run.opC rfl rfl rfl (hnt X ⟨m, l, hat, hfs, rfl⟩) ?_
  rintro v Y ⟨rfl, hY⟩
  generalize namesD D = ns at *
  (repeat (first | refine Run.adm rfl ?_ | refine Run.seq ?_ | ((first | apply Run.opS rfl | apply Run.condS); (· (simp -implicitDefEqProofs; first | exact ⟨rfl, rfl⟩ | exact rfl)))))
  refine Run.sl [(0, .ptr d 0), (1, .vs (keep.map encN) 1), (13, .vs (ns.map encS) 1), (14, .int .i64 ns.length), (15, .int .i64 (0 : Nat))] (by simp) ?_
  refine Run.loopS (fun (x : Nat × List O) => ([(0, .ptr d 0), (1, .vs (keep.map encN) 1), (13, .vs (ns.map encS) 1), (14, .int .i64 ns.length), (15, .int .i64 x.1)], x.2))
    (fun x => x.1 ≤ ns.length ∧ Kept X x.2 (foot d m l) ∧ ∃ l', DiskAt x.2 d m l' D.fu D.off ∧ l'.map (·.f) = crashF keep ns x.1 D.files ∧ foot d m l' = foot d m l) (fun x => ns.length - x.1) ?_ (0, Y) ⟨Nat.zero_le _, hY.mono (by simp), l, hat.keep hY, by rw [crashF_zero]; exact hfs, rfl⟩
  rintro ⟨i, Z⟩ ⟨hi, hk, l', hZ, hfs', hft⟩ ih
  simp only at *
  by_cases hlt : i < ns.length
  · obtain ⟨x, hx, hxi, -, hxm⟩ := getL hlt
    have hlt' : (i : Int) < ns.length := by omega
    have hw := wrap_small (n := (i : Int) + 1) (by omega) (by omega)
    obtain ⟨g, hg, hgx⟩ := (hmem x).1 (List.mem_of_getElem? hx)
    rcases mFind_file x l' 0 with ⟨j, q, h1, h2, h3, h4⟩ | ⟨h1, h2, h3⟩
    rotate_left
    · exfalso
      have hc : (crashF keep ns i D.files).map (·.name) = D.files.map (·.name) := by
        simp only [crashF, List.map_map]
        exact List.map_congr_left fun f _ => by simp only [Function.comp]; split <;> rfl
      rw [← hfs', List.map_map] at hc
      have hg' : x ∈ l'.map ((fun f : FileM => f.name) ∘ fun q : FP => q.f) := by rw [hc]; exact List.mem_map.2 ⟨g, hg, hgx⟩
      obtain ⟨q, hq, hqx⟩ := List.mem_map.1 hg'
      exact h1 q hq hqx
    simp only [Nat.zero_add] at h3
    have h1' : (l'.map entV)[j]? = some (entV q) := by rw [List.getElem?_map, h1]; rfl
    have hqm : q ∈ l' := List.mem_of_getElem? h1
    obtain ⟨f1, f2⟩ := hZ.file q hqm
    obtain ⟨b1, b2⟩ := hZ.ok q hqm
    (repeat (first | refine Run.adm rfl ?_ | refine Run.seq ?_ | ((first | apply Run.opS rfl | apply Run.condS); (· (simp -implicitDefEqProofs [hlt, hlt', hx, hxi, encS, hZ.row, hZ.map, h3, h1', h1, entV]; first | exact ⟨rfl, rfl⟩ | exact rfl)))))
    obtain ⟨nI, hnI⟩ : ∃ nI : Int, nI = (keepN keep i : Int) := ⟨_, rfl⟩
    refine Run.join [(0, .ptr d 0), (1, .vs (keep.map encN) 1), (13, .vs (ns.map encS) 1), (14, .int .i64 ns.length), (15, .int .i64 i), (7, .ptr q.p 0), (8, .int .i64 nI)] Z ?_ ?_
    rotate_left
    · intro k hr
      by_cases hk0 : keep = []
      · subst hk0
        (repeat (first | refine Run.adm rfl ?_ | refine Run.seq ?_ | ((first | apply Run.opS rfl | apply Run.condS); (· (simp -implicitDefEqProofs; first | exact ⟨rfl, rfl⟩ | exact rfl)))))
        refine Run.sl _ ?_ hr
        simp [hnI, keepN]
      · have hpos : 0 < keep.length := List.length_pos_iff.2 hk0
        have hpos' : 0 < (keep.length : Int) := by omega
        have hne' : ¬ (keep.length : Int) = 0 := by omega
        have hkl2 : i % keep.length < keep.length := Nat.mod_lt _ hpos
        have hrm : (i : Int) % keep.length = ((i % keep.length : Nat) : Int) := by simp
        have htm : (i : Int).tmod keep.length = ((i % keep.length : Nat) : Int) := rfl
        have hmx0 : nI = ((keep.getD (i % keep.length) 0).toNat : Int) := by rw [hnI, keepN, if_neg hk0]
        generalize i % keep.length = r at *
        obtain ⟨z, hz, hzi, -, hzm⟩ := getL hkl2
        have hkl3 : (r : Int) < keep.length := by omega
        have hmx : (if 0 < z then z else 0) = nI := by
          rw [hmx0, List.getD_eq_getElem?_getD, hz]
          simp only [Option.getD_some]
          split <;> omega
        have hmx2 : (if z < 0 then 0 else z) = nI := by rw [← hmx]; split <;> split <;> omega
        (repeat (first | refine Run.adm rfl ?_ | refine Run.seq ?_ | ((first | apply Run.opS rfl | apply Run.condS); (· (simp -implicitDefEqProofs [hz, hzi, hkl2, encN, hne', hk0, htm, hrm, hkl3, hmx, hmx2, hpos, hpos']; first | exact ⟨rfl, rfl⟩ | exact rfl)))))
        refine Run.sl _ ?_ hr
        simp [hmx, hmx2]
    obtain ⟨C, hC⟩ : ∃ C, C = cutLen (keepN keep i) q.f := ⟨_, rfl⟩
    have hC1 : (C : Int) = q.f.sure + min nI (q.f.bytes.length - q.f.sure) := by rw [hC, hnI]; simp only [cutLen]; omega
    (repeat (first | refine Run.adm rfl ?_ | refine Run.seq ?_ | ((first | apply Run.opS rfl | apply Run.condS); (· (simp -implicitDefEqProofs; first | exact ⟨rfl, rfl⟩ | exact rfl)))))
    refine Run.qchain prog_mixed 25 (by kernel_rfl) ?_
    have hCle : C ≤ q.f.bytes.length := by omega
    have hCle' : (C : Int) ≤ q.f.bytes.length := by omega
    have hw1 := wrap_small (n := (q.f.bytes.length : Int) - q.f.sure) (by omega) (by omega)
    have hw2 : (q.f.sure : Int) + (if (q.f.bytes.length : Int) - q.f.sure < nI then (q.f.bytes.length : Int) - q.f.sure else nI) = C := by rw [hC1]; split <;> omega
    have hw3 := wrap_small (n := (C : Int)) (by omega) (by omega)
    (repeat (first | refine execQ_E rfl ?_ | (apply execQ_S rfl; (· (simp -implicitDefEqProofs [f1, hw1, hw2, hw3, hCle, hCle', f2]; exact ⟨rfl, rfl⟩)))))
    (repeat (first | refine SeqR.E rfl ?_ | (apply SeqR.o0 rfl; (· (simp -implicitDefEqProofs [f1, setG f1, hw1, hw2, hw3, hCle, hCle', f2]; exact ⟨rfl, rfl⟩))) | (apply SeqR.A rfl; (· (simp -implicitDefEqProofs [f1, setG f1, hw1, hw2, hw3, hCle, hCle', f2]; done)); (· (simp -implicitDefEqProofs [f1, setG f1, hw1, hw2, hw3, hCle, hCle', f2]; exact ⟨rfl, rfl⟩))) | (apply SeqR.N rfl; (· (simp -implicitDefEqProofs [f1, setG f1, hw1, hw2, hw3, hCle, hCle', f2]; done)))))
    (repeat (first | refine Run.adm rfl ?_ | refine Run.seq ?_ | ((first | apply Run.opS rfl | apply Run.condS); (· (simp -implicitDefEqProofs [setG f1]; first | exact ⟨rfl, rfl⟩ | exact rfl)))))
    obtain ⟨n1, n2, n3, n4, n5⟩ := hZ.ne.2 q hqm
    have hlen1 : C ≤ (byteEls q.f.bytes).length := by rw [byteEls_len]; exact hCle
    have htk : (byteEls q.f.bytes).take C = byteEls (q.f.bytes.take C) := by simp [byteEls, List.map_take]
    refine Run.leS q.a C (by rw [setN n5]; exact f2) ?_
    rw [htk]
    have hk2 : Kept Z ((Z.set q.p (O.row [V.sl q.a 0 C 1 none, V.int .i64 C])).set q.a (.arr (byteEls (q.f.bytes.take C)) 1)) [q.p, q.a] := ((Kept.refl Z _).set _ _ (.inl (by simp))).set _ _ (.inl (by simp))
    obtain ⟨l2, g1, g2, g3⟩ := cut_at (Z := (Z.set q.p (O.row [V.sl q.a 0 C 1 none, V.int .i64 C])).set q.a (.arr (byteEls (q.f.bytes.take C)) 1)) hZ (by rw [h2]; exact h4) (keepN keep i) (by rw [← hC, setN (Ne.symm n5)]; exact setG f1 _) (by rw [← hC]; exact setG (by rw [setN n5]; exact f2) _) hk2
    refine Run.sl _ ?_ (ih (i + 1, (Z.set q.p (O.row [V.sl q.a 0 C 1 none, V.int .i64 C])).set q.a (.arr (byteEls (q.f.bytes.take C)) 1)) ⟨by simp only; omega, (hk.trans hk2).mono ?_, l2, g1, ?_, g3.trans hft⟩ (by simp only; omega))
    · simp [hw]
    · intro j hj
      rcases List.mem_append.1 hj with hj | hj
      · exact hj
      · rw [← hft]
        simp only [List.mem_cons, List.not_mem_nil, or_false] at hj
        rcases hj with rfl | rfl
        · exact (foot_p hqm).1
        · exact (foot_p hqm).2
    · rw [g2, hfs', crashF_next hdn hlt, hxi, h2]
  · have : i = ns.length := by omega
    subst this
    (repeat (first | refine Run.adm rfl ?_ | refine Run.seq ?_ | ((first | apply Run.opS rfl | apply Run.condS); (· (simp -implicitDefEqProofs [hZ.row, setG hZ.row]; first | exact ⟨rfl, rfl⟩ | exact rfl)))))
    refine Run.retS Tryz.func15 r15_ok trivial (by simp [r15]; rfl) ?_
    refine ⟨by simp, fun x => keepN keep (ns.idxOf x), fun h x => ?_, foot d m l', ⟨m, l', hZ.turn (Y := Z.set d (O.row [V.mp m, V.int IntKind.i64 (-1), V.bool false])) (setG hZ.row _) ((Kept.refl Z _).set _ _ (.inl (by simp))) ⟨by simp only; omega, by simp only; omega⟩, ?_, rfl⟩, (hk.trans ((Kept.refl Z [d]).set _ _ (.inl (by simp)))).mono ?_, ?_⟩
    · simp only [keepN, if_pos h]
    · rw [hfs']; exact crashF_end fun f hf => (hmem f.name).2 ⟨f, hf, rfl⟩
    · intro j hj
      rcases List.mem_append.1 hj with hj | hj
      · exact hj
      · rw [List.mem_singleton.1 hj]; simp [foot]
    · rw [hft]; exact Grown.refl _ _

end Go.Proofs.YthphkcpbglhabaaGreatDoor
