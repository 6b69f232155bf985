/-
  Layer 06, part N: Open.
-/
import Derived.Test.YthphkcpbglhabaaGreatDoorWalM
namespace Go.Proofs.YthphkcpbglhabaaGreatDoor
open Sx Go
set_option maxRecDepth 100000
set_option linter.unusedSimpArgs false
set_option linter.unusedVariables false
set_option linter.unnecessarySimpa false
attribute [local simp] stepV condR boundsC appendG appendO copyV srcC guardB isCall opStep Opd.ev put readAt aBin aUn args0 V.celled V.ones V.one V.cells putAt bounds bound1 elemsOf srcOf appendV fillAt fillEl V.pures V.pure unwind evs ARes.ev mkRes V.ren V.renL O.ren eqCells eq1 aEq aMM hasTy hasTyN okTy mmGo Known HLe OLe VsLe.refl VLe.refl VLe.cap Stay VsLe V.frz V.frzL O.frz fr clearV rn KnownR Objs OLeO ObjsE nm back setAll ren_ite take_map_len List.take_of_length_le
attribute [local simp ↓] upd_app tl_cons tl_nil
attribute [local simp] encS_ren encS_ones encS_len encS_take KnownS VLe.refl

/-- the texts of files -/
def opnT (fs : List LF) : List (Bs × Nat) := fs.flatMap fun f => (allF f.bytes).1.map fun s => (s, f.num)
/-- the file behind them -/
def opnN (frm : Nat) (fs : List LF) : Nat := fs.foldl (fun _ f => f.num + 1) frm
def keepF (frm : Nat) (fs : List LF) : List LF := fs.filter fun f => decide (frm ≤ f.num)
theorem opnT_snoc (fs : List LF) (f : LF) : opnT (fs ++ [f]) = opnT fs ++ (allF f.bytes).1.map (fun s => (s, f.num)) := by simp [opnT]
theorem opnN_snoc (frm : Nat) (fs : List LF) (f : LF) : opnN frm (fs ++ [f]) = f.num + 1 := by simp [opnN]
theorem keepF_snoc (frm : Nat) (fs : List LF) (f : LF) : keepF frm (fs ++ [f]) = if frm ≤ f.num then keepF frm fs ++ [f] else keepF frm fs := by
  by_cases h : frm ≤ f.num <;> simp [keepF, List.filter_append, h]
theorem keepF_sub (frm : Nat) (fs : List LF) : (keepF frm fs).Sublist fs := List.filter_sublist
theorem opnN_spec (frm : Nat) : ∀ (fs : List LF), Ris fs → (∀ f ∈ fs, frm ≤ f.num) → (∀ f ∈ fs, f.num < opnN frm fs) ∧ frm ≤ opnN frm fs ∧ ∀ m, frm ≤ m → (∀ f ∈ fs, f.num < m) → opnN frm fs ≤ m := by
  intro fs hR hb
  rcases List.eq_nil_or_concat fs with rfl | ⟨gs, f, hc⟩
  · exact ⟨fun f hf => by simp at hf, Nat.le_refl _, fun m hm _ => hm⟩
  · rw [List.concat_eq_append] at hc
    subst hc
    rw [opnN_snoc]
    refine ⟨fun g hg => ?_, by have := hb f (by simp); omega, fun m hm hlt => by have := hlt f (by simp); omega⟩
    rcases List.mem_append.1 hg with hg | hg
    · have := (Ris.mid (A := gs) (B := []) hR).1 g hg; omega
    · rw [List.mem_singleton.1 hg]; omega

theorem opnT_len {fs gs : List LF} (h : gs.Sublist fs) : (opnT gs).length ≤ (opnT fs).length := by
  have hc : ∀ (f : LF) (l : List LF), (opnT (f :: l)).length = (allF f.bytes).1.length + (opnT l).length := fun f l => by simp [opnT]
  induction h with
  | slnil => exact Nat.le_refl _
  | cons a h ih => rw [hc]; omega
  | cons_cons a h ih => rw [hc, hc]; omega

theorem WalOwn.names {X : List O} {L : List Nat} {d : Nat} {D : Dk} {Y : List O} {lg n : Nat} {ts : List (Bs × Nat)} (h : WalOwn X L d D lg ts n Y) (hn : NmOk D) :
    Tri Tryz.prog 45 [.ptr d 0] Y (fun v Z => v = .vs ((namesD D).map encS) 1 ∧ WalOwn X L d D lg ts n Z ∧ StayL L Y Z) := by
  obtain ⟨a, ho, na, naL, nlL, hlog⟩ := h
  exact (names_own ho hn).mono fun v Z ⟨g1, g2, g3⟩ => ⟨g1, ⟨a, g2, na, naL, nlL, hlog.stay g3⟩, g3.tl.tl⟩
theorem WalOwn.make {X : List O} {L : List Nat} {d : Nat} {D : Dk} {Y : List O} {lg n : Nat} {ts : List (Bs × Nat)} (h : WalOwn X L d D lg ts n Y) (name : Bs) :
    Tri Tryz.prog 75 [.ptr d 0, .str name] Y (fun v Z => v = .int .i64 (makeD D name).1 ∧ WalOwn X L d (makeD D name).2 lg ts n Z ∧ StayL L Y Z) := by
  obtain ⟨a, ho, na, naL, nlL, hlog⟩ := h
  exact (make_own ho name).mono fun v Z ⟨g1, g2, g3⟩ => ⟨g1, ⟨a, g2, na, naL, nlL, hlog.stay g3⟩, g3.tl.tl⟩
theorem WalOwn.sub {X : List O} {L L' : List Nat} {d : Nat} {D : Dk} {Y : List O} {lg n : Nat} {ts : List (Bs × Nat)} (h : WalOwn X L d D lg ts n Y) (hs : ∀ i ∈ L', i ∈ L) : WalOwn X L' d D lg ts n Y := by
  obtain ⟨a, ho, na, naL, nlL, hlog⟩ := h
  refine ⟨a, ho.sub fun i hi => ?_, na, fun hm => naL (hs _ hm), fun hm => nlL (hs _ hm), hlog⟩
  simp only [List.mem_cons] at hi ⊢
  rcases hi with hi | hi | hi
  · exact .inl hi
  · exact .inr (.inl hi)
  · exact .inr (.inr (hs i hi))
theorem WalOwn.row {X : List O} {L : List Nat} {d : Nat} {D : Dk} {Y : List O} {lg n : Nat} {ts : List (Bs × Nat)} (h : WalOwn X L d D lg ts n Y) : ∃ a, Y[lg]? = some (.row [.ptr d 0, .sl a 0 ts.length 2 none, .int .i64 n]) ∧ Y[a]? = some (.arr (ts.map encT) 2) := by
  obtain ⟨a, ho, na, naL, nlL, hlog⟩ := h
  exact ⟨a, hlog⟩

theorem open_own {X : List O} {L : List Nat} {d frm : Nat} {fs : List LF} {Y : List O} (h : Own X L d (LD fs (-1) false) Y) (hR : Ris fs) (hf : frm < 100) (hm : ∀ f ∈ fs, f.num < 99) (hb : ∀ f ∈ fs, f.bytes.length ≤ 4194304) (hT : (opnT fs).length ≤ 1000000000) :
    Tri Tryz.prog 34 [.ptr d 0, .int .i64 frm] Y (fun v Z => ∃ lg, v = .tup [.ptr lg 0, .int .i64 0] ∧ Y.length ≤ lg ∧ WalOwn X L d (LD (keepF frm fs ++ [⟨opnN frm (keepF frm fs), [], 0⟩]) (-1) false) lg (opnT (keepF frm fs)) (opnN frm (keepF frm fs)) Z ∧ StayL L Y Z) := by
  have hL : ∀ i ∈ L, i < Y.length := fun i hi => h.lt hi
  refine Tri.of_run' Tryz.func34 rfl c34_ok (by simp [Tryz.ntmps34]) ?_
  have f1 : ¬ (frm : Int) < 0 := by omega
  have f2 : ¬ (1048576 : Int) < frm := by omega
  have f3 : ¬ (1048576 < frm) := by omega
  (repeat (first | refine Run.adm rfl ?_ | refine Run.seq ?_ | ((first | apply Run.opS rfl | apply Run.condS); (· (simp -implicitDefEqProofs; first | exact ⟨rfl, rfl⟩ | exact rfl)))))
  have h1 := h.more [.row [.ptr d 0], .row [.int .i64 frm]] [Y.length, Y.length + 1] (by intro i hi; simp at hi; simp; omega)
  refine Run.opC rfl rfl rfl (made_own h1) ?_
  rintro v Z1 ⟨rfl, hZ1, st1⟩
  have hdb1 : Z1[Y.length]? = some (.row [.ptr d 0]) := (st1 _ (by simp)).trans (by simp)
  have hfb1 : Z1[Y.length + 1]? = some (.row [.int .i64 frm]) := (st1 _ (by simp)).trans (by simp)
  have hl1 := lt_of_get hfb1
  obtain ⟨db, hdb⟩ : ∃ db, db = Y.length := ⟨_, rfl⟩
  obtain ⟨fb, hfb⟩ : ∃ fb, fb = Y.length + 1 := ⟨_, rfl⟩
  rw [← hdb] at hdb1
  rw [← hfb] at hfb1 hl1
  rw [← hfb, ← hdb] at hZ1 st1
  rw [← hfb, ← hdb]
  (repeat (first | refine Run.adm rfl ?_ | refine Run.seq ?_ | ((first | apply Run.opS rfl | apply Run.condS); (· (simp -implicitDefEqProofs [hdb1, hfb1, f1, f2, f3]; first | exact ⟨rfl, rfl⟩ | exact rfl)))))
  refine Run.opC rfl rfl rfl (off_own hZ1) ?_
  rintro v H ⟨rfl, rfl⟩
  have hoff : (LD fs (-1) false).off = false := rfl
  (repeat (first | refine Run.adm rfl ?_ | refine Run.seq ?_ | ((first | apply Run.opS rfl | apply Run.condS); (· (simp -implicitDefEqProofs [hoff, hdb1, hfb1]; first | exact ⟨rfl, rfl⟩ | exact rfl)))))
  obtain ⟨lg, hlg⟩ : ∃ lg, lg = H.length := ⟨_, rfl⟩
  obtain ⟨lv, hlv⟩ : ∃ lv, lv = H.length + 1 := ⟨_, rfl⟩
  have hdl := lt_of_get hdb1
  have o1 := (hZ1.more [O.row [.ptr d 0, .nils, .int .i64 frm], O.row [.ptr H.length 0]] [H.length, H.length + 1] (by intro i hi; simp at hi; simp; omega)).put (i := H.length) (by simp) (O.row [.ptr d 0, .sl (H.length + 2) 0 0 2 none, .int .i64 frm])
  have o2 := o1.more [O.arr [] 2, O.ty (H.length + 2) 0 none] [H.length + 2] (by intro i hi; simp at hi; simp; omega)
  refine Run.nilC H.length 1 2 0 (by simp; rfl) (by simp) ?_
  have e2 : (H ++ [O.row [V.ptr d 0, .nils, .int .i64 frm], O.row [V.ptr H.length 0]]).length = H.length + 2 := by simp
  have stH : ∀ i, i < H.length → ∀ o1 o2 o3, ((H ++ o1).set H.length o2 ++ o3)[i]? = H[i]? := fun i hi o1 o2 o3 => by
    rw [List.getElem?_append_left (by simp; omega), setN (by omega), List.getElem?_append_left hi]
  have hlL : ∀ i ∈ L, i < H.length := fun i hi => by have := hL i hi; omega
  have k1 : ∀ x o3, ((H ++ [O.row [V.ptr d 0, .nils, .int .i64 frm], O.row [V.ptr H.length 0]]).set H.length x ++ o3)[H.length]? = some x := fun x o3 => by
    rw [List.getElem?_append_left (by simp), List.getElem?_set_self (by simp)]
  have k2 : ∀ x o3, ((H ++ [O.row [V.ptr d 0, .nils, .int .i64 frm], O.row [V.ptr H.length 0]]).set H.length x ++ o3)[H.length + 1]? = some (O.row [V.ptr H.length 0]) := fun x o3 => by
    rw [List.getElem?_append_left (by simp), setN (by omega)]; simp
  simp only [e2, List.set_cons_succ, List.set_cons_zero]
  refine run_to [(2, .ptr db 0), (3, .ptr fb 0), (6, .ptr lv 0)] (fun W => WalOwn X (fb :: db :: lv :: L) d (LD fs (-1) false) lg [] frm W ∧ StayL L Y W ∧ W[db]? = some (.row [.ptr d 0]) ∧ W[fb]? = some (.row [.int .i64 frm]) ∧ W[lv]? = some (.row [.ptr lg 0])) (by simp [hlv]) ⟨⟨lg + 2, o2.sub ?_, by omega, ?_, ?_, ?_, ?_⟩, ?_, ?_, ?_, ?_⟩ ?_
  · intro i hi
    simp only [List.mem_cons] at hi
    simp only [List.mem_append, List.mem_cons, List.not_mem_nil, or_false, hlg, hlv] at hi ⊢
    rcases hi with hi | hi | hi | hi | hi | hi
    · exact .inr hi
    · exact .inl (.inr (.inl hi))
    · exact .inl (.inl (.inr (.inr hi)))
    · exact .inl (.inl (.inr (.inl hi)))
    · exact .inl (.inr (.inr hi))
    · exact .inl (.inl (.inl hi))
  · intro hm
    simp only [List.mem_cons] at hm
    rcases hm with hm | hm | hm | hm
    · omega
    · omega
    · omega
    · have := hlL _ hm; omega
  · intro hm
    simp only [List.mem_cons] at hm
    rcases hm with hm | hm | hm | hm
    · omega
    · omega
    · omega
    · have := hlL _ hm; omega
  · rw [hlg]; exact k1 _ _
  · rw [hlg, List.getElem?_append_right (by simp)]; simp
  · intro i hi
    rw [stH i (hlL i hi)]
    refine (st1 i (by simp [hi])).trans ?_
    rw [List.getElem?_append_left (by have := hL i hi; omega)]
  · rw [stH db hdl]; exact hdb1
  · rw [stH fb hl1]; exact hfb1
  · rw [hlv]; rw [k2, hlg]
  rintro W ⟨hW, stW, wdb, wfb, wlv⟩
  (repeat (first | refine Run.adm rfl ?_ | refine Run.seq ?_ | ((first | apply Run.opS rfl | apply Run.condS); (· (simp -implicitDefEqProofs [wdb]; first | exact ⟨rfl, rfl⟩ | exact rfl)))))
  have hnm := (WalOwn.names hW (nmOk_LD hR _ _))
  rw [namesD_LD hR] at hnm
  have hall := each_own (Y0 := W) (d := d) (fs.map (·.num)) (fun i hi => by
      obtain ⟨f, hf, rfl⟩ := List.mem_map.1 hi
      exact hR.2 f hf) (by have := hR.len; simp; omega) 70 [.ptr fb 0, .ptr db 0, .ptr lv 0]
    (fun i Z => WalOwn X (fb :: db :: lv :: L) d (LD (keepF frm (fs.take i) ++ fs.drop i) (-1) false) lg (opnT (keepF frm (fs.take i))) (opnN frm (keepF frm (fs.take i))) Z ∧ StayL (fb :: db :: lv :: L) W Z) (fun _ _ => False)
    (hnm.mono fun v Z ⟨g1, g2, g3⟩ => ⟨g1, by simpa [keepF, opnT, opnN] using g2, g3⟩) ?_
  · refine Run.opC rfl rfl rfl hall ?_
    rintro v Z (⟨rfl, hZ, stZ⟩ | ⟨e, -, -, hF⟩)
    rotate_left
    · exact hF.elim
    have htk : fs.take (fs.map (·.num)).length = fs := by simp
    have hdr : fs.drop (fs.map (·.num)).length = [] := by simp
    rw [htk, hdr, List.append_nil] at hZ
    have hKR : Ris (keepF frm fs) := hR.sub (keepF_sub frm fs)
    obtain ⟨s1, s2, s3⟩ := opnN_spec frm (keepF frm fs) hKR fun f hf => by
      have := (List.mem_filter.1 hf).2
      simpa using this
    have s4 : opnN frm (keepF frm fs) < 100 := by
      have := s3 99 (by omega) fun f hf => hm f ((keepF_sub frm fs).subset hf)
      omega
    generalize opnN frm (keepF frm fs) = last at *
    have zdb := (stZ db (by simp)).trans wdb
    have zlv := (stZ lv (by simp)).trans wlv
    obtain ⟨a, zlg, -⟩ := hZ.row
    have hbig : ¬ (99999998 : Int) < (last : Int) := by omega
    have hbig' : ¬ 99999998 < last := by omega
    have hmk := hZ.make (logN last)
    rw [make_LD hKR s4 (fun f hf => by have := s1 f hf; omega), if_neg (by simp)] at hmk
    (repeat (first | refine Run.adm rfl ?_ | refine Run.seq ?_ | ((first | apply Run.opS rfl | apply Run.condS); (· (simp -implicitDefEqProofs [zlv, zlg, hbig, hbig']; first | exact ⟨rfl, rfl⟩ | exact rfl)))))
    refine Run.qchain prog_mixed 6 (by kernel_rfl) ?_
    (repeat (first | refine execQ_E rfl ?_ | (apply execQ_S rfl; (· (simp -implicitDefEqProofs [zdb, zlv, zlg]; exact ⟨rfl, rfl⟩)))))
    refine execQ_C rfl rfl rfl (lname_at last s4 _) ?_
    (repeat (first | refine execQ_E rfl ?_ | (apply execQ_S rfl; (· (simp -implicitDefEqProofs; exact ⟨rfl, rfl⟩)))))
    refine SeqR.C rfl rfl rfl hmk ?_
    rintro v Z2 ⟨rfl, hZ2, stZ2⟩
    (repeat (first | refine SeqR.E rfl ?_ | (apply SeqR.o0 rfl; (· (simp -implicitDefEqProofs; exact ⟨rfl, rfl⟩))) | (apply SeqR.A rfl; (· (simp -implicitDefEqProofs; done)); (· (simp -implicitDefEqProofs; exact ⟨rfl, rfl⟩))) | (apply SeqR.N rfl; (· (simp -implicitDefEqProofs; done)))))
    have zlv2 := (stZ2 lv (by simp)).trans zlv
    (repeat (first | refine Run.adm rfl ?_ | refine Run.seq ?_ | ((first | apply Run.opS rfl | apply Run.condS); (· (simp -implicitDefEqProofs [zlv2]; first | exact ⟨rfl, rfl⟩ | exact rfl)))))
    refine Run.retS Tryz.func34 r34_ok trivial (by simp [r34]; rfl) ?_
    refine ⟨lg, by simp, by omega, hZ2.sub fun i hi => by simp [hi], fun i hi => ?_⟩
    rw [stZ2 i (by simp [hi]), stZ i (by simp [hi]), stW i hi]
  · intro i n hi Z ⟨hZ, stZ⟩
    rw [List.getElem?_map] at hi
    cases hfi : fs[i]? with
    | none => rw [hfi] at hi; cases hi
    | some f =>
    rw [hfi] at hi
    simp only [Option.map_some, Option.some.injEq] at hi
    subst hi
    have hlt : i < fs.length := (List.getElem?_eq_some_iff.1 hfi).1
    have hdr : fs.drop i = f :: fs.drop (i + 1) := by rw [List.drop_eq_getElem_cons hlt, (List.getElem?_eq_some_iff.1 hfi).2]
    have htk : fs.take (i + 1) = fs.take i ++ [f] := by rw [List.take_add_one, hfi]; rfl
    have hsub : (keepF frm (fs.take i) ++ fs.drop i).Sublist fs := by
      have := ((keepF_sub frm (fs.take i)).append (List.Sublist.refl (fs.drop i)))
      rwa [List.take_append_drop] at this
    have hRi := hR.sub hsub
    rw [hdr] at hZ hRi
    have wfb' := (stZ fb (by simp)).trans wfb
    have wdb' := (stZ db (by simp)).trans wdb
    have wlv' := (stZ lv (by simp)).trans wlv
    have hmem : f ∈ fs := List.mem_of_getElem? hfi
    rw [htk, keepF_snoc]
    by_cases hlt2 : f.num < frm
    · rw [if_neg (by omega)]
      exact (open1_rm hZ hRi wfb' wdb' hlt2).mono fun v Z2 ⟨g1, g2, g3⟩ => .inl ⟨g1, g2, stZ.trans g3⟩
    · rw [if_pos (by omega), opnT_snoc, opnN_snoc, List.append_assoc]
      have hlen : (opnT (keepF frm (fs.take i))).length + (allF f.bytes).1.length ≤ 1000000000 := by
        have h1 : (keepF frm (fs.take i) ++ [f]).Sublist fs := by
          refine List.Sublist.trans ?_ (List.take_sublist (i + 1) fs)
          rw [htk]
          exact (keepF_sub frm (fs.take i)).append (List.Sublist.refl _)
        have h2 := opnT_len h1
        rw [opnT_snoc, List.length_append, List.length_map] at h2
        omega
      exact (open1_rd hZ hRi wfb' wdb' wlv' (by simp) (by have := hb f hmem; omega) hlen hlt2).mono fun v Z2 ⟨g1, g2, g3⟩ => .inl ⟨g1, g2, stZ.trans g3⟩

end Go.Proofs.YthphkcpbglhabaaGreatDoor
