/-
  Layer 18, part D: a book in the heap: given, Move, Ids, puts.
-/
import Derived.Test.YthphkcpbglhabaaGreatDoorBokC
namespace Go.Proofs.YthphkcpbglhabaaGreatDoor
open Sx Go
set_option maxRecDepth 100000
set_option linter.unusedSimpArgs false
set_option linter.unusedVariables false
set_option linter.unnecessarySimpa false
attribute [local simp] stepV condR boundsC appendG appendO copyV srcC guardB isCall opStep Opd.ev put readAt aBin aUn args0 V.celled V.ones V.one V.cells putAt bounds bound1 elemsOf srcOf appendV fillAt fillEl V.pures V.pure unwind evs ARes.ev mkRes V.ren V.renL O.ren eqCells eq1 aEq aMM hasTy hasTyN okTy mmGo Known HLe OLe VsLe.refl VLe.refl VLe.cap Stay VsLe V.frz V.frzL O.frz fr clearV rn KnownR Objs OLeO ObjsE nm back setAll ren_ite take_map_len List.take_of_length_le
attribute [local simp ↓] upd_app tl_cons tl_nil
attribute [local simp] encS_ren encS_ones encS_len encS_take encN_ren encN_ones KnownS VLe.refl

theorem vs_slice' {ids : List Int} : ∀ ro m c, VRel ro m (.vs (ids.map encN) 1) c → ∃ a n q, c = Value.slice a n q := by
  intro ro m c hv
  rcases hv.vs_inv with ⟨b', o, cap, cs, f, _, _, _, _, _, _, rfl⟩ | ⟨a, h, rfl⟩
  · exact ⟨_, _, _, rfl⟩
  · exact ⟨_, _, _, rfl⟩
theorem clone_tri (ids : List Int) (hl : ids.length ≤ 100000) : Tri Tryz.prog 42 [.vs (ids.map encN) 1] [] (fun v H => v = .vs (ids.map encN) 1 ∧ H = []) := by
  refine Tri.of_run' Tryz.func42 rfl c42_ok (by simp [Tryz.ntmps42]) ?_
  cases ids with
  | nil =>
    (repeat (first | refine Run.adm rfl ?_ | refine Run.seq ?_ | ((first | apply Run.opS rfl | apply Run.condS); (· (simp -implicitDefEqProofs; first | exact ⟨rfl, rfl⟩ | exact rfl)))))
    refine Run.opEqN rfl rfl (by simpa using vs_slice' (ids := [])) (by simp) ?_
    rintro (_ | _)
    · (repeat (first | refine Run.adm rfl ?_ | refine Run.seq ?_ | ((first | apply Run.opS rfl | apply Run.condS); (· (simp -implicitDefEqProofs; first | exact ⟨rfl, rfl⟩ | exact rfl)))))
      refine Run.freeze 1 (es := []) (sz := 1) (by simp) ?_
      refine Run.mv [] [(2, .vs [] 1)] [] (by rfl) (by decide) (by simp -implicitDefEqProofs) (by simp -implicitDefEqProofs) ?_
      refine Run.retI Tryz.func42 r42_ok trivial (by simp -implicitDefEqProofs [r42]; rfl) (by simp ) ?_ (by simp -implicitDefEqProofs ) (by simp -implicitDefEqProofs )
      simp
    · (repeat (first | refine Run.adm rfl ?_ | refine Run.seq ?_ | ((first | apply Run.opS rfl | apply Run.condS); (· (simp -implicitDefEqProofs; first | exact ⟨rfl, rfl⟩ | exact rfl)))))
      refine Run.mv [] [(2, .vs [] 1)] [] (by rfl) (by decide) (by simp -implicitDefEqProofs [VLe.nils]) (by simp -implicitDefEqProofs [VLe.nils]) ?_
      refine Run.retI Tryz.func42 r42_ok trivial (by simp -implicitDefEqProofs [r42]; rfl) (by simp ) ?_ (by simp -implicitDefEqProofs ) (by simp -implicitDefEqProofs )
      simp
  | cons x r =>
    have hb : (r.length + 1) * 8 ≤ 70368744177664 := by simp only [List.length_cons] at hl; omega
    have htk : (r.map encN).take r.length = r.map encN := List.take_of_length_le (by simp)
    (repeat (first | refine Run.adm rfl ?_ | refine Run.seq ?_ | ((first | apply Run.opS rfl | apply Run.condS); (· (simp -implicitDefEqProofs [hb]; first | exact ⟨rfl, rfl⟩ | exact rfl)))))
    refine Run.freeze 1 (es := encN x :: r.map encN) (sz := 1) (by simp) ?_
    refine Run.mv [] [(2, .vs (encN x :: r.map encN) 1)] [] (by rfl) (by decide) (by simp -implicitDefEqProofs [htk]) (by simp -implicitDefEqProofs [htk]) ?_
    refine Run.retI Tryz.func42 r42_ok trivial (by simp -implicitDefEqProofs [r42]; rfl) (by simp ) ?_ (by simp -implicitDefEqProofs ) (by simp -implicitDefEqProofs )
    simp
theorem clone_at (ids : List Int) (hl : ids.length ≤ 100000) (H : List O) : Tri Tryz.prog 42 [.vs (ids.map encN) 1] H (fun v H' => v = .vs (ids.map encN) 1 ∧ H' = H) := (clone_tri ids hl).at rfl rfl H

theorem WalOwn.put {X : List O} {L : List Nat} {d : Nat} {D : Dk} {Y : List O} {lg n : Nat} {ts : List (Bs × Nat)} (h : WalOwn X L d D lg ts n Y) {i : Nat} (hi : i ∈ L) (o : O) : WalOwn X L d D lg ts n (Y.set i o) := by
  obtain ⟨a, ho, na, naL, nlL, g1, g2⟩ := h
  exact ⟨a, ho.put (by simp [hi]) o, na, naL, nlL, by rw [setN fun e => nlL (by rw [← e]; exact hi)]; exact g1, by rw [setN fun e => naL (by rw [← e]; exact hi)]; exact g2⟩
theorem StayL.put {Y Z : List O} {L : List Nat} {i : Nat} (h : StayL L Y Z) (hi : i ∉ L) (o : O) : StayL L Y (Z.set i o) := fun j hj => by
  have n1 : i ≠ j := fun e => hi (e ▸ hj)
  rw [setN n1]; exact h j hj

/-- a new object beside the log -/
theorem WalOwn.more {X : List O} {L : List Nat} {d lg n : Nat} {D : Dk} {Y : List O} {ts : List (Bs × Nat)} (h : WalOwn X L d D lg ts n Y) (o : O) : WalOwn X (Y.length :: L) d D lg ts n (Y ++ [o]) := by
  obtain ⟨a, ho, na, naL, nlL, g1, g2⟩ := h
  have h1 := ho.lt (i := a) (by simp)
  have h2 := ho.lt (i := lg) (by simp)
  refine ⟨a, (ho.more [o] [Y.length] (by intro i hi; simp at hi; simp [hi])).sub fun i hi => ?_, na, fun hm => ?_, fun hm => ?_, getA g1 _, getA g2 _⟩
  · simp only [List.mem_cons, List.mem_append, List.not_mem_nil, or_false] at hi ⊢
    rcases hi with hi | hi | hi | hi
    · exact .inl (.inl hi)
    · exact .inl (.inr (.inl hi))
    · exact .inr hi
    · exact .inl (.inr (.inr hi))
  · rcases List.mem_cons.1 hm with hm | hm
    · omega
    · exact naL hm
  · rcases List.mem_cons.1 hm with hm | hm
    · omega
    · exact nlL hm

theorem WalOwn.keep {X : List O} {L : List Nat} {d lg n : Nat} {D : Dk} {Y Z : List O} {ts : List (Bs × Nat)} (h : WalOwn X L d D lg ts n Y) (hk : Kept Y Z []) : WalOwn X L d D lg ts n Z ∧ StayL L Y Z := by
  obtain ⟨a, ho, na, naL, nlL, hlog⟩ := h
  obtain ⟨k1, k2⟩ := ho.keep hk
  exact ⟨⟨a, k1, na, naL, nlL, hlog.stay k2⟩, k2.tl.tl⟩

/-- ways that meet -/
theorem Run.joinP {E : Env} {x : AItem} {k : List AItem} {t : T} {h : List O} {α : Type} (st : α → List (Nat × V) × List O) (P : α → Prop) (h2 : ∀ a, P a → Run E ⟨k, tl (st a).1, (st a).2⟩)
    (h1 : ∀ k, (∀ a, P a → Run E ⟨k, tl (st a).1, (st a).2⟩) → Run E ⟨x :: k, t, h⟩) : Run E ⟨x :: k, t, h⟩ := h1 k h2
theorem Own.base {X L d D Y} (h : Own X L d D Y) {i : Nat} {o : O} (hi : X[i]? = some o) : Y[i]? = some o := by
  obtain ⟨F, h1, h2, h3, h4⟩ := h
  rw [h2.2 i (List.getElem?_eq_some_iff.1 hi).1 (by simp)]; exact hi
theorem WalOwn.base {X : List O} {L : List Nat} {d lg n : Nat} {D : Dk} {Y : List O} {ts : List (Bs × Nat)} (h : WalOwn X L d D lg ts n Y) {i : Nat} {o : O} (hi : X[i]? = some o) : Y[i]? = some o := h.disk.base hi

/-- a book in the heap -/
def BookAt (Z : List O) (bk lg : Nat) (move : Int) (ids : List Int) (n : Int) : Prop := Z[bk]? = some (.row [.ptr lg 0, .int .i64 move, .vs (ids.map encN) 1, .int .i64 n])
section book
variable {Z : List O} {bk lg : Nat} {move n : Int} {ids : List Int}
theorem bgiven_tri (h : BookAt Z bk lg move ids n) : Tri Tryz.prog 40 [.ptr bk 0] Z (fun v H => v = .bool true ∧ H = Z) := by
  have h1 : Z[bk]? = some _ := h
  refine Tri.of_run' Tryz.func40 rfl c40_ok (by simp [Tryz.ntmps40]) ?_
  (repeat (first | refine Run.adm rfl ?_ | refine Run.seq ?_ | ((first | apply Run.opS rfl | apply Run.condS); (· (simp -implicitDefEqProofs [h1]; first | exact ⟨rfl, rfl⟩ | exact rfl)))))
  refine Run.retS Tryz.func40 r40_ok trivial (by simp [r40]; rfl) ?_
  exact ⟨by simp, rfl⟩
theorem bmove_tri (h : BookAt Z bk lg move ids n) : Tri Tryz.prog 12 [.ptr bk 0] Z (fun v H => v = .int .i64 move ∧ H = Z) := by
  have h1 : Z[bk]? = some _ := h
  refine Tri.of_run' Tryz.func12 rfl c12_ok (by simp [Tryz.ntmps12]) ?_
  (repeat (first | refine Run.adm rfl ?_ | refine Run.seq ?_ | ((first | apply Run.opS rfl | apply Run.condS); (· (simp -implicitDefEqProofs; first | exact ⟨rfl, rfl⟩ | exact rfl)))))
  refine Run.opC rfl rfl rfl (bgiven_tri h) ?_
  rintro v H ⟨rfl, rfl⟩
  (repeat (first | refine Run.adm rfl ?_ | refine Run.seq ?_ | ((first | apply Run.opS rfl | apply Run.condS); (· (simp -implicitDefEqProofs [h1]; first | exact ⟨rfl, rfl⟩ | exact rfl)))))
  refine Run.retS Tryz.func12 r12_ok trivial (by simp [r12]; rfl) ?_
  exact ⟨by simp, rfl⟩
theorem bids_tri (h : BookAt Z bk lg move ids n) (hl : ids.length ≤ 100000) : Tri Tryz.prog 13 [.ptr bk 0] Z (fun v H => v = .vs (ids.map encN) 1 ∧ H = Z) := by
  have h1 : Z[bk]? = some _ := h
  refine Tri.of_run' Tryz.func13 rfl c13_ok (by simp [Tryz.ntmps13]) ?_
  (repeat (first | refine Run.adm rfl ?_ | refine Run.seq ?_ | ((first | apply Run.opS rfl | apply Run.condS); (· (simp -implicitDefEqProofs; first | exact ⟨rfl, rfl⟩ | exact rfl)))))
  refine Run.opC rfl rfl rfl (bgiven_tri h) ?_
  rintro v H ⟨rfl, rfl⟩
  (repeat (first | refine Run.adm rfl ?_ | refine Run.seq ?_ | ((first | apply Run.opS rfl | apply Run.condS); (· (simp -implicitDefEqProofs [h1]; first | exact ⟨rfl, rfl⟩ | exact rfl)))))
  refine Run.opC rfl rfl rfl (clone_at ids hl _) ?_
  rintro v H' ⟨rfl, rfl⟩
  (repeat (first | refine Run.adm rfl ?_ | refine Run.seq ?_ | ((first | apply Run.opS rfl | apply Run.condS); (· (simp -implicitDefEqProofs; first | exact ⟨rfl, rfl⟩ | exact rfl)))))
  refine Run.retS Tryz.func13 r13_ok trivial (by simp [r13]; rfl) ?_
  exact ⟨by simp, rfl⟩
end book

section puts
variable {X : List O} {L : List Nat} {d bk lg : Nat} {A : List LF} {f : LF} {fu : Int} {off : Bool} {Z : List O} {ts : List (Bs × Nat)} {move n : Int} {ids : List Int}
/-- a record is laid down -/
theorem puts_tri (h : WalOwn X (bk :: L) d (LD (A ++ [f]) fu off) lg ts f.num Z) (hb : BookAt Z bk lg move ids n) (hbL : bk ∉ L) (hR : Ris (A ++ [f])) (hl : ts.length ≤ 100000) (hm : mayB move ids = true) (hn : 0 ≤ n ∧ n ≤ 1000) (hbb : f.bytes.length ≤ 1000000) :
    Tri Tryz.prog 37 [.ptr bk 0] Z (fun v W => BookAt W bk lg move ids (n + 1) ∧ StayL L Z W ∧
      (((off = true ∨ fu = 0) ∧ v = .int .i64 50 ∧ WalOwn X (bk :: L) d (LD (A ++ [f]) fu true) lg ts f.num W) ∨
       (¬ (off = true ∨ fu = 0) ∧ nxF fu = 0 ∧ v = .int .i64 50 ∧ WalOwn X (bk :: L) d (LD (A ++ [⟨f.num, f.bytes ++ frmB (recB move ids), f.sure⟩]) (nxF fu) true) lg (ts ++ [(recB move ids, f.num)]) f.num W) ∨
       (¬ (off = true ∨ fu = 0) ∧ nxF fu ≠ 0 ∧ v = .int .i64 0 ∧ WalOwn X (bk :: L) d (LD (A ++ [⟨f.num, f.bytes ++ frmB (recB move ids), (f.bytes ++ frmB (recB move ids)).length⟩]) (nxF (nxF fu)) false) lg (ts ++ [(recB move ids, f.num)]) f.num W))) := by
  obtain ⟨m1, m2, m3, m4⟩ := mayB_spec hm
  have h1 : Z[bk]? = some _ := hb
  have hrl : (recB move ids).length ≤ 1000 := by have := bnbs_len (move :: (ids.length : Int) :: ids); simp only [recB, List.length_cons] at this ⊢; omega
  have hfl := sixF_len' _ hrl
  have hw := wrap_small (n := n + 1) (by omega) (by omega)
  -- the last step
  have hend : ∀ {k : List AItem} {t : T} {W : List O} (v : Int), AtEnd k → True := fun _ _ => trivial
  refine Tri.of_run' Tryz.func37 rfl c37_ok (by simp [Tryz.ntmps37]) ?_
  (repeat (first | refine Run.adm rfl ?_ | refine Run.seq ?_ | ((first | apply Run.opS rfl | apply Run.condS); (· (simp -implicitDefEqProofs; first | exact ⟨rfl, rfl⟩ | exact rfl)))))
  refine Run.qchain prog_mixed 13 (by kernel_rfl) ?_
  (repeat (first | refine execQ_E rfl ?_ | (apply execQ_S rfl; (· (simp -implicitDefEqProofs [h1]; exact ⟨rfl, rfl⟩)))))
  refine execQ_C rfl rfl rfl (record_at move ids (by omega) _) ?_
  (repeat (first | refine execQ_E rfl ?_ | (apply execQ_S rfl; (· (simp -implicitDefEqProofs; exact ⟨rfl, rfl⟩)))))
  refine SeqR.C rfl rfl rfl (h.add hR (by omega) (recB move ids) (by omega) (by omega)) ?_
  rintro v W (⟨e, rfl, hW, st⟩ | ⟨e, rfl, hW, st⟩)
  · have w1 := (st bk (by simp)).trans h1
    (repeat (first | refine SeqR.E rfl ?_ | (apply SeqR.o0 rfl; (· (simp -implicitDefEqProofs; exact ⟨rfl, rfl⟩))) | (apply SeqR.A rfl; (· (simp -implicitDefEqProofs; done)); (· (simp -implicitDefEqProofs; exact ⟨rfl, rfl⟩))) | (apply SeqR.N rfl; (· (simp -implicitDefEqProofs; done)))))
    (repeat (first | refine Run.adm rfl ?_ | refine Run.seq ?_ | ((first | apply Run.opS rfl | apply Run.condS); (· (simp -implicitDefEqProofs [w1, hw]; first | exact ⟨rfl, rfl⟩ | exact rfl)))))
    refine Run.retS Tryz.func37 r37_ok trivial (by simp [r37]; rfl) ?_
    exact ⟨by unfold BookAt; rw [setG w1], st.tl.put hbL _, .inl ⟨e, by simp, hW.put (by simp) _⟩⟩
  · have w1 := (st bk (by simp)).trans h1
    have hR2 : Ris (A ++ [⟨f.num, f.bytes ++ frmB (recB move ids), f.sure⟩]) := hR.put rfl
    obtain ⟨f', hf'⟩ : ∃ f' : LF, f' = ⟨f.num, f.bytes ++ frmB (recB move ids), f.sure⟩ := ⟨_, rfl⟩
    have hn' : f.num = f'.num := by rw [hf']
    have hb' : f.bytes ++ frmB (recB move ids) = f'.bytes := by rw [hf']
    rw [← hf'] at hW hR2
    (repeat (first | refine SeqR.E rfl ?_ | (apply SeqR.o0 rfl; (· (simp -implicitDefEqProofs; exact ⟨rfl, rfl⟩))) | (apply SeqR.A rfl; (· (simp -implicitDefEqProofs; done)); (· (simp -implicitDefEqProofs; exact ⟨rfl, rfl⟩))) | (apply SeqR.N rfl; (· (simp -implicitDefEqProofs; done)))))
    (repeat (first | refine Run.adm rfl ?_ | refine Run.seq ?_ | ((first | apply Run.opS rfl | apply Run.condS); (· (simp -implicitDefEqProofs [w1]; first | exact ⟨rfl, rfl⟩ | exact rfl)))))
    rw [hn'] at hW
    refine Run.opC rfl rfl rfl (hW.flush hR2) ?_
    rintro v U (⟨e2, rfl, hU, st2⟩ | ⟨e2, rfl, hU, st2⟩)
    · have u1 := (st2 bk (by simp)).trans w1
      have e3 : nxF fu = 0 := by
        rcases e2 with e2 | e2
        · cases e2
        · exact e2
      (repeat (first | refine Run.adm rfl ?_ | refine Run.seq ?_ | ((first | apply Run.opS rfl | apply Run.condS); (· (simp -implicitDefEqProofs [u1, hw]; first | exact ⟨rfl, rfl⟩ | exact rfl)))))
      refine Run.retS Tryz.func37 r37_ok trivial (by simp [r37]; rfl) ?_
      refine ⟨by unfold BookAt; rw [setG u1], (st.tl.trans st2.tl).put hbL _, .inr (.inl ⟨e, e3, by simp, ?_⟩)⟩
      rw [← hf']
      rw [← hn'] at hU
      exact hU.put (by simp) _
    · have u1 := (st2 bk (by simp)).trans w1
      have e3 : nxF fu ≠ 0 := fun h0 => e2 (.inr h0)
      (repeat (first | refine Run.adm rfl ?_ | refine Run.seq ?_ | ((first | apply Run.opS rfl | apply Run.condS); (· (simp -implicitDefEqProofs [u1, hw]; first | exact ⟨rfl, rfl⟩ | exact rfl)))))
      refine Run.retS Tryz.func37 r37_ok trivial (by simp [r37]; rfl) ?_
      refine ⟨by unfold BookAt; rw [setG u1], (st.tl.trans st2.tl).put hbL _, .inr (.inr ⟨e, e3, by simp, ?_⟩)⟩
      rw [hb']
      rw [← hn'] at hU
      exact hU.put (by simp) _
end puts

end Go.Proofs.YthphkcpbglhabaaGreatDoor
