/-
  Layer 06, part Q: a log's calls on a disk of its own files; crashes; what must come.
-/
import Derived.Test.YthphkcpbglhabaaGreatDoorWalP
namespace Go.Proofs.YthphkcpbglhabaaGreatDoor
open Sx Go
set_option maxRecDepth 100000
set_option linter.unusedSimpArgs false
set_option linter.unusedVariables false
set_option linter.unnecessarySimpa false
attribute [local simp] stepV condR boundsC appendG appendO copyV srcC guardB isCall opStep Opd.ev put readAt aBin aUn args0 V.celled V.ones V.one V.cells putAt bounds bound1 elemsOf srcOf appendV fillAt fillEl V.pures V.pure unwind evs ARes.ev mkRes V.ren V.renL O.ren eqCells eq1 aEq aMM hasTy hasTyN okTy mmGo Known HLe OLe VsLe.refl VLe.refl VLe.cap Stay VsLe V.frz V.frzL O.frz fr clearV rn KnownR Objs OLeO ObjsE nm back setAll ren_ite take_map_len List.take_of_length_le
attribute [local simp ↓] upd_app tl_cons tl_nil
attribute [local simp] encS_ren encS_ones encS_len encS_take KnownS VLe.refl

section calls
variable {X : List O} {L : List Nat} {d lg n : Nat} {A fs : List LF} {f : LF} {fu : Int} {off : Bool} {Y : List O} {ts : List (Bs × Nat)}

theorem WalOwn.add (h : WalOwn X L d (LD (A ++ [f]) fu off) lg ts f.num Y) (hR : Ris (A ++ [f])) (hl : ts.length ≤ 1000000000) (s : Bs) (hs : s.length ≤ 131072) (hb : f.bytes.length + (frmB s).length ≤ 4194304) :
    Tri Tryz.prog 79 [.ptr lg 0, .str s] Y (fun v Z => ((off = true ∨ fu = 0) ∧ v = .int .i64 50 ∧ WalOwn X L d (LD (A ++ [f]) fu true) lg ts f.num Z ∧ StayL L Y Z) ∨
      (¬ (off = true ∨ fu = 0) ∧ v = .int .i64 0 ∧ WalOwn X L d (LD (A ++ [⟨f.num, f.bytes ++ frmB s, f.sure⟩]) (nxF fu) false) lg (ts ++ [(s, f.num)]) f.num Z ∧ StayL L Y Z)) := by
  have hap := append_LD (B := []) (fu := fu) (off := off) hR (frmB s) hb
  refine (add_own h (hR.2 f (by simp)) hl s hs).mono fun v Z ⟨g1, g2, g3⟩ => ?_
  unfold addT addD at g2
  unfold addD at g1
  rw [hap] at g1 g2
  by_cases hb : off = true ∨ fu = 0
  · rw [if_pos hb] at g1 g2
    exact .inl ⟨hb, g1, by simpa using g2, g3⟩
  · rw [if_neg hb] at g1 g2
    exact .inr ⟨hb, g1, by simpa using g2, g3⟩
theorem WalOwn.flush (h : WalOwn X L d (LD (A ++ [f]) fu off) lg ts f.num Y) (hR : Ris (A ++ [f])) :
    Tri Tryz.prog 81 [.ptr lg 0] Y (fun v Z => ((off = true ∨ fu = 0) ∧ v = .int .i64 50 ∧ WalOwn X L d (LD (A ++ [f]) fu true) lg ts f.num Z ∧ StayL L Y Z) ∨
      (¬ (off = true ∨ fu = 0) ∧ v = .int .i64 0 ∧ WalOwn X L d (LD (A ++ [⟨f.num, f.bytes, f.bytes.length⟩]) (nxF fu) false) lg ts f.num Z ∧ StayL L Y Z)) := by
  have hap := sync_LD (B := []) (fu := fu) (off := off) hR
  obtain ⟨a, ho, na, naL, nlL, hlog⟩ := h
  refine (flush_own ho (hR.2 f (by simp)) hlog.1).mono fun v Z ⟨g1, g2, g3⟩ => ?_
  rw [hap] at g1 g2
  by_cases hb : off = true ∨ fu = 0
  · rw [if_pos hb] at g1 g2
    exact .inl ⟨hb, g1, ⟨a, g2, na, naL, nlL, hlog.stay g3⟩, g3.tl.tl⟩
  · rw [if_neg hb] at g1 g2
    exact .inr ⟨hb, g1, ⟨a, g2, na, naL, nlL, hlog.stay g3⟩, g3.tl.tl⟩
/-- where the power stands behind two doings -/
theorem WalOwn.roll (h : WalOwn X L d (LD (A ++ [f]) fu off) lg ts f.num Y) (hR : Ris (A ++ [f])) (hn : f.num + 1 < 100) :
    Tri Tryz.prog 43 [.ptr lg 0] Y (fun v Z => ((off = true ∨ fu = 0) ∧ v = .tup [.int .i64 0, .int .i64 50] ∧ WalOwn X L d (LD (A ++ [f]) fu true) lg ts f.num Z ∧ StayL L Y Z) ∨
      (¬ (off = true ∨ fu = 0) ∧ nxF fu = 0 ∧ v = .tup [.int .i64 0, .int .i64 50] ∧ WalOwn X L d (LD (A ++ [⟨f.num, f.bytes, f.bytes.length⟩]) (nxF fu) true) lg ts f.num Z ∧ StayL L Y Z) ∨
      (¬ (off = true ∨ fu = 0) ∧ nxF fu ≠ 0 ∧ v = .tup [.int .i64 (f.num + 1 : Nat), .int .i64 0] ∧ WalOwn X L d (LD (A ++ [⟨f.num, f.bytes, f.bytes.length⟩] ++ [⟨f.num + 1, [], 0⟩]) (nxF (nxF fu)) false) lg ts (f.num + 1) Z ∧ StayL L Y Z)) := by
  have hap := sync_LD (B := []) (fu := fu) (off := off) hR
  have hR2 : Ris (A ++ [⟨f.num, f.bytes, f.bytes.length⟩]) := hR.put (g := ⟨f.num, f.bytes, f.bytes.length⟩) rfl
  have hmk := fun o => make_LD (fu := nxF fu) (off := o) hR2 (n := f.num + 1) hn (fun g hg => by
    rcases List.mem_append.1 hg with hg | hg
    · have := hR.mid.1 g hg; omega
    · rw [List.mem_singleton.1 hg]; simp)
  obtain ⟨a, ho, na, naL, nlL, hlog⟩ := h
  refine (roll_own ho (lg := lg) (by simp) hn hlog.1).mono fun v Z hq => ?_
  unfold RollR at hq
  rw [hap] at hq
  by_cases hb : off = true ∨ fu = 0
  · rw [if_pos hb] at hq
    rcases hq with ⟨e, -⟩ | ⟨e, -⟩ | ⟨-, g1, g2, g3⟩
    · exact absurd e (by simp)
    · exact absurd e (by simp)
    · exact .inl ⟨hb, g1, ⟨a, g2, na, naL, nlL, hlog.stay g3⟩, g3.tl.tl⟩
  · rw [if_neg hb] at hq
    simp only [hmk] at hq
    by_cases hc : nxF fu = 0
    · rw [if_pos (.inr hc)] at hq
      rcases hq with ⟨-, e, -⟩ | ⟨-, -, g1, g2, g3⟩ | ⟨e, -⟩
      · exact absurd e (by simp)
      · exact .inr (.inl ⟨hb, hc, g1, ⟨a, g2, na, naL, nlL, hlog.stay g3⟩, g3.tl.tl⟩)
      · exact absurd rfl e
    · rw [if_neg (by simp [hc])] at hq
      rcases hq with ⟨-, -, g1, g2, g3, g4⟩ | ⟨-, e, -⟩ | ⟨e, -⟩
      · refine .inr (.inr ⟨hb, hc, g1, ⟨a, g2, na, naL, nlL, g3, ?_⟩, fun i hi => g4 i (by simp [hi]) fun e => nlL (e ▸ hi)⟩)
        rw [g4 a (by simp) na]; exact hlog.2
      · exact absurd rfl e
      · exact absurd rfl e
theorem WalOwn.all (h : WalOwn X L d (LD fs fu off) lg ts n Y) (hl : ts.length ≤ 1000000000) : Tri Tryz.prog 35 [.ptr lg 0] Y (fun v Z => v = .vs ((ts.map (·.1)).map encS) 1 ∧ WalOwn X L d (LD fs fu off) lg ts n Z ∧ StayL L Y Z) := by
  obtain ⟨a, ho, na, naL, nlL, hlog⟩ := h
  refine (all_log Y hlog.1 hlog.2 hl).mono fun v Z ⟨g1, g2⟩ => ?_
  obtain ⟨k1, k2⟩ := ho.keep g2
  exact ⟨g1, ⟨a, k1, na, naL, nlL, hlog.stay k2⟩, k2.tl.tl⟩
theorem WalOwn.last {D : Dk} (h : WalOwn X L d D lg ts n Y) : Tri Tryz.prog 39 [.ptr lg 0] Y (fun v Z => v = .int .i64 n ∧ Z = Y) := by
  obtain ⟨a, g1, -⟩ := h.row
  exact last_tri Y g1
/-- the log is let go -/
theorem WalOwn.disk {D : Dk} (h : WalOwn X L d D lg ts n Y) : Own X L d D Y := by
  obtain ⟨a, ho, -⟩ := h
  exact ho.sub fun i hi => by simp [hi]

/-- what is left of a file -/
def cutL (nf : Bs → Nat) (f : LF) : LF := ⟨f.num, f.bytes.take (cutLen (nf (logN f.num)) f.file), cutLen (nf (logN f.num)) f.file⟩
theorem cutL_spec (nf : Bs → Nat) (f : LF) (h : f.sure ≤ f.bytes.length) : ∃ c, f.sure ≤ c ∧ c ≤ f.bytes.length ∧ cutL nf f = ⟨f.num, f.bytes.take c, c⟩ ∧ ((∀ x, nf x = 0) → c = f.sure) := by
  refine ⟨cutLen (nf (logN f.num)) f.file, ?_, ?_, rfl, fun h0 => ?_⟩
  · simp only [cutLen, LF.file]; omega
  · simp only [cutLen, LF.file]; omega
  · simp only [cutLen, LF.file, h0]; omega
theorem cut_ris (nf : Bs → Nat) (h : Ris fs) : Ris (fs.map (cutL nf)) := by
  refine ⟨?_, fun f hf => ?_⟩
  · rw [List.pairwise_map]; exact h.1
  · obtain ⟨g, hg, rfl⟩ := List.mem_map.1 hf
    exact h.2 g hg
theorem crash_LD (h : Own X L d (LD fs fu off) Y) (hR : Ris fs) (keep : List Int) (hk : keep.length ≤ 1000) :
    Tri Tryz.prog 15 [.ptr d 0, .vs (keep.map encN) 1] Y (fun v Z => v = .int .i64 0 ∧ ∃ nf : Bs → Nat, (keep = [] → ∀ x, nf x = 0) ∧ Own X L d (LD (fs.map (cutL nf)) (-1) false) Z ∧ StayL L Y Z) := by
  refine (crash_own h (nmOk_LD hR _ _) keep hk).mono fun v Z ⟨g1, nf, g2, g3, g4⟩ => ⟨g1, nf, g2, ?_, g4⟩
  have e : (LD fs fu off).files.map (fun f => cutF (nf f.name) f) = (fs.map (cutL nf)).map LF.file := by
    simp only [LD, List.map_map]
    exact List.map_congr_left fun f _ => rfl
  rw [e] at g3
  exact g3
theorem crash0_LD (h : Own X L d (LD fs fu off) Y) (hR : Ris fs) :
    Tri Tryz.prog 15 [.ptr d 0, .nils] Y (fun v Z => v = .int .i64 0 ∧ ∃ nf : Bs → Nat, (∀ x, nf x = 0) ∧ Own X L d (LD (fs.map (cutL nf)) (-1) false) Z ∧ StayL L Y Z) := by
  have hv : VsLe [V.ptr d 0, .nils] [.ptr d 0, .vs (([] : List Int).map encN) 1] := ⟨VLe.refl _, VLe.nils _, trivial⟩
  exact (Tri.args hv (crash_LD h hR [] (by simp))).mono fun v Z ⟨g1, nf, g2, g3, g4⟩ => ⟨g1, nf, g2 rfl, g3, g4⟩
end calls

theorem sixF_len (s : Bs) (h : s.length ≤ 1000) : (frmB s).length ≤ 1013 := by
  have h1 := fr_len s
  have h2 := vput_len9 (n := s.length) (by omega)
  omega

end Go.Proofs.YthphkcpbglhabaaGreatDoor
