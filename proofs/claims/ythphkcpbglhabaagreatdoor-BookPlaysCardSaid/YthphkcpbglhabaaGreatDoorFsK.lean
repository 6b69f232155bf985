/-
  Layer 05, part K: a disk of one's own; what must come.
-/
import Derived.Test.YthphkcpbglhabaaGreatDoorFsJ
namespace Go.Proofs.YthphkcpbglhabaaGreatDoor
open Sx Go
set_option maxRecDepth 100000
set_option linter.unusedSimpArgs false
set_option linter.unusedVariables false
set_option linter.unnecessarySimpa false
attribute [local simp] stepV condR boundsC appendG appendO copyV srcC guardB isCall opStep Opd.ev put readAt aBin aUn args0 V.celled V.ones V.one V.cells putAt bounds bound1 elemsOf srcOf appendV fillAt fillEl V.pures V.pure unwind evs ARes.ev mkRes V.ren V.renL O.ren eqCells eq1 aEq aMM hasTy hasTyN okTy mmGo Known HLe OLe VsLe.refl VLe.refl VLe.cap Stay VsLe V.frz V.frzL O.frz fr clearV rn KnownR Objs OLeO ObjsE nm back setAll ren_ite take_map_len List.take_of_length_le
attribute [local simp ↓] upd_app tl_cons tl_nil
attribute [local simp] encS_ren encS_ones encS_len encS_take KnownS VLe.refl

/-- a disk that was made since, and objects L that it does not touch -/
def Own (X : List O) (L : List Nat) (d : Nat) (D : Dk) (Y : List O) : Prop := ∃ F, IsD Y d D F ∧ Kept X Y [] ∧ (∀ i ∈ F, X.length ≤ i) ∧ ∀ i ∈ L, i ∉ F ∧ i < Y.length ∧ X.length ≤ i
def StayL (L : List Nat) (Y Z : List O) : Prop := ∀ i ∈ L, Z[i]? = Y[i]?

theorem Own.after {X L d D' F Y Z} (hk : Kept X Y []) (hf : ∀ i ∈ F, X.length ≤ i) (hl : ∀ i ∈ L, i ∉ F ∧ i < Y.length ∧ X.length ≤ i) (h : After Y d F D' Z) : Own X L d D' Z ∧ StayL L Y Z := by
  obtain ⟨F', h1, h2, h3⟩ := h
  have hle := hk.1
  have hle2 := h2.1
  refine ⟨⟨F', h1, ⟨Nat.le_trans hle hle2, fun i hi _ => ?_⟩, fun i hi => ?_, fun i hi => ?_⟩, fun i hi => h2.2 i (hl i hi).2.1 (hl i hi).1⟩
  · rw [h2.2 i (by omega) (fun hm => by have := hf i hm; omega), hk.2 i hi (by simp)]
  · rcases h3 i hi with h | h
    · exact hf i h
    · omega
  · obtain ⟨g1, g2, g3⟩ := hl i hi
    refine ⟨fun hm => ?_, by omega, g3⟩
    rcases h3 i hm with h | h
    · exact g1 h
    · omega
theorem Own.keep {X L d D Y Z} (h : Own X L d D Y) (hk : Kept Y Z []) : Own X L d D Z ∧ StayL L Y Z := by
  obtain ⟨F, h1, h2, h3, h4⟩ := h
  exact Own.after h2 h3 h4 (h1.after hk)
theorem DiskAt.apart {X Y d m l fu off} (h : DiskAt X d m l fu off) {G : List Nat} (hG : ∀ i ∈ foot d m l, i ∉ G) (hk : Kept X Y G) : DiskAt Y d m l fu off := by
  refine ⟨hk.get h.row (hG d (by simp [foot])), hk.get h.map (hG m (by simp [foot])), fun q hq => ?_, h.nd, h.names, h.fuse, h.len, h.ok⟩
  obtain ⟨g1, g2⟩ := h.file q hq
  exact ⟨hk.get g1 (hG _ (foot_p hq).1), hk.get g2 (hG _ (foot_p hq).2)⟩
theorem Own.put {X L d D Y} (h : Own X L d D Y) {i : Nat} (hi : i ∈ L) (o : O) : Own X L d D (Y.set i o) := by
  obtain ⟨F, ⟨m, l, h1, hfs, rfl⟩, h2, h3, h4⟩ := h
  obtain ⟨g1, g2, g3⟩ := h4 i hi
  refine ⟨_, ⟨m, l, h1.apart (G := [i]) (fun j hj hm => g1 (by rw [List.mem_singleton.1 hm] at hj; exact hj)) ((Kept.refl Y [i]).set _ _ (.inl (by simp))), hfs, rfl⟩, h2.set _ _ (.inr g3), h3, fun j hj => ?_⟩
  rw [List.length_set]; exact h4 j hj
theorem Own.more {X L d D Y} (h : Own X L d D Y) (os : List O) (L' : List Nat) (hL : ∀ i ∈ L', Y.length ≤ i ∧ i < (Y ++ os).length) : Own X (L ++ L') d D (Y ++ os) := by
  obtain ⟨F, hD, h2, h3, h4⟩ := h
  have hlt : ∀ i ∈ F, i < Y.length := by
    obtain ⟨m, l, h1, hfs, rfl⟩ := hD
    exact h1.lt
  obtain ⟨⟨F', ⟨m', l', k1, k2, k3⟩, -⟩, -⟩ := Own.keep ⟨F, hD, h2, h3, h4⟩ ((Kept.refl Y []).app os)
  obtain ⟨m, l, h1, hfs, rfl⟩ := hD
  refine ⟨_, ⟨m, l, h1.keep ((Kept.refl Y []).app os), hfs, rfl⟩, h2.app os, h3, fun i hi => ?_⟩
  have := h2.1
  rcases List.mem_append.1 hi with hi | hi
  · obtain ⟨g1, g2, g3⟩ := h4 i hi
    exact ⟨g1, by rw [List.length_append]; omega, g3⟩
  · obtain ⟨g1, g2⟩ := hL i hi
    exact ⟨fun hm => by have := hlt i hm; omega, g2, by omega⟩

theorem new_own (X : List O) : Tri Tryz.prog 8 [] X (fun v Y => ∃ d, v = .ptr d 0 ∧ Own X [] d ⟨[], -1, false⟩ Y) :=
  (new_tri X).mono fun v Y ⟨d, F, h1, h2, h3, h4⟩ => ⟨d, h1, F, h2, h3, h4, fun i hi => by simp at hi⟩
section ops
variable {X : List O} {L : List Nat} {d : Nat} {D : Dk} {Y : List O}
theorem make_own (h : Own X L d D Y) (name : Bs) : Tri Tryz.prog 75 [.ptr d 0, .str name] Y (fun v Z => v = .int .i64 (makeD D name).1 ∧ Own X L d (makeD D name).2 Z ∧ StayL L Y Z) := by
  obtain ⟨F, h1, h2, h3, h4⟩ := h
  exact (make_tri Y h1 name).mono fun v Z ⟨g1, g2⟩ => ⟨g1, Own.after h2 h3 h4 g2⟩
theorem append_own (h : Own X L d D Y) (name s : Bs) (hs : s.length ≤ 70368744177664) : Tri Tryz.prog 130 [.ptr d 0, .str name, .str s] Y (fun v Z => v = .int .i64 (appendD D name s).1 ∧ Own X L d (appendD D name s).2 Z ∧ StayL L Y Z) := by
  obtain ⟨F, h1, h2, h3, h4⟩ := h
  exact (append_tri Y h1 name s hs).mono fun v Z ⟨g1, g2⟩ => ⟨g1, Own.after h2 h3 h4 g2⟩
theorem sync_own (h : Own X L d D Y) (name : Bs) : Tri Tryz.prog 134 [.ptr d 0, .str name] Y (fun v Z => v = .int .i64 (syncD D name).1 ∧ Own X L d (syncD D name).2 Z ∧ StayL L Y Z) := by
  obtain ⟨F, h1, h2, h3, h4⟩ := h
  exact (sync_tri Y h1 name).mono fun v Z ⟨g1, g2⟩ => ⟨g1, Own.after h2 h3 h4 g2⟩
theorem remove_own (h : Own X L d D Y) (name : Bs) : Tri Tryz.prog 71 [.ptr d 0, .str name] Y (fun v Z => v = .int .i64 (removeD D name).1 ∧ Own X L d (removeD D name).2 Z ∧ StayL L Y Z) := by
  obtain ⟨F, h1, h2, h3, h4⟩ := h
  exact (remove_tri Y h1 name).mono fun v Z ⟨g1, g2⟩ => ⟨g1, Own.after h2 h3 h4 g2⟩
theorem fuse_own (h : Own X L d D Y) (n : Int) (hn : n ≤ 9223372036854775807) : Tri Tryz.prog 18 [.ptr d 0, .int .i64 n] Y (fun v Z => v = .int .i64 0 ∧ Own X L d ⟨D.files, if n < -1 then -1 else n, D.off⟩ Z ∧ StayL L Y Z) := by
  obtain ⟨F, h1, h2, h3, h4⟩ := h
  exact (fuse_tri Y h1 n hn).mono fun v Z ⟨g1, g2⟩ => ⟨g1, Own.after h2 h3 h4 g2⟩
theorem read_own (h : Own X L d D Y) (name : Bs) : Tri Tryz.prog 73 [.ptr d 0, .str name] Y (fun v Z => v = .tup [.str (readD D name).1, .int .i64 (readD D name).2] ∧ Own X L d D Z ∧ StayL L Y Z) := by
  obtain ⟨F, h1, h2, h3, h4⟩ := h
  exact (read_tri Y h1 name).mono fun v Z ⟨g1, g2⟩ => ⟨g1, Own.keep ⟨F, h1, h2, h3, h4⟩ g2⟩
theorem sure_own (h : Own X L d D Y) (name : Bs) : Tri Tryz.prog 47 [.ptr d 0, .str name] Y (fun v Z => v = .tup [.int .i64 (sureD D name).1, .int .i64 (sureD D name).2] ∧ Own X L d D Z ∧ StayL L Y Z) := by
  obtain ⟨F, h1, h2, h3, h4⟩ := h
  exact (sure_tri Y h1 name).mono fun v Z ⟨g1, g2⟩ => ⟨g1, Own.keep ⟨F, h1, h2, h3, h4⟩ g2⟩
theorem names_own (h : Own X L d D Y) (hn : NmOk D) : Tri Tryz.prog 45 [.ptr d 0] Y (fun v Z => v = .vs ((namesD D).map encS) 1 ∧ Own X L d D Z ∧ StayL L Y Z) := by
  obtain ⟨F, h1, h2, h3, h4⟩ := h
  exact (names_tri Y h1 hn).mono fun v Z ⟨g1, g2⟩ => ⟨g1, Own.keep ⟨F, h1, h2, h3, h4⟩ g2⟩
theorem off_own (h : Own X L d D Y) : Tri Tryz.prog 17 [.ptr d 0] Y (fun v Z => v = .bool D.off ∧ Z = Y) := by
  obtain ⟨F, h1, h2, h3, h4⟩ := h
  exact off_tri Y h1
theorem crash_own (h : Own X L d D Y) (hn : NmOk D) (keep : List Int) (hkl : keep.length ≤ 1000) :
    Tri Tryz.prog 15 [.ptr d 0, .vs (keep.map encN) 1] Y (fun v Z => v = .int .i64 0 ∧ ∃ nf : Bs → Nat, (keep = [] → ∀ x, nf x = 0) ∧ Own X L d ⟨D.files.map (fun f => cutF (nf f.name) f), -1, false⟩ Z ∧ StayL L Y Z) := by
  obtain ⟨F, h1, h2, h3, h4⟩ := h
  exact (crash_tri Y h1 hn keep hkl).mono fun v Z ⟨g1, nf, g2, g3⟩ => ⟨g1, nf, g2, Own.after h2 h3 h4 g3⟩
def cut0 (f : FileM) : FileM := ⟨f.name, f.bytes.take f.sure, f.sure⟩
theorem crash0_own (h : Own X L d D Y) (hn : NmOk D) : Tri Tryz.prog 15 [.ptr d 0, .nils] Y (fun v Z => v = .int .i64 0 ∧ Own X L d ⟨D.files.map cut0, -1, false⟩ Z ∧ StayL L Y Z) := by
  have hv : VsLe [V.ptr d 0, .nils] [.ptr d 0, .vs (([] : List Int).map encN) 1] := ⟨VLe.refl _, VLe.nils _, trivial⟩
  refine (Tri.args hv (crash_own h hn [] (by simp))).mono fun v Z ⟨g1, nf, g2, g3, g4⟩ => ⟨g1, ?_, g4⟩
  have : (fun f => cutF (nf f.name) f) = cut0 := funext fun f => by simp [cutF, cutLen, cut0, g2 rfl]
  rw [this] at g3
  exact g3
end ops

theorem may_a : mayN [97] = true := mayN_of _ (by decide) (by decide) (by decide)

end Go.Proofs.YthphkcpbglhabaaGreatDoor
