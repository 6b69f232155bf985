/-
  Layer 14, part Q: what must come, whatever the arguments are.
-/
import Derived.Test.YticecideodkcmaaOnceP
namespace Go.Proofs.Yticecideodkcmaa
open Sx Go
set_option maxRecDepth 100000
set_option linter.unusedSimpArgs false
set_option linter.unusedVariables false
set_option linter.unnecessarySimpa false
attribute [local simp] guardB isCall opStep Opd.ev put readAt aBin aUn args0 V.celled V.ones V.one V.cells putAt bounds bound1 elemsOf srcOf appendV fillAt fillEl V.pures V.pure unwind evs ARes.ev mkRes V.ren V.renL O.ren eqCells eq1 aEq aMM hasTy hasTyN okTy mmGo Known HLe OLe VsLe.refl VLe.refl Stay VsLe V.frz V.frzL O.frz fr clearV rn KnownR Objs OLeO ObjsE nm back setAll ren_ite take_map_len List.take_of_length_le
attribute [local simp ↓] upd_app tl_cons tl_nil
attribute [local simp] encS_ren encS_ones

theorem find_at (l : List Seen) (hll : l.length ≤ 1000000) (c s : Int) (H : List O) : Tri Try.prog 10 [.vs (l.map encS) 7, .int .i64 c, .int .i64 s] H (fun v H' => v = .tup [.agg (encR (findM l c s).1), .int .i64 (findM l c s).2] ∧ H' = H) := (find_tri l hll c s).at rfl rfl H
theorem rFind_at (l : List Seen) (hll : l.length ≤ 1000000) (c s : Int) (H : List O) : Tri Try.prog 11 [.vs (l.map encS) 7, .int .i64 c, .int .i64 s] H (fun v H' => v = .tup [.agg (encR (rfindM l c s).1), .int .i64 (rfindM l c s).2] ∧ H' = H) := (rFind_tri l hll c s).at rfl rfl H
theorem put_at (l : List Seen) (hll : l.length ≤ 1000000) (x : Seen) (H : List O) : Tri Try.prog 12 [.vs (l.map encS) 7, .agg (encS x)] H (fun v H' => v = .tup [.vs ((putM l x).1.map encS) 7, .int .i64 (putM l x).2] ∧ H' = H) := (put_tri l hll x).at rfl rfl H
theorem check_at (l : List Seen) (hll : l.length ≤ 1000000) (H : List O) : Tri Try.prog 16 [.vs (l.map encS) 7] H (fun v H' => v = .int .i64 (errOf (readM l).2) ∧ H' = H) := (check_tri l hll).at rfl rfl H
theorem rcheck_at (l : List Seen) (hll : l.length ≤ 1000000) (H : List O) : Tri Try.prog 17 [.vs (l.map encS) 7] H (fun v H' => v = .int .i64 (errOf (okGo l (-1))) ∧ H' = H) := (rcheck_tri l hll).at rfl rfl H
theorem write_at (x : Seen) (H : List O) : Tri Try.prog 23 [.agg (encS x)] H (fun v H' => v = writeV x ∧ H' = H) := (write_tri x).at rfl rfl H
theorem sameR_at (x y : Seen) (hx : x.pairs.length ≤ 1000000) (H : List O) : Tri Try.prog 14 [.agg (encR x), .agg (encR y)] H (fun v H' => v = .bool (sameR x y) ∧ H' = H) := (sameR_tri x y hx).at rfl rfl H
theorem same_at (a b : List Seen) (hl : a.length ≤ 1000000) (hp : ∀ x ∈ a, x.pairs.length ≤ 1000000) (H : List O) : Tri Try.prog 15 [.vs (a.map encS) 7, .vs (b.map encS) 7] H (fun v H' => v = .bool (decide (a = b)) ∧ H' = H) := (same_tri a b hl hp).at rfl rfl H
theorem light_at (l : List Seen) (H : List O) : Tri Try.prog 8 [.vs (l.map encS) 7] H (fun v H' => v = .bool (lightB l) ∧ H' = H) := (light_tri l).at rfl rfl H
theorem made_at (l : List Seen) (hll : l.length ≤ 1000) (H : List O) : Tri Try.prog 18 [.vs (l.map encS) 7] H (fun v H' => v = .vs ((madeM l []).map encS) 7 ∧ H' = H) := (made_tri l hll).at rfl rfl H
theorem join_at (a b : List Seen) (hla : a.length ≤ 1000000) (hlb : b.length ≤ 1000000) (H : List O) : Tri Try.prog 19 [.vs (a.map encS) 7, .vs (b.map encS) 7] H (fun v H' => v = .tup [.vs ((joinM a b).1.map encS) 7, .int .i64 (joinM a b).2] ∧ H' = H) := (join_tri a b hla hlb).at rfl rfl H

def x5 : Seen := ⟨2, 5, 0, [], true, [], []⟩
theorem put5 : putM [] x5 = ([x5], 0) := by decide +kernel
theorem find5 : findM [x5] 2 5 = (x5, 0) := by decide +kernel
theorem find4 : findM [x5] 2 4 = (zero, 140) := by decide +kernel
theorem write5 : writeV x5 = .tup [.agg [.str [116, 50], .str [5, 0, 1], .bool false], .int .i64 0] := by
  have hm : mayB x5 = true := by decide +kernel
  have e5 : (vputM 5).1 = [5] := by rw [vputM, if_pos ⟨by omega, by omega⟩, show (5 : Int).toNat = 5 from rfl, vput_small (by omega)]; rfl
  have e0 : (vputM 0).1 = [0] := by rw [vputM, if_pos ⟨by omega, by omega⟩, show (0 : Int).toNat = 0 from rfl, vput_small (by omega)]; rfl
  have e1 : (vputM 1).1 = [1] := by rw [vputM, if_pos ⟨by omega, by omega⟩, show (1 : Int).toNat = 1 from rfl, vput_small (by omega)]; rfl
  simp only [writeV, writeM, hm, if_true, valS, numsS, keyS, x5, hasI, List.flatMap_cons, List.flatMap_nil, e5, e0, e1]; rfl

theorem awake_tri : Tri Try.prog 9 [] [] (fun v H => v = .bool true ∧ H = []) := by
  refine Tri.of_run' Try.func9 rfl c9_ok (by simp [Try.ntmps9]) ?_
  (repeat (first | refine Run.seq ?_ | refine Run.reg ?_ | refine Run.skip ?_ | refine Run.block ?_ | refine Run.endB ?_ | refine Run.opE rfl ?_ | (apply Run.op0 rfl; (· (simp -implicitDefEqProofs; exact ⟨rfl, rfl⟩))) | (apply Run.opA rfl; (· (simp -implicitDefEqProofs; done)); (· (simp -implicitDefEqProofs; exact ⟨rfl, rfl⟩))) | (apply Run.opN rfl; (· (simp -implicitDefEqProofs; done))) | (refine Run.condT ?_ ?_; (· (simp -implicitDefEqProofs; done))) | (refine Run.condF ?_ ?_; (· (simp -implicitDefEqProofs; done))) | refine Run.exit rfl ?_))
  refine Run.opC rfl rfl rfl (Tri.args (as' := [.vs (([] : List Seen).map encS) 7, .agg (encS x5)]) ⟨by simpa using VLe.nils 7, VLe.agg ⟨VLe.refl _, VLe.refl _, VLe.refl _, VLe.refl _, VLe.refl _, by simpa [x5] using VLe.nils 2, VLe.refl _, trivial⟩, trivial⟩ (put_at [] (by simp) x5 _)) ?_
  rintro v h' ⟨rfl, rfl⟩
  rw [put5]
  (repeat (first | refine Run.seq ?_ | refine Run.reg ?_ | refine Run.skip ?_ | refine Run.block ?_ | refine Run.endB ?_ | refine Run.opE rfl ?_ | (apply Run.op0 rfl; (· (simp -implicitDefEqProofs; exact ⟨rfl, rfl⟩))) | (apply Run.opA rfl; (· (simp -implicitDefEqProofs; done)); (· (simp -implicitDefEqProofs; exact ⟨rfl, rfl⟩))) | (apply Run.opN rfl; (· (simp -implicitDefEqProofs; done))) | (refine Run.condT ?_ ?_; (· (simp -implicitDefEqProofs; done))) | (refine Run.condF ?_ ?_; (· (simp -implicitDefEqProofs; done))) | refine Run.exit rfl ?_))
  refine Run.opC rfl rfl rfl (find_at [x5] (by simp) 2 5 _) ?_
  rintro v h' ⟨rfl, rfl⟩
  rw [find5]
  (repeat (first | refine Run.seq ?_ | refine Run.reg ?_ | refine Run.skip ?_ | refine Run.block ?_ | refine Run.endB ?_ | refine Run.opE rfl ?_ | (apply Run.op0 rfl; (· (simp -implicitDefEqProofs [encR, x5]; exact ⟨rfl, rfl⟩))) | (apply Run.opA rfl; (· (simp -implicitDefEqProofs [encR, x5]; done)); (· (simp -implicitDefEqProofs [encR, x5]; exact ⟨rfl, rfl⟩))) | (apply Run.opN rfl; (· (simp -implicitDefEqProofs [encR, x5]; done))) | (refine Run.condT ?_ ?_; (· (simp -implicitDefEqProofs [encR, x5]; done))) | (refine Run.condF ?_ ?_; (· (simp -implicitDefEqProofs [encR, x5]; done))) | refine Run.exit rfl ?_))
  refine Run.opC rfl rfl rfl (find_at [x5] (by simp) 2 4 _) ?_
  rintro v h' ⟨rfl, rfl⟩
  rw [find4]
  (repeat (first | refine Run.seq ?_ | refine Run.reg ?_ | refine Run.skip ?_ | refine Run.block ?_ | refine Run.endB ?_ | refine Run.opE rfl ?_ | (apply Run.op0 rfl; (· (simp -implicitDefEqProofs [encR, x5, zero, encS]; exact ⟨rfl, rfl⟩))) | (apply Run.opA rfl; (· (simp -implicitDefEqProofs [encR, x5, zero, encS]; done)); (· (simp -implicitDefEqProofs [encR, x5, zero, encS]; exact ⟨rfl, rfl⟩))) | (apply Run.opN rfl; (· (simp -implicitDefEqProofs [encR, x5, zero, encS]; done))) | (refine Run.condT ?_ ?_; (· (simp -implicitDefEqProofs [encR, x5, zero, encS]; done))) | (refine Run.condF ?_ ?_; (· (simp -implicitDefEqProofs [encR, x5, zero, encS]; done))) | refine Run.exit rfl ?_))
  refine Run.opC rfl rfl rfl (write_at x5 _) ?_
  rintro v h' ⟨rfl, rfl⟩
  rw [write5]
  (repeat (first | refine Run.seq ?_ | refine Run.reg ?_ | refine Run.skip ?_ | refine Run.block ?_ | refine Run.endB ?_ | refine Run.opE rfl ?_ | (apply Run.op0 rfl; (· (simp -implicitDefEqProofs [encR, x5]; exact ⟨rfl, rfl⟩))) | (apply Run.opA rfl; (· (simp -implicitDefEqProofs [encR, x5]; done)); (· (simp -implicitDefEqProofs [encR, x5]; exact ⟨rfl, rfl⟩))) | (apply Run.opN rfl; (· (simp -implicitDefEqProofs [encR, x5]; done))) | (refine Run.condT ?_ ?_; (· (simp -implicitDefEqProofs [encR, x5]; done))) | (refine Run.condF ?_ ?_; (· (simp -implicitDefEqProofs [encR, x5]; done))) | refine Run.exit rfl ?_))
  refine Run.mv [] [(0, .bool true)] [] (by rfl) (by decide) (by simp -implicitDefEqProofs) (by simp -implicitDefEqProofs) ?_
  refine Run.retI Try.func9 r9_ok trivial (by simp -implicitDefEqProofs [r9]; rfl) (by simp ) ?_ (by simp -implicitDefEqProofs ) (by simp -implicitDefEqProofs )
  simp
theorem awake_at (H : List O) : Tri Try.prog 9 [] H (fun v H' => v = .bool true ∧ H' = H) := awake_tri.at rfl rfl H

end Go.Proofs.Yticecideodkcmaa
