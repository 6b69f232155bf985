/-
  Layer 06, part C: the texts of all frames that bytes begin with.
-/
import Derived.Test.YthphkcpbglhabaaGreatDoorWalB
namespace Go.Proofs.YthphkcpbglhabaaGreatDoor
open Sx Go
set_option maxRecDepth 100000
set_option linter.unusedSimpArgs false
set_option linter.unusedVariables false
set_option linter.unnecessarySimpa false
attribute [local simp] stepV condR boundsC appendG appendO copyV srcC guardB isCall opStep Opd.ev put readAt aBin aUn args0 V.celled V.ones V.one V.cells putAt bounds bound1 elemsOf srcOf appendV fillAt fillEl V.pures V.pure unwind evs ARes.ev mkRes V.ren V.renL O.ren eqCells eq1 aEq aMM hasTy hasTyN okTy mmGo Known HLe OLe VsLe.refl VLe.refl VLe.cap Stay VsLe V.frz V.frzL O.frz fr clearV rn KnownR Objs OLeO ObjsE nm back setAll ren_ite take_map_len List.take_of_length_le
attribute [local simp ↓] upd_app tl_cons tl_nil

attribute [local simp] encS_ren encS_ones encS_len encS_take KnownS

theorem takeF_pos {l t : Bs} {n : Nat} (h : takeF l = some (t, n)) : 4 ≤ n ∧ n ≤ l.length := by
  unfold takeF at h
  split at h
  · rename_i hc
    cases h
    exact ⟨by omega, hc.2.1⟩
  · cases h
/-- the texts of all frames that bytes begin with, and how many bytes these have -/
def allGo : Nat → Bs → List Bs × Nat
  | 0, _ => ([], 0)
  | f + 1, l => match takeF l with
    | none => ([], 0)
    | some (t, n) => (t :: (allGo f (l.drop n)).1, n + (allGo f (l.drop n)).2)
def allF (l : Bs) : List Bs × Nat := allGo (l.length + 1) l
theorem allGo_fuel : ∀ (f g : Nat) (l : Bs), l.length < f → l.length < g → allGo f l = allGo g l
  | f + 1, g + 1, l, hf, hg => by
    unfold allGo
    cases h : takeF l with
    | none => rfl
    | some p =>
      obtain ⟨t, n⟩ := p
      obtain ⟨h1, h2⟩ := takeF_pos h
      simp only
      rw [allGo_fuel f g (l.drop n) (by rw [List.length_drop]; omega) (by rw [List.length_drop]; omega)]
theorem allF_none {l : Bs} (h : takeF l = none) : allF l = ([], 0) := by simp [allF, allGo, h]
theorem allF_some {l t : Bs} {n : Nat} (h : takeF l = some (t, n)) : allF l = (t :: (allF (l.drop n)).1, n + (allF (l.drop n)).2) := by
  obtain ⟨h1, h2⟩ := takeF_pos h
  have e : allF l = (t :: (allGo l.length (l.drop n)).1, n + (allGo l.length (l.drop n)).2) := by simp [allF, allGo, h]
  have e2 : allGo l.length (l.drop n) = allF (l.drop n) := allGo_fuel _ _ _ (by rw [List.length_drop]; omega) (by omega)
  rw [e, e2]

theorem tell_tri (ts : List Bs) (t : Bs) (hl : ts.length ≤ 4000000000) : Tri Tryz.prog 127 [.str t, .ptr 0 0] [.row [.sl 1 0 ts.length 1 none], .arr (ts.map encS) 1] (fun v H => H = [.row [.sl 3 0 (ts.length + 1) 1 none], .gone, .arr [encS t] 1, .arr ((ts ++ [t]).map encS) 1]) := by
  refine Tri.of_run' Tryz.func127 rfl c127_ok (by simp [Tryz.ntmps127]) ?_
  have hb1 : (ts.length + 1) * 16 ≤ 70368744177664 := by omega
  (repeat (first | refine Run.adm rfl ?_ | refine Run.seq ?_ | ((first | apply Run.opS rfl | apply Run.condS); (· (simp -implicitDefEqProofs [encS, hb1]; first | exact ⟨rfl, rfl⟩ | exact rfl)))))
  refine Run.retS Tryz.func127 r127_ok trivial (by simp [r127]; rfl) ?_
  simp [encS]

theorem each_tri (s : Bs) (hl : s.length ≤ 4000000000) : Tri Tryz.prog 126 [.str s, .fn 127 [.ptr 0 0]] [.row [.nils]] (fun v H => v = .int .i64 (allF s).2 ∧ H = [.row [.vs ((allF s).1.map encS) 1]]) := by
  refine Tri.of_run' Tryz.func126 rfl c126_ok (by simp [Tryz.ntmps126]) ?_
  (repeat (first | refine Run.adm rfl ?_ | refine Run.seq ?_ | ((first | apply Run.opS rfl | apply Run.condS); (· (simp -implicitDefEqProofs; first | exact ⟨rfl, rfl⟩ | exact rfl)))))
  refine Run.nilC 0 0 1 9 rfl rfl ?_
  refine Run.loopC [0, 1] (fun (x : Nat × List Bs) => ([(0, .str s), (1, .fn 127 [.ptr 0 0]), (5, .int .i64 x.1)], [.row [.sl 1 0 x.2.length 1 none], .arr (x.2.map encS) 1]))
    (fun x => x.1 ≤ s.length ∧ x.2.length ≤ x.1 ∧ allF s = (x.2 ++ (allF (s.drop x.1)).1, x.1 + (allF (s.drop x.1)).2)) (fun x => s.length - x.1) (0, []) (by simp) (by rfl) (by decide) (by simp) (by simp) ?_
  rintro ⟨at0, ts⟩ ⟨hi, hlen, hall⟩ ih
  simp only at hi hlen hall ih ⊢
  have hat' : (at0 : Int) ≤ s.length := by omega
  have hdl : (s.drop at0).length = s.length - at0 := List.length_drop
  (repeat (first | refine Run.adm rfl ?_ | refine Run.seq ?_ | ((first | apply Run.opS rfl | apply Run.condS); (· (simp -implicitDefEqProofs [hi, hat']; first | exact ⟨rfl, rfl⟩ | exact rfl)))))
  refine Run.opC rfl rfl rfl (ftake_at (s.drop at0) (by omega) _) ?_
  rintro v h' ⟨rfl, rfl⟩
  cases hc : takeF (s.drop at0) with
  | none =>
    have hv : takeFV (s.drop at0) = .tup [.str [], .int .i64 0, .int .i64 30] := by simp [takeFV, hc]
    rw [hv]
    (repeat (first | refine Run.adm rfl ?_ | refine Run.seq ?_ | ((first | apply Run.opS rfl | apply Run.condS); (· (simp -implicitDefEqProofs; first | exact ⟨rfl, rfl⟩ | exact rfl)))))
    have htk : (ts.map encS).take ts.length = ts.map encS := List.take_of_length_le (by simp)
    refine Run.freeze 1 rfl ?_
    rw [allF_none hc, List.append_nil, Nat.add_zero] at hall
    refine Run.mv [0] [(4, .int .i64 at0)] [.row [.vs (ts.map encS) 1]] (by rfl) (by decide) (by simp -implicitDefEqProofs [htk]) (by simp -implicitDefEqProofs [htk]) ?_
    refine Run.retI Tryz.func126 r126_ok trivial (by simp -implicitDefEqProofs [r126]; rfl) (by simp ) ?_ (by simp -implicitDefEqProofs ) (by simp -implicitDefEqProofs )
    simp [hall]
  | some p =>
    obtain ⟨t, n⟩ := p
    have hv : takeFV (s.drop at0) = .tup [.str t, .int .i64 n, .int .i64 0] := by simp [takeFV, hc]
    obtain ⟨h4, hn⟩ := takeF_pos hc
    rw [hv]
    (repeat (first | refine Run.adm rfl ?_ | refine Run.seq ?_ | ((first | apply Run.opS rfl | apply Run.condS); (· (simp -implicitDefEqProofs; first | exact ⟨rfl, rfl⟩ | exact rfl)))))
    refine Run.opC rfl rfl rfl (tell_tri ts t (by omega)) ?_
    rintro v h' rfl
    have hw := wrap_small (n := (at0 : Int) + n) (by omega) (by omega)
    (repeat (first | refine Run.adm rfl ?_ | refine Run.seq ?_ | ((first | apply Run.opS rfl | apply Run.condS); (· (simp -implicitDefEqProofs [hw]; first | exact ⟨rfl, rfl⟩ | exact rfl)))))
    have hdd : (s.drop at0).drop n = s.drop (at0 + n) := by rw [List.drop_drop]
    refine Run.mv [0, 3] _ _ (by rfl) (by decide) (by simp) (by simp) (ih (at0 + n, ts ++ [t]) ⟨?_, ?_, ?_⟩ ?_)
    · simp only; omega
    · simp only [List.length_append, List.length_cons, List.length_nil]; omega
    · rw [hall, allF_some hc, hdd]
      simp only [List.append_assoc, List.cons_append, List.nil_append, Nat.add_assoc]
    · simp only; omega
theorem all_tri (s : Bs) (hl : s.length ≤ 4000000000) : Tri Tryz.prog 74 [.str s] [] (fun v H => v = .tup [.vs ((allF s).1.map encS) 1, .int .i64 (allF s).2] ∧ H = []) := by
  refine Tri.of_run' Tryz.func74 rfl c74_ok (by simp [Tryz.ntmps74]) ?_
  (repeat (first | refine Run.adm rfl ?_ | refine Run.seq ?_ | ((first | apply Run.opS rfl | apply Run.condS); (· (simp -implicitDefEqProofs; first | exact ⟨rfl, rfl⟩ | exact rfl)))))
  refine Run.opC rfl rfl rfl (each_tri s hl) ?_
  rintro v h' ⟨rfl, rfl⟩
  (repeat (first | refine Run.adm rfl ?_ | refine Run.seq ?_ | ((first | apply Run.opS rfl | apply Run.condS); (· (simp -implicitDefEqProofs; first | exact ⟨rfl, rfl⟩ | exact rfl)))))
  refine Run.mv [] [(2, .vs ((allF s).1.map encS) 1), (3, .int .i64 (allF s).2)] [] (by rfl) (by decide) (by simp -implicitDefEqProofs) (by simp -implicitDefEqProofs) ?_
  refine Run.retI Tryz.func74 r74_ok trivial (by simp -implicitDefEqProofs [r74]; rfl) (by simp ) ?_ (by simp -implicitDefEqProofs ) (by simp -implicitDefEqProofs )
  simp
theorem all_at (s : Bs) (hl : s.length ≤ 4000000000) (H : List O) : Tri Tryz.prog 74 [.str s] H (fun v H' => v = .tup [.vs ((allF s).1.map encS) 1, .int .i64 (allF s).2] ∧ H' = H) := (all_tri s hl).at rfl rfl H

end Go.Proofs.YthphkcpbglhabaaGreatDoor
