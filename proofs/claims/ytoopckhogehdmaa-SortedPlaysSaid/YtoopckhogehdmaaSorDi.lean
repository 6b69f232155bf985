/-
  Layer 07, part Di: one less (int values).
-/
import Derived.Test.YtoopckhogehdmaaSorCs
namespace Go.Proofs.Ytoopckhogehdmaa
open Sx Go
set_option maxRecDepth 100000
set_option linter.unusedSimpArgs false
set_option linter.unusedVariables false
set_option linter.unnecessarySimpa false
attribute [local simp] boundsC appendG appendO copyV srcC guardB isCall opStep Opd.ev put readAt aBin aUn args0 V.celled V.ones V.one V.cells putAt bounds bound1 elemsOf srcOf appendV fillAt fillEl V.pures V.pure unwind evs ARes.ev mkRes V.ren V.renL O.ren eqCells eq1 aEq aMM hasTy hasTyN okTy mmGo Known HLe OLe VsLe.refl VLe.refl VLe.cap Stay VsLe V.frz V.frzL O.frz fr clearV rn KnownR Objs OLeO ObjsE nm back setAll ren_ite take_map_len List.take_of_length_le
attribute [local simp ↓] upd_app tl_cons tl_nil
attribute [local simp] encItI_ren encItI_ones encItI_len encItI_take

theorem deli_tri (l : List (Bs × Int)) (hl : l.length ≤ 100000) (k : Nat) (hk : k < l.length) : Tri Try.prog 32 [.sl 0 0 l.length 2 none, .int .i64 k, .int .i64 ((k : Int) + 1)] [.arr (l.map encItI) 2]
    (fun v H => v = .sl 0 0 (l.length - 1) 2 none ∧ H = [.arr ((l.take k ++ l.drop (k + 1)).map encItI) 2]) := by
  obtain ⟨G, hG⟩ : ∃ G, G = (l.take k ++ l.drop (k + 1)).map encItI := ⟨_, rfl⟩
  rw [← hG]
  have hGl : G.length = l.length - 1 := by rw [hG]; simp; omega
  obtain ⟨K1, hK1⟩ : ∃ m, m = k + 1 := ⟨_, rfl⟩
  have hcast : ((k : Int) + 1) = (K1 : Int) := by omega
  rw [hcast]
  refine Tri.of_run' Try.func32 rfl c32_ok (by simp [Try.ntmps32]) ?_
  refine Run.cap 0 rfl (by omega) ?_
  intro c hc
  have hk' : (k : Int) < l.length := by omega
  have hkl : k ≤ l.length := by omega
  have hkl' : (k : Int) ≤ l.length := by omega
  have hKl : K1 ≤ l.length := by omega
  have hKl' : (K1 : Int) ≤ l.length := by omega
  have hkK : k ≤ K1 := by omega
  have hkK' : (k : Int) ≤ K1 := by omega
  have hne : ¬ k = K1 := by omega
  have hne' : ¬ (k : Int) = K1 := by omega
  have hkc : k ≤ c := by omega
  have hkc' : (k : Int) ≤ c := by omega
  have hKc : K1 ≤ c := by omega
  have hKc' : (K1 : Int) ≤ c := by omega
  (repeat (first | refine Run.seq ?_ | refine Run.reg ?_ | refine Run.skip ?_ | refine Run.block ?_ | refine Run.endB ?_ | refine Run.opE rfl ?_ | (apply Run.op0 rfl; (· (simp -implicitDefEqProofs [hk', hkl, hkl', hKl, hKl', hkK, hkK', hne, hne', hkc, hkc', hKc, hKc']; exact ⟨rfl, rfl⟩))) | (apply Run.opA rfl; (· (simp -implicitDefEqProofs [hk', hkl, hkl', hKl, hKl', hkK, hkK', hne, hne', hkc, hkc', hKc, hKc']; done)); (· (simp -implicitDefEqProofs [hk', hkl, hkl', hKl, hKl', hkK, hkK', hne, hne', hkc, hkc', hKc, hKc']; exact ⟨rfl, rfl⟩))) | (apply Run.opN rfl; (· (simp -implicitDefEqProofs [hk', hkl, hkl', hKl, hKl', hkK, hkK', hne, hne', hkc, hkc', hKc, hKc']; done))) | (refine Run.condT ?_ ?_; (· (simp -implicitDefEqProofs [hk', hkl, hkl', hKl, hKl', hkK, hkK', hne, hne', hkc, hkc', hKc, hKc']; done))) | (refine Run.condF ?_ ?_; (· (simp -implicitDefEqProofs [hk', hkl, hkl', hKl, hKl', hkK, hkK', hne, hne', hkc, hkc', hKc, hKc']; done))) | refine Run.exit rfl ?_))
  refine Run.drawn prog_mixed ?_
  show RunD _ c32d0 [0, 1, 2, 3, 4, 5, 6, 7] [] _ _ _
  refine RunD.flow [0, 1, 2, 3, 4, 5] (by kernel_rfl) (by decide +kernel) (by decide +kernel) (by decide) trivial ?_; (repeat (first | refine execQ_E rfl ?_ | (apply execQ_0 rfl; (· rfl); (· (simp -implicitDefEqProofs [hkl, hkl', hkc, hkc', hKl, hKl', hKc, hKc']; exact ⟨rfl, rfl⟩))) | (apply execQ_A rfl; (· (simp -implicitDefEqProofs [hkl, hkl', hkc, hkc', hKl, hKl', hKc, hKc']; done)); (· rfl); (· (simp -implicitDefEqProofs [hkl, hkl', hkc, hkc', hKl, hKl', hKc, hKc']; exact ⟨rfl, rfl⟩))) | (apply execQ_N rfl; (· (simp -implicitDefEqProofs [hkl, hkl', hkc, hkc', hKl, hKl', hKc, hKc']; done))))); intro hpo
  refine RunD.alt1 6 (by kernel_rfl) (by kernel_rfl) hpo ?_
  have hsum : k + (l.length - K1) = l.length - 1 := by omega
  have hsum2 : K1 + (l.length - K1) = l.length := by omega
  have hle1 : l.length - 1 ≤ l.length := by omega
  have hle2 : l.length - 1 ≤ c := by omega
  have hnk : ¬ k = l.length := by omega
  have hnc : ¬ c < l.length - 1 := by omega
  have hds : (List.drop K1 (List.map encItI l)).take (l.length - K1) = List.drop K1 (List.map encItI l) := List.take_of_length_le (by simp)
  (first | (apply AStep.o0 rfl; (· (simp -implicitDefEqProofs [hsum, hsum2, hle1, hle2, hnk, hnc, hkl, hds]; exact ⟨rfl, rfl⟩))) | (apply AStep.A rfl; (· (simp -implicitDefEqProofs [hsum, hsum2, hle1, hle2, hnk, hnc, hkl, hds]; done)); (· (simp -implicitDefEqProofs [hsum, hsum2, hle1, hle2, hnk, hnc, hkl, hds]; exact ⟨rfl, rfl⟩))) | (apply AStep.N rfl; (· (simp -implicitDefEqProofs [hsum, hsum2, hle1, hle2, hnk, hnc, hkl, hds]; done))))
  refine RunD.alt1 7 (by kernel_rfl) (by kernel_rfl) (show PendOk _ c32d0 _ _ [] from trivial) ?_
  (first | (apply AStep.o0 rfl; (· (simp -implicitDefEqProofs; exact ⟨rfl, rfl⟩))) | (apply AStep.A rfl; (· (simp -implicitDefEqProofs; done)); (· (simp -implicitDefEqProofs; exact ⟨rfl, rfl⟩))) | (apply AStep.N rfl; (· (simp -implicitDefEqProofs; done))))
  refine RunD.fin (by kernel_rfl) (show PendOk _ c32d0 _ _ [] from trivial) ?_
  obtain ⟨n1, hn1⟩ : ∃ m, m = l.length - 1 := ⟨_, rfl⟩
  rw [← hn1]
  have hnl : n1 ≤ l.length := by omega
  have hnl' : (n1 : Int) ≤ l.length := by omega
  have hlc : l.length ≤ c := hc
  have hlc' : (l.length : Int) ≤ c := by omega
  (repeat (first | refine Run.seq ?_ | refine Run.reg ?_ | refine Run.skip ?_ | refine Run.block ?_ | refine Run.endB ?_ | refine Run.opE rfl ?_ | (apply Run.op0 rfl; (· (simp -implicitDefEqProofs [hnl, hnl', hlc, hlc']; exact ⟨rfl, rfl⟩))) | (apply Run.opA rfl; (· (simp -implicitDefEqProofs [hnl, hnl', hlc, hlc']; done)); (· (simp -implicitDefEqProofs [hnl, hnl', hlc, hlc']; exact ⟨rfl, rfl⟩))) | (apply Run.opN rfl; (· (simp -implicitDefEqProofs [hnl, hnl', hlc, hlc']; done))) | (refine Run.condT ?_ ?_; (· (simp -implicitDefEqProofs [hnl, hnl', hlc, hlc']; done))) | (refine Run.condF ?_ ?_; (· (simp -implicitDefEqProofs [hnl, hnl', hlc, hlc']; done))) | refine Run.exit rfl ?_))
  have hfin : ∀ C : List (List V), C = List.take k (List.map encItI l) ++ (List.drop K1 (List.map encItI l) ++ List.drop n1 (List.map encItI l)) → C.length = l.length ∧ List.take n1 C = G := by
    intro C hC
    have h1 : (List.take k (List.map encItI l) ++ List.drop K1 (List.map encItI l)).length = n1 := by simp; omega
    refine ⟨by rw [hC]; simp; omega, ?_⟩
    rw [hC, ← List.append_assoc, List.take_append_of_le_length (by omega), List.take_of_length_le (by omega), hK1, hG]
    simp [List.map_take, List.map_drop]
  generalize hC : (List.take k (List.map encItI l) ++ (List.drop K1 (List.map encItI l) ++ List.drop n1 (List.map encItI l))) = C
  obtain ⟨hCl, hCf⟩ := hfin C hC.symm
  clear hfin hC
  have hsn : n1 + (l.length - n1) = l.length := by omega
  have hT : ∀ X, List.take n1 (G ++ X) = G := fun X => by rw [List.take_append_of_le_length (by omega), List.take_of_length_le (by omega)]
  clear hG
  (repeat (first | refine Run.seq ?_ | refine Run.reg ?_ | refine Run.skip ?_ | refine Run.block ?_ | refine Run.endB ?_ | refine Run.opE rfl ?_ | (apply Run.op0 rfl; (· (simp -implicitDefEqProofs [hCl, hsn]; exact ⟨rfl, rfl⟩))) | (apply Run.opA rfl; (· (simp -implicitDefEqProofs [hCl, hsn]; done)); (· (simp -implicitDefEqProofs [hCl, hsn]; exact ⟨rfl, rfl⟩))) | (apply Run.opN rfl; (· (simp -implicitDefEqProofs [hCl, hsn]; done))) | (refine Run.condT ?_ ?_; (· (simp -implicitDefEqProofs [hCl, hsn]; done))) | (refine Run.condF ?_ ?_; (· (simp -implicitDefEqProofs [hCl, hsn]; done))) | refine Run.exit rfl ?_))
  refine Run.leS 0 n1 rfl ?_
  refine Run.mv [0] [(6, .sl 0 0 n1 2 none)] [.arr G 2] (by rfl) (by decide) (by simp -implicitDefEqProofs [hCf, hCl, hnl, hT]) (by simp -implicitDefEqProofs [hCf, hCl, hnl, hT]) ?_
  refine Run.retI Try.func32 r32_ok trivial (by simp -implicitDefEqProofs [r32]; rfl) (by simp ) ?_ (by simp -implicitDefEqProofs ) (by simp -implicitDefEqProofs )
  simp

/-- what is left when a key goes -/
theorem dropi_tri (l : List (Bs × Int)) (hl : l.length ≤ 100000) (hr : RiseK l) (key : Bs) : Tri Try.prog 21 [.ptr 0 0, .str key] (mapHi l) (fun r H => r = .bool (hitB l key) ∧ H = mapHi (dropL l key)) := by
  refine Tri.of_run' Try.func21 rfl c21_ok (by simp [Try.ntmps21]) ?_
  unfold mapHi
  (repeat (first | refine Run.seq ?_ | refine Run.reg ?_ | refine Run.skip ?_ | refine Run.block ?_ | refine Run.endB ?_ | refine Run.opE rfl ?_ | (apply Run.op0 rfl; (· (simp -implicitDefEqProofs; exact ⟨rfl, rfl⟩))) | (apply Run.opA rfl; (· (simp -implicitDefEqProofs; done)); (· (simp -implicitDefEqProofs; exact ⟨rfl, rfl⟩))) | (apply Run.opN rfl; (· (simp -implicitDefEqProofs; done))) | (refine Run.condT ?_ ?_; (· (simp -implicitDefEqProofs; done))) | (refine Run.condF ?_ ?_; (· (simp -implicitDefEqProofs; done))) | refine Run.exit rfl ?_))
  refine Run.opF [0, 1] (findi_tri l hl hr key) rfl (by simp -implicitDefEqProofs [mapHi]) rfl (by simp -implicitDefEqProofs [mapHi]) (by decide) (by rfl) (by simp -implicitDefEqProofs [mapHi]) ?_
  rintro v0 Hs' ⟨rfl, rfl⟩
  have hle := lowB_le l key
  cases hh : hitB l key with
  | true =>
    obtain ⟨x, hx, hk⟩ := hitB_some hh
    have hlt := (List.getElem?_eq_some_iff.1 hx).1
    have hw : IntKind.i64.wrap ((lowB l key : Int) + 1) = (lowB l key : Int) + 1 := wrap_small (by omega) (by omega)
    have hp : dropL l key = l.take (lowB l key) ++ l.drop (lowB l key + 1) := by rw [dropL, if_pos hh]
    have hpl : (dropL l key).length = l.length - 1 := by rw [hp]; simp; omega
    (repeat (first | refine Run.seq ?_ | refine Run.reg ?_ | refine Run.skip ?_ | refine Run.block ?_ | refine Run.endB ?_ | refine Run.opE rfl ?_ | (apply Run.op0 rfl; (· (simp -implicitDefEqProofs [hh, mapHi, hw]; exact ⟨rfl, rfl⟩))) | (apply Run.opA rfl; (· (simp -implicitDefEqProofs [hh, mapHi, hw]; done)); (· (simp -implicitDefEqProofs [hh, mapHi, hw]; exact ⟨rfl, rfl⟩))) | (apply Run.opN rfl; (· (simp -implicitDefEqProofs [hh, mapHi, hw]; done))) | (refine Run.condT ?_ ?_; (· (simp -implicitDefEqProofs [hh, mapHi, hw]; done))) | (refine Run.condF ?_ ?_; (· (simp -implicitDefEqProofs [hh, mapHi, hw]; done))) | refine Run.exit rfl ?_))
    refine Run.opF [1] (deli_tri l hl (lowB l key) hlt) rfl (by simp -implicitDefEqProofs) rfl (by simp -implicitDefEqProofs) (by decide) (by rfl) (by simp -implicitDefEqProofs) ?_
    rw [← hp]
    rintro v0 Hs' ⟨rfl, rfl⟩
    (repeat (first | refine Run.seq ?_ | refine Run.reg ?_ | refine Run.skip ?_ | refine Run.block ?_ | refine Run.endB ?_ | refine Run.opE rfl ?_ | (apply Run.op0 rfl; (· (simp -implicitDefEqProofs; exact ⟨rfl, rfl⟩))) | (apply Run.opA rfl; (· (simp -implicitDefEqProofs; done)); (· (simp -implicitDefEqProofs; exact ⟨rfl, rfl⟩))) | (apply Run.opN rfl; (· (simp -implicitDefEqProofs; done))) | (refine Run.condT ?_ ?_; (· (simp -implicitDefEqProofs; done))) | (refine Run.condF ?_ ?_; (· (simp -implicitDefEqProofs; done))) | refine Run.exit rfl ?_))
    refine Run.mv [0, 1] [(4, .bool true)] [.row [.bool true, .sl 1 0 (dropL l key).length 2 none], .arr ((dropL l key).map encItI) 2] (by rfl) (by decide) (by simp -implicitDefEqProofs [hpl]) (by simp -implicitDefEqProofs [hpl]) ?_
    refine Run.retI Try.func21 r21_ok trivial (by simp -implicitDefEqProofs [r21]; rfl) (by simp ) ?_ (by simp -implicitDefEqProofs ) (by simp -implicitDefEqProofs )
    simp [mapHi]
  | false =>
    have hp : dropL l key = l := by rw [dropL, if_neg (by simp [hh])]
    rw [hp]
    (repeat (first | refine Run.seq ?_ | refine Run.reg ?_ | refine Run.skip ?_ | refine Run.block ?_ | refine Run.endB ?_ | refine Run.opE rfl ?_ | (apply Run.op0 rfl; (· (simp -implicitDefEqProofs [hh, mapHi]; exact ⟨rfl, rfl⟩))) | (apply Run.opA rfl; (· (simp -implicitDefEqProofs [hh, mapHi]; done)); (· (simp -implicitDefEqProofs [hh, mapHi]; exact ⟨rfl, rfl⟩))) | (apply Run.opN rfl; (· (simp -implicitDefEqProofs [hh, mapHi]; done))) | (refine Run.condT ?_ ?_; (· (simp -implicitDefEqProofs [hh, mapHi]; done))) | (refine Run.condF ?_ ?_; (· (simp -implicitDefEqProofs [hh, mapHi]; done))) | refine Run.exit rfl ?_))
    refine Run.mv [0, 1] [(4, .bool false)] [.row [.bool true, .sl 1 0 l.length 2 none], .arr (l.map encItI) 2] (by rfl) (by decide) (by simp -implicitDefEqProofs) (by simp -implicitDefEqProofs) ?_
    refine Run.retI Try.func21 r21_ok trivial (by simp -implicitDefEqProofs [r21]; rfl) (by simp ) ?_ (by simp -implicitDefEqProofs ) (by simp -implicitDefEqProofs )
    simp [mapHi]

end Go.Proofs.Ytoopckhogehdmaa
