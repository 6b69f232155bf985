/-
  Layer 12, part E: an edit as text: the document.
-/
import Derived.Test.YtpipgcmiaccdkaaManD
namespace Go.Proofs.Ytpipgcmiaccdkaa
open Sx Go
set_option maxRecDepth 100000
set_option linter.unusedSimpArgs false
set_option linter.unusedVariables false
set_option linter.unnecessarySimpa false
attribute [local simp] stepV condR boundsC appendG appendO copyV srcC guardB isCall opStep Opd.ev put readAt aBin aUn args0 V.celled V.ones V.one V.cells putAt bounds bound1 elemsOf srcOf appendV fillAt fillEl V.pures V.pure unwind evs ARes.ev mkRes V.ren V.renL O.ren eqCells eq1 aEq aMM hasTy hasTyN okTy mmGo Known HLe OLe VsLe.refl VLe.refl VLe.cap Stay VsLe V.frz V.frzL O.frz fr clearV rn KnownR Objs OLeO ObjsE nm back setAll ren_ite take_map_len List.take_of_length_le
attribute [local simp ↓] upd_app tl_cons tl_nil
attribute [local simp] encT_ren encT_ones encT_len encT_take encN_ren encN_ones encN_len encN_take
attribute [local simp] encE_ren encE_len encE_take encZ_ren encZ_len encZ_take

theorem rput_tri (e : Ed) : Tri Try.prog 12 [.agg (encE e)] [] (fun v H => v = .tup [.str (putM e).1, .int .i64 (putM e).2] ∧ H = []) := by
  refine Tri.of_run' Try.func12 rfl c12_ok (by simp [Try.ntmps12]) ?_
  have hck := fun H => rmay_at e H
  simp only [encE] at hck
  (repeat (first | refine Run.adm rfl ?_ | refine Run.seq ?_ | (apply Run.opS rfl; (· (simp -implicitDefEqProofs [encE]; exact ⟨rfl, rfl⟩))) | (apply Run.condS; (· (simp -implicitDefEqProofs [encE]; exact rfl)))))
  refine Run.opC rfl rfl rfl (hck _) ?_
  rintro v h' ⟨rfl, rfl⟩
  cases hm : mayE e with
  | false =>
    (repeat (first | refine Run.adm rfl ?_ | refine Run.seq ?_ | (apply Run.opS rfl; (· (simp -implicitDefEqProofs; exact ⟨rfl, rfl⟩))) | (apply Run.condS; (· (simp -implicitDefEqProofs; exact rfl)))))
    refine Run.mv [] [(2, .str []), (3, .int .i64 1)] [] (by rfl) (by decide) (by simp -implicitDefEqProofs) (by simp -implicitDefEqProofs) ?_
    refine Run.ret0 rfl Try.func12 r12_ok trivial (by simp [r12]; rfl) ?_ (by simp)
    simp [putM, hm]
  | true =>
  obtain ⟨m1, m2, m3, m4, m5, m6⟩ := mayE_spec hm
  (repeat (first | refine Run.adm rfl ?_ | refine Run.seq ?_ | (apply Run.opS rfl; (· (simp -implicitDefEqProofs [encE]; exact ⟨rfl, rfl⟩))) | (apply Run.condS; (· (simp -implicitDefEqProofs [encE]; exact rfl)))))
  refine Run.opC rfl rfl rfl (num_at e.add.length _) ?_
  rintro v h' ⟨rfl, rfl⟩
  (repeat (first | refine Run.adm rfl ?_ | refine Run.seq ?_ | (apply Run.opS rfl; (· (simp -implicitDefEqProofs; exact ⟨rfl, rfl⟩))) | (apply Run.condS; (· (simp -implicitDefEqProofs; exact rfl)))))
  have hb0 := nb_len e.add.length
  refine Run.loopC [0] (fun (i : Nat) => ([(1, .ptr 0 0), (4, .str (nb e.add.length ++ (e.add.take i).flatMap tabBs)), (5, .int .i64 i)], [.row (encE e)])) (fun i => i ≤ e.add.length) (fun i => e.add.length - i) 0 (by simp) (by rfl) (by decide) (by simp [nb]) (by simp [encE]) ?_
  intro i hi ih
  have hli := tabsBs_len (l := e.add.take i) fun x hx => m3 x (List.mem_of_mem_take hx)
  have hlt2 : (e.add.take i).length ≤ 128 := by rw [List.length_take]; omega
  obtain ⟨l, hlD⟩ : ∃ l, l = nb e.add.length ++ (e.add.take i).flatMap tabBs := ⟨_, rfl⟩
  have hll : l.length ≤ 22000 := by rw [hlD, List.length_append]; omega
  rw [← hlD]
  by_cases hlt : i < e.add.length
  · obtain ⟨t, ht, hti, -, htm⟩ := getL hlt
    obtain ⟨-, -, ⟨-, b1⟩, ⟨-, b2⟩, -⟩ := tabB_spec (m3 t htm)
    have hlt' : (i : Int) < e.add.length := by omega
    have hw := wrap_small (n := (i : Int) + 1) (by omega) (by omega)
    have hsn := tabs_snoc ht
    have q1 := nb_len t.id; have q2 := nb_len t.level
    have q3 := textM_len (s := t.lo) (by omega); have q4 := textM_len (s := t.hi) (by omega)
    have hn1 := fun H => num_at t.id H
    have hn2 := fun H => num_at t.level H
    have hn3 := fun H => text_at t.lo (by omega) H
    have hn4 := fun H => text_at t.hi (by omega) H
    change ∀ H, Tri Try.prog _ _ H (fun v H' => v = .str (nb t.id) ∧ H' = H) at hn1
    change ∀ H, Tri Try.prog _ _ H (fun v H' => v = .str (nb t.level) ∧ H' = H) at hn2
    have htb : l ++ tabBs t = l ++ nb t.id ++ nb t.level ++ (textM t.lo).1 ++ (textM t.hi).1 := by simp [tabBs]
    have hnx : nb e.add.length ++ (e.add.take (i + 1)).flatMap tabBs = l ++ tabBs t := by rw [hlD, hsn]; simp
    generalize nb t.id = w1 at *
    generalize nb t.level = w2 at *
    generalize (textM t.lo).1 = w3 at *
    generalize (textM t.hi).1 = w4 at *
    have c1 : l.length + w1.length ≤ 4611686018427387904 := by omega
    have c2 : l.length + w1.length + w2.length ≤ 4611686018427387904 := by omega
    have c3 : l.length + w1.length + w2.length + w3.length ≤ 4611686018427387904 := by omega
    have c4 : l.length + w1.length + w2.length + w3.length + w4.length ≤ 4611686018427387904 := by omega
    have d2 : l.length + (w1.length + w2.length) ≤ 4611686018427387904 := by omega
    have d3 : l.length + (w1.length + (w2.length + w3.length)) ≤ 4611686018427387904 := by omega
    have d4 : l.length + (w1.length + (w2.length + (w3.length + w4.length))) ≤ 4611686018427387904 := by omega
    (repeat (first | refine Run.adm rfl ?_ | refine Run.seq ?_ | (apply Run.opS rfl; (· (simp -implicitDefEqProofs [encE, hlt, hlt']; exact ⟨rfl, rfl⟩))) | (apply Run.condS; (· (simp -implicitDefEqProofs [encE, hlt, hlt']; exact rfl)))))
    have e3 : l.length + (w1.length + w2.length) + w3.length ≤ 4611686018427387904 := by omega
    have e4 : l.length + (w1.length + (w2.length + w3.length)) + w4.length ≤ 4611686018427387904 := by omega
    refine Run.drawn prog_mixed ?_
    show RunD _ c12d0 [0, 1, 2, 3, 4, 5, 6, 7, 8, 9, 10, 11, 12, 13, 14, 15, 16, 17, 18, 19, 20, 21, 22, 23, 24, 25, 26, 27, 28, 29, 30, 31, 32, 33] [] _ _ _
    refine RunD.flow [0, 1, 2, 3, 4, 5, 6, 7, 8, 9, 10, 11, 12, 13, 14, 15, 16, 17, 18, 19, 20, 21, 22, 23, 24, 25, 26, 27, 28, 29, 30, 31, 32] (by kernel_rfl) (by decide +kernel) (by decide +kernel) (by decide) trivial ?_
    (repeat (first | refine execQ_E rfl ?_ | (apply execQ_S rfl; (· (simp -implicitDefEqProofs [hlt, hlt', ht, hti, encT]; exact ⟨rfl, rfl⟩)))))
    refine execQ_C rfl rfl rfl (hn1 _) ?_
    (repeat (first | refine execQ_E rfl ?_ | (apply execQ_S rfl; (· (simp -implicitDefEqProofs [hlt, hlt', ht, hti, encT, c1]; exact ⟨rfl, rfl⟩)))))
    refine execQ_C rfl rfl rfl (hn2 _) ?_
    (repeat (first | refine execQ_E rfl ?_ | (apply execQ_S rfl; (· (simp -implicitDefEqProofs [hlt, hlt', ht, hti, encT, c1, c2, d2]; exact ⟨rfl, rfl⟩)))))
    refine execQ_C rfl rfl rfl (hn3 _) ?_
    (repeat (first | refine execQ_E rfl ?_ | (apply execQ_S rfl; (· (simp -implicitDefEqProofs [hlt, hlt', ht, hti, encT, c1, c2, c3, d2, d3, e3]; exact ⟨rfl, rfl⟩)))))
    refine execQ_C rfl rfl rfl (hn4 _) ?_
    (repeat (first | refine execQ_E rfl ?_ | (apply execQ_S rfl; (· (simp -implicitDefEqProofs [hlt, hlt', ht, hti, encT, c1, c2, c3, c4, d2, d3, d4, e3, e4]; exact ⟨rfl, rfl⟩)))))
    intro hpo
    refine RunD.alt1 33 (by kernel_rfl) (by kernel_rfl) hpo ?_
    (apply AStep.S rfl; (· (simp -implicitDefEqProofs; exact ⟨rfl, rfl⟩)))
    refine RunD.fin (by kernel_rfl) (by trivial) ?_
    refine Run.mv [0] [(1, .ptr 0 0), (4, .str (l ++ tabBs t)), (5, .int .i64 i)] [.row (encE e)] (by rfl) (by decide) (by simp -implicitDefEqProofs [encE, htb]) (by simp -implicitDefEqProofs [encE, htb]) ?_
    (repeat (first | refine Run.adm rfl ?_ | refine Run.seq ?_ | (apply Run.opS rfl; (· (simp -implicitDefEqProofs; exact ⟨rfl, rfl⟩))) | (apply Run.condS; (· (simp -implicitDefEqProofs; exact rfl)))))
    refine Run.mv [0] _ _ (by rfl) (by decide) (by simp -implicitDefEqProofs [hw, hnx]) (by simp -implicitDefEqProofs [hw, hnx]) (ih (i + 1) ?_ ?_)
    · omega
    · omega
  obtain rfl : i = e.add.length := by omega
  rw [List.take_length] at hlD
  clear ih
  have hlt' : ¬ (e.add.length : Int) < e.add.length := by omega
  have hb1 := nb_len e.drop.length
  have c0 : l.length + (nb e.drop.length).length ≤ 4611686018427387904 := by omega
  have hn0 := fun H => num_at e.drop.length H
  change ∀ H, Tri Try.prog _ _ H (fun v H' => v = .str (nb e.drop.length) ∧ H' = H) at hn0
  (repeat (first | refine Run.adm rfl ?_ | refine Run.seq ?_ | (apply Run.opS rfl; (· (simp -implicitDefEqProofs [encE]; exact ⟨rfl, rfl⟩))) | (apply Run.condS; (· (simp -implicitDefEqProofs [encE]; exact rfl)))))
  refine Run.opC rfl rfl rfl (hn0 _) ?_
  rintro v h' ⟨rfl, rfl⟩
  (repeat (first | refine Run.adm rfl ?_ | refine Run.seq ?_ | (apply Run.opS rfl; (· (simp -implicitDefEqProofs [c0]; exact ⟨rfl, rfl⟩))) | (apply Run.condS; (· (simp -implicitDefEqProofs [c0]; exact rfl)))))
  refine Run.loopC [0] (fun (i : Nat) => ([(1, .ptr 0 0), (4, .str (l ++ nb e.drop.length ++ nbs (e.drop.take i))), (6, .int .i64 i)], [.row (encE e)])) (fun i => i ≤ e.drop.length) (fun i => e.drop.length - i) 0 (by simp) (by rfl) (by decide) (by simp [nbs_nil]) (by simp [encE]) ?_
  intro i hi ih
  have hli := nbs_len (e.drop.take i)
  have hlt2 : (e.drop.take i).length ≤ 128 := by rw [List.length_take]; omega
  obtain ⟨l2, hl2D⟩ : ∃ l2, l2 = l ++ nb e.drop.length ++ nbs (e.drop.take i) := ⟨_, rfl⟩
  have hll2 : l2.length ≤ 24000 := by rw [hl2D, List.length_append, List.length_append]; omega
  rw [← hl2D]
  by_cases hlt : i < e.drop.length
  · obtain ⟨n, ht, hti, -, htm⟩ := getL hlt
    have hlt' : (i : Int) < e.drop.length := by omega
    have hw := wrap_small (n := (i : Int) + 1) (by omega) (by omega)
    have hsn := nbs_snoc ht
    have q1 := nb_len n
    have hn1 := fun H => num_at n H
    change ∀ H, Tri Try.prog _ _ H (fun v H' => v = .str (nb n) ∧ H' = H) at hn1
    have hnx : l ++ nb e.drop.length ++ nbs (e.drop.take (i + 1)) = l2 ++ nb n := by rw [hl2D, hsn]; simp
    have c1 : l2.length + (nb n).length ≤ 4611686018427387904 := by omega
    (repeat (first | refine Run.adm rfl ?_ | refine Run.seq ?_ | (apply Run.opS rfl; (· (simp -implicitDefEqProofs [encE, hlt, hlt', ht, hti, encN]; exact ⟨rfl, rfl⟩))) | (apply Run.condS; (· (simp -implicitDefEqProofs [encE, hlt, hlt', ht, hti, encN]; exact rfl)))))
    refine Run.opC rfl rfl rfl (hn1 _) ?_
    rintro v h' ⟨rfl, rfl⟩
    (repeat (first | refine Run.adm rfl ?_ | refine Run.seq ?_ | (apply Run.opS rfl; (· (simp -implicitDefEqProofs [c1]; exact ⟨rfl, rfl⟩))) | (apply Run.condS; (· (simp -implicitDefEqProofs [c1]; exact rfl)))))
    have hnx' : V.str (l ++ nb e.drop.length ++ nbs (e.drop.take (i + 1))) = V.str (l2 ++ nb n) := by rw [hnx]
    refine Run.mv [0] ([(1, .ptr 0 0), (4, .str (l2 ++ nb n)), (6, .int .i64 (i + 1 : Nat))]) [.row (encE e)] (by rfl) (by decide) (by simp [hw]) (by simp [encE]) ?_
    rw [← hnx]
    exact ih (i + 1) (by omega) (by omega)
  obtain rfl : i = e.drop.length := by omega
  rw [List.take_length] at hl2D
  clear ih
  have q1 := nb_len e.log; have q2 := nb_len e.next
  have hn1 := fun H => num_at e.log H
  have hn2 := fun H => num_at e.next H
  change ∀ H, Tri Try.prog _ _ H (fun v H' => v = .str (nb e.log) ∧ H' = H) at hn1
  change ∀ H, Tri Try.prog _ _ H (fun v H' => v = .str (nb e.next) ∧ H' = H) at hn2
  have c1 : l2.length + (nb e.log).length ≤ 4611686018427387904 := by omega
  have c2 : l2.length + (nb e.log).length + (nb e.next).length ≤ 4611686018427387904 := by omega
  have d2 : l2.length + ((nb e.log).length + (nb e.next).length) ≤ 4611686018427387904 := by omega
  have hfin : l2 ++ nb e.log ++ nb e.next = bytesE e := by rw [hl2D, hlD]; simp [bytesE]
  generalize nb e.log = w1 at *
  generalize nb e.next = w2 at *
  (repeat (first | refine Run.adm rfl ?_ | refine Run.seq ?_ | (apply Run.opS rfl; (· (simp -implicitDefEqProofs [encE]; exact ⟨rfl, rfl⟩))) | (apply Run.condS; (· (simp -implicitDefEqProofs [encE]; exact rfl)))))
  refine Run.quietM prog_mixed (by kernel_rfl) [0] [(2, .str (l2 ++ w1 ++ w2)), (3, .int .i64 0)] [.gone] (by rfl) (by decide) ?_ ?_
  · (repeat (first | refine execQ_E rfl ?_ | (apply execQ_S rfl; (· (simp -implicitDefEqProofs; exact ⟨rfl, rfl⟩)))))
    refine execQ_C rfl rfl rfl (hn1 _) ?_
    (repeat (first | refine execQ_E rfl ?_ | (apply execQ_S rfl; (· (simp -implicitDefEqProofs [c1]; exact ⟨rfl, rfl⟩)))))
    refine execQ_C rfl rfl rfl (hn2 _) ?_
    (repeat (first | refine execQ_E rfl ?_ | (apply execQ_S rfl; (· (simp -implicitDefEqProofs [c1, c2, d2]; exact ⟨rfl, rfl⟩)))))
    simp
  rw [hfin]
  (repeat (first | refine Run.adm rfl ?_ | refine Run.seq ?_ | (apply Run.opS rfl; (· (simp -implicitDefEqProofs; exact ⟨rfl, rfl⟩))) | (apply Run.condS; (· (simp -implicitDefEqProofs; exact rfl)))))
  refine Run.mv [] [(2, .str (bytesE e)), (3, .int .i64 0)] [] (by rfl) (by decide) (by simp -implicitDefEqProofs) (by simp -implicitDefEqProofs) ?_
  refine Run.ret0 rfl Try.func12 r12_ok trivial (by simp [r12]; rfl) ?_ (by simp)
  simp [putM, hm]
theorem rput_at (e : Ed) (H : List O) : Tri Try.prog 12 [.agg (encE e)] H (fun v H' => v = .tup [.str (putM e).1, .int .i64 (putM e).2] ∧ H' = H) := (rput_tri e).at rfl rfl H

end Go.Proofs.Ytpipgcmiaccdkaa
