/-
  Layer 12, part K: texts of edits, in plain.
-/
import Derived.Test.YtpipgcmiaccdkaaManJ
namespace Go.Proofs.Ytpipgcmiaccdkaa
open Sx Go
set_option maxRecDepth 100000
set_option linter.unusedSimpArgs false
set_option linter.unusedVariables false
set_option linter.unnecessarySimpa false
attribute [local simp] stepV condR boundsC appendG appendO copyV srcC guardB isCall opStep Opd.ev put readAt aBin aUn args0 V.celled V.ones V.one V.cells putAt bounds bound1 elemsOf srcOf appendV fillAt fillEl V.pures V.pure unwind evs ARes.ev mkRes V.ren V.renL O.ren eqCells eq1 aEq aMM hasTy hasTyN okTy mmGo Known HLe OLe VsLe.refl VLe.refl VLe.cap Stay VsLe V.frz V.frzL O.frz fr clearV rn KnownR Objs OLeO ObjsE nm back setAll ren_ite take_map_len List.take_of_length_le
attribute [local simp ↓] upd_app tl_cons tl_nil
attribute [local simp] encT_ren encT_ones encT_len encT_take encN_ren encN_ones encN_len encN_take
attribute [local simp] encE_ren encE_len encE_take encZ_ren encZ_len encZ_take

theorem numS_good {q : Rd} (h : (numS q).2.2 = true) : q.2 = true := by
  cases h2 : q.2 with
  | true => rfl
  | false => rw [numS_bad h2] at h; cases h
theorem textS_good {q : Rd} (h : (textS q).2.2 = true) : q.2 = true := by
  cases h2 : q.2 with
  | true => rfl
  | false => rw [textS_bad h2] at h; cases h
theorem rdTab_good {q : Rd} (h : (rdTab q).2.2 = true) : q.2 = true := numS_good (numS_good (textS_good (textS_good h)))
theorem rdTabs_good : ∀ {n : Nat} {q : Rd}, (rdTabs n q).2.2 = true → q.2 = true ∧ (rdTabs n q).1.length = n
  | 0, q, h => ⟨h, rfl⟩
  | n + 1, q, h => by
    rw [rdTabs] at h ⊢
    split at h
    · rename_i hq
      rw [if_pos hq]
      obtain ⟨-, h2⟩ := rdTabs_good h
      exact ⟨hq, by simp [h2]⟩
    · rename_i hq; exact absurd h hq
theorem rdInts_good : ∀ {n : Nat} {q : Rd}, (rdInts n q).2.2 = true → q.2 = true ∧ (rdInts n q).1.length = n
  | 0, q, h => ⟨h, rfl⟩
  | n + 1, q, h => by
    rw [rdInts] at h ⊢
    split at h
    · rename_i hq
      rw [if_pos hq]
      obtain ⟨-, h2⟩ := rdInts_good h
      exact ⟨hq, by simp [h2]⟩
    · rename_i hq; exact absurd h hq

theorem take_same (s : Bs) : takeR s = takeP s := by
  have hB : (pA s).1 ≤ 128 → pB s = rB s := by
    intro h
    rw [pB, rB, show rA s = pA s from rfl, show min (pA s).1 129 = (pA s).1 by omega, decide_eq_true h, Bool.and_true]
  have hD : (pA s).1 ≤ 128 → (pC s).1 ≤ 128 → pD s = rD s := by
    intro h h2
    have hC : rC s = pC s := by rw [rC, pC, hB h]
    rw [pD, rD, hC, show min (pC s).1 129 = (pC s).1 by omega, decide_eq_true h2, Bool.and_true]
  have hall : (pA s).1 ≤ 128 → (pC s).1 ≤ 128 → rC s = pC s ∧ pB s = rB s ∧ pD s = rD s ∧ pE s = rE s ∧ pF s = rF s ∧ pEd s = rEd s := by
    intro h h2
    have h3 := hB h; have h4 := hD h h2
    have h5 : pE s = rE s := by rw [pE, rE, h4]
    have h6 : pF s = rF s := by rw [pF, rF, h5]
    exact ⟨by rw [rC, pC, h3], h3, h4, h5, h6, by rw [pEd, rEd, h3, h4, h5, h6]⟩
  by_cases hP : (pF s).2.2 = true ∧ (pF s).2.1 = [] ∧ mayE (pEd s) = true
  · obtain ⟨g1, g2, g3⟩ := hP
    have gE : (pE s).2.2 = true := numS_good g1
    have gD : (pD s).2.2 = true := numS_good gE
    obtain ⟨gC, lD⟩ := rdInts_good (q := ((pC s).2.1, (pC s).2.2 && decide ((pC s).1 ≤ 128))) gD
    simp only [Bool.and_eq_true, decide_eq_true_eq] at gC
    have gB : (pB s).2.2 = true := numS_good gC.1
    obtain ⟨gA, lB⟩ := rdTabs_good (q := ((pA s).2.1, (pA s).2.2 && decide ((pA s).1 ≤ 128))) gB
    simp only [Bool.and_eq_true, decide_eq_true_eq] at gA
    obtain ⟨e1, e2, e3, e4, e5, e6⟩ := hall gA.2 gC.2
    rw [takeP, if_pos ⟨g1, g2, g3⟩, takeR, if_pos]
    · rw [e6]
    · refine ⟨by rw [← e5]; exact g1, by rw [← e5]; exact g2, ?_, ?_, by rw [← e6]; exact g3⟩
      · rw [← e2]; exact lB
      · rw [← e3, e1]; exact lD
  · rw [takeP, if_neg hP, takeR, if_neg]
    rintro ⟨g1, g2, g3, g4, g5⟩
    obtain ⟨m1, m2, -⟩ := mayE_spec g5
    have n1 : (pA s).1 ≤ 128 := by rw [show pA s = rA s from rfl, ← g3]; exact m1
    have hC : rC s = pC s := by rw [rC, pC, hB n1]
    have n2 : (pC s).1 ≤ 128 := by rw [← hC, ← g4]; exact m2
    obtain ⟨-, -, -, -, e5, e6⟩ := hall n1 n2
    exact hP ⟨by rw [e5]; exact g1, by rw [e5]; exact g2, by rw [e6]; exact g5⟩

theorem nb_eq {n : Int} (h : 0 ≤ n ∧ n ≤ 4611686018427387904) : nb n = vput n.toNat := by rw [nb, vputM, if_pos h]
theorem numS_put {n : Int} (h : 0 ≤ n ∧ n ≤ 4611686018427387904) (r : Bs) : numS (nb n ++ r, true) = (n.toNat, (r, true)) := by
  simp only [numS, nb_eq h, vtake_put (show n.toNat ≤ 4611686018427387904 by omega)]
  simp
theorem textS_put {s : Bs} (h : s.length ≤ 262144) (r : Bs) : textS ((textM s).1 ++ r, true) = (s, (r, true)) := by
  have e1 : (textM s).1 = vput s.length ++ s := by
    rw [textM, if_neg (by omega)]; simp only
    rw [show (vputM (s.length : Int)).1 = nb s.length from rfl, nb_eq (by omega)]; simp
  have e2 : vtake (vput s.length ++ s ++ r) = (s.length, (vput s.length).length, 0) := by
    rw [List.append_assoc]; exact vtake_put (by omega) _
  have e3 : tkText (vput s.length ++ s ++ r) = (s, (vput s.length).length + s.length, 0) := by
    unfold tkText
    rw [e2]
    simp only [ne_eq, not_true_eq_false, if_false]
    rw [if_neg (by omega), if_neg (by simp only [List.length_append]; omega)]
    congr 1
    rw [show (vput s.length).length + s.length = (vput s.length ++ s).length by simp, List.take_append_of_le_length (Nat.le_refl _), List.take_length, List.drop_left]
  simp only [textS, e1, e3]
  rw [show (vput s.length).length + s.length = (vput s.length ++ s).length by simp, List.drop_left]
  simp
theorem rdTab_put {t : Tb} (h : tabB t = true) (r : Bs) : rdTab (tabBs t ++ r, true) = (t, (r, true)) := by
  obtain ⟨h1, h2, ⟨-, h3⟩, ⟨-, h4⟩, -⟩ := tabB_spec h
  have e : tabBs t ++ r = nb t.id ++ (nb t.level ++ ((textM t.lo).1 ++ ((textM t.hi).1 ++ r))) := by simp [tabBs]
  rw [e, rdTab, numS_put (by omega)]
  simp only
  rw [numS_put (by omega)]
  simp only
  rw [textS_put (by omega)]
  simp only
  rw [textS_put (by omega)]
  have i1 : ((t.id.toNat : Nat) : Int) = t.id := by omega
  have i2 : ((t.level.toNat : Nat) : Int) = t.level := by omega
  simp only [i1, i2]
theorem rdTabs_put : ∀ {l : List Tb} (_ : ∀ t ∈ l, tabB t = true) (r : Bs), rdTabs l.length (l.flatMap tabBs ++ r, true) = (l, (r, true))
  | [], _, r => by simp [rdTabs]
  | t :: l, h, r => by
    rw [List.length_cons, rdTabs, if_pos rfl, List.flatMap_cons, List.append_assoc, rdTab_put (h t (by simp)), rdTabs_put (fun x hx => h x (by simp [hx]))]
theorem rdInts_put : ∀ {l : List Int} (_ : ∀ n ∈ l, numB n = true) (r : Bs), rdInts l.length (nbs l ++ r, true) = (l, (r, true))
  | [], _, r => by simp [rdInts, nbs]
  | n :: l, h, r => by
    have hn := h n (by simp)
    simp only [numB, Bool.and_eq_true, Bool.not_eq_true', decide_eq_false_iff_not] at hn
    rw [List.length_cons, rdInts, if_pos rfl, show nbs (n :: l) = nb n ++ nbs l by simp [nbs], List.append_assoc, numS_put (by omega)]
    simp only
    rw [rdInts_put (fun x hx => h x (by simp [hx]))]
    have : ((n.toNat : Nat) : Int) = n := by omega
    simp only [this]
theorem take_put {e : Ed} (h : mayE e = true) : takeP (bytesE e) = (e, 0) := by
  obtain ⟨m1, m2, m3, m4, m5, m6⟩ := mayE_spec h
  have hs : bytesE e = nb e.add.length ++ (e.add.flatMap tabBs ++ (nb e.drop.length ++ (nbs e.drop ++ (nb e.log ++ (nb e.next ++ []))))) := by simp [bytesE]
  have hA : pA (bytesE e) = (e.add.length, (e.add.flatMap tabBs ++ (nb e.drop.length ++ (nbs e.drop ++ (nb e.log ++ (nb e.next ++ [])))), true)) := by
    rw [pA, hs, numS_put (by omega)]; simp
  have hB : pB (bytesE e) = (e.add, (nb e.drop.length ++ (nbs e.drop ++ (nb e.log ++ (nb e.next ++ []))), true)) := by
    rw [pB, hA]; simp only [decide_eq_true m1, Bool.and_true]; rw [rdTabs_put m3]
  have hC : pC (bytesE e) = (e.drop.length, (nbs e.drop ++ (nb e.log ++ (nb e.next ++ [])), true)) := by
    rw [pC, hB]; simp only; rw [numS_put (by omega)]; simp
  have hD : pD (bytesE e) = (e.drop, (nb e.log ++ (nb e.next ++ []), true)) := by
    rw [pD, hC]; simp only [decide_eq_true m2, Bool.and_true]; rw [rdInts_put m4]
  have hE : pE (bytesE e) = (e.log.toNat, (nb e.next ++ [], true)) := by
    rw [pE, hD]; simp only; rw [numS_put (by omega)]
  have hF : pF (bytesE e) = (e.next.toNat, ([], true)) := by
    rw [pF, hE]; simp only; rw [numS_put (by omega)]
  have i1 : ((e.log.toNat : Nat) : Int) = e.log := by omega
  have i2 : ((e.next.toNat : Nat) : Int) = e.next := by omega
  have hed : pEd (bytesE e) = e := by rw [pEd, hB, hD, hE, hF]; simp only [i1, i2]
  rw [takeP, hed, if_pos ⟨by rw [hF], by rw [hF], h⟩]

end Go.Proofs.Ytpipgcmiaccdkaa
