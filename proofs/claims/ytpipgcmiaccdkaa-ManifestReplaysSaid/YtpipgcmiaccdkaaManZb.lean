/-
  Layer 12, part Zb: the laws ManifestReplays, ManifestApart.
-/
import Derived.Test.YtpipgcmiaccdkaaManZa
namespace Go.Proofs.Ytpipgcmiaccdkaa
open Sx Go
set_option maxRecDepth 100000
set_option linter.unusedSimpArgs false
set_option linter.unusedVariables false
set_option linter.unnecessarySimpa false
attribute [local simp] stepV condR boundsC appendG appendO copyV srcC guardB isCall opStep Opd.ev put readAt aBin aUn args0 V.celled V.ones V.one V.cells putAt bounds bound1 elemsOf srcOf appendV fillAt fillEl V.pures V.pure unwind evs ARes.ev mkRes V.ren V.renL O.ren eqCells eq1 aEq aMM hasTy hasTyN okTy mmGo Known HLe OLe VsLe.refl VLe.refl VLe.cap Stay VsLe V.frz V.frzL O.frz fr clearV rn KnownR Objs OLeO ObjsE nm back setAll ren_ite take_map_len List.take_of_length_le
attribute [local simp ↓] upd_app tl_cons tl_nil
attribute [local simp] encT_ren encT_ones encT_len encT_take encN_ren encN_ones encN_len encN_take
attribute [local simp] encE_ren encE_len encE_take encZ_ren encZ_len encZ_take
attribute [local simp] encS_ren encS_ones encS_len encS_take

theorem bytesE_len {e : Ed} (hm : mayE e = true) : (bytesE e).length ≤ 1099511627776 := by
  obtain ⟨m1, m2, m3, -, -, -⟩ := mayE_spec hm
  have q1 := tabsBs_len m3
  have q2 := nbs_len e.drop
  have q3 := nb_len e.add.length
  have q4 := nb_len e.drop.length
  have q5 := nb_len e.log
  have q6 := nb_len e.next
  simp only [bytesE, List.length_append]
  omega
theorem repM_len : ∀ (l : List Bs) (s : St), (repM s l).1.tabs.length ≤ s.tabs.length + l.length * 128
  | [], s => by simp [repM]
  | t :: l, s => by
    rw [repM]
    split
    · have h1 := repM_len l (applyR s (takeP t).1).1
      have h2 := applyR_len s (takeP t).1
      simp only [List.length_cons]; omega
    · simp [z0]
def allM (l : List Ed) : List Bs := (l.filter mayE).map bytesE
theorem allM_len (l : List Ed) : (allM l).length ≤ l.length := by rw [allM, List.length_map]; exact List.length_filter_le _ _
theorem allM_snoc {l : List Ed} {i : Nat} {e : Ed} (h : l[i]? = some e) : allM (l.take (i + 1)) = allM (l.take i) ++ (if mayE e = true then [bytesE e] else []) := by
  rw [take_snoc h, allM, List.filter_append, List.map_append, allM]
  congr 1
  cases h : mayE e <;> simp [h]
theorem allM_small (l : List Ed) : ∀ t ∈ allM l, t.length ≤ 1099511627776 := by
  intro t ht
  obtain ⟨e, he, rfl⟩ := List.mem_map.1 ht
  exact bytesE_len (List.mem_filter.1 he).2

theorem replays_law (ts : List Bs) (l : List Ed) : Tri Try.prog 8 [.vs (ts.map encS) 1, .vs (l.map encE) 4] [] (fun v H => v = .bool true ∧ H = []) := by
  refine Tri.of_run' Try.func8 rfl c8_ok (by simp [Try.ntmps8]) ?_
  have hend : ∀ {k t h}, AtEnd k → t 4 = .bool true → Run ⟨Try.prog, 8, Try.f8.ntmps, [], fun v H => v = .bool true ∧ H = []⟩ ⟨k, t, h⟩ := by
    intro k t h hk h6
    refine Run.mv [] [(4, .bool true)] [] (by rfl) (by decide) (by simp [h6]) (by simp) ?_
    refine Run.ret0 rfl Try.func8 r8_ok hk (by simp [r8]; rfl) ?_ (by simp)
    simp
  by_cases a1 : 20 < ts.length
  · have a1' : (20 : Int) < ts.length := by omega
    (repeat (first | refine Run.adm rfl ?_ | refine Run.seq ?_ | (apply Run.opS rfl; (· (simp -implicitDefEqProofs [a1, a1']; exact ⟨rfl, rfl⟩))) | (apply Run.condS; (· (simp -implicitDefEqProofs [a1, a1']; exact rfl)))))
    refine Run.opC rfl rfl rfl (awake_at _) ?_
    rintro v h' ⟨rfl, rfl⟩
    (repeat (first | refine Run.adm rfl ?_ | refine Run.seq ?_ | (apply Run.opS rfl; (· (simp -implicitDefEqProofs; exact ⟨rfl, rfl⟩))) | (apply Run.condS; (· (simp -implicitDefEqProofs; exact rfl)))))
    exact hend trivial (by simp)
  have a1' : ¬ (20 : Int) < ts.length := by omega
  by_cases a2 : 20 < l.length
  · have a2' : (20 : Int) < l.length := by omega
    (repeat (first | refine Run.adm rfl ?_ | refine Run.seq ?_ | (apply Run.opS rfl; (· (simp -implicitDefEqProofs [a1, a1', a2, a2']; exact ⟨rfl, rfl⟩))) | (apply Run.condS; (· (simp -implicitDefEqProofs [a1, a1', a2, a2']; exact rfl)))))
    refine Run.opC rfl rfl rfl (awake_at _) ?_
    rintro v h' ⟨rfl, rfl⟩
    (repeat (first | refine Run.adm rfl ?_ | refine Run.seq ?_ | (apply Run.opS rfl; (· (simp -implicitDefEqProofs; exact ⟨rfl, rfl⟩))) | (apply Run.condS; (· (simp -implicitDefEqProofs; exact rfl)))))
    exact hend trivial (by simp)
  have a2' : ¬ (20 : Int) < l.length := by omega
  (repeat (first | refine Run.adm rfl ?_ | refine Run.seq ?_ | (apply Run.opS rfl; (· (simp -implicitDefEqProofs [a1, a1', a2, a2']; exact ⟨rfl, rfl⟩))) | (apply Run.condS; (· (simp -implicitDefEqProofs [a1, a1', a2, a2']; exact rfl)))))
  refine Run.nilA 5 1 (by simp) ?_
  refine Run.loopC [0] (fun (i : Nat) => ([(0, .vs (ts.map encS) 1), (1, .vs (l.map encE) 4), (5, .sl 0 0 (allM (l.take i)).length 1 none), (6, .int .i64 i)], [.arr ((allM (l.take i)).map encS) 1])) (fun i => i ≤ l.length) (fun i => l.length - i) 0 (by simp) (by rfl) (by decide) (by simp [allM]) (by simp [allM]) ?_
  intro i hi ih
  by_cases hlt : i < l.length
  · obtain ⟨e, he, hei, -, -⟩ := getL hlt
    have hlt' : (i : Int) < l.length := by omega
    have hw := wrap_small (n := (i : Int) + 1) (by omega) (by omega)
    have hli := fun H => light_at e H
    have hpu := fun H => rput_at e H
    have hnx := allM_snoc he
    have hln := allM_len (l.take i)
    rw [List.length_take] at hln
    have ihq := ih (i + 1) (by omega) (by omega)
    simp only [hnx] at ihq
    clear ih
    generalize allM (l.take i) = o at *
    have hbb : (o.length + 1) * 16 ≤ 70368744177664 := by omega
    (repeat (first | refine Run.adm rfl ?_ | refine Run.seq ?_ | (apply Run.opS rfl; (· (simp -implicitDefEqProofs [hlt, hlt', he, hei]; exact ⟨rfl, rfl⟩))) | (apply Run.condS; (· (simp -implicitDefEqProofs [hlt, hlt', he, hei]; exact rfl)))))
    refine Run.opC rfl rfl rfl (hli _) ?_
    rintro v h' ⟨rfl, rfl⟩
    cases hle : lightM e with
    | false =>
      (repeat (first | refine Run.adm rfl ?_ | refine Run.seq ?_ | (apply Run.opS rfl; (· (simp -implicitDefEqProofs [hle]; exact ⟨rfl, rfl⟩))) | (apply Run.condS; (· (simp -implicitDefEqProofs [hle]; exact rfl)))))
      refine Run.opC rfl rfl rfl (awake_at _) ?_
      rintro v h' ⟨rfl, rfl⟩
      (repeat (first | refine Run.adm rfl ?_ | refine Run.seq ?_ | (apply Run.opS rfl; (· (simp -implicitDefEqProofs; exact ⟨rfl, rfl⟩))) | (apply Run.condS; (· (simp -implicitDefEqProofs; exact rfl)))))
      exact hend trivial (by simp)
    | true =>
    (repeat (first | refine Run.adm rfl ?_ | refine Run.seq ?_ | (apply Run.opS rfl; (· (simp -implicitDefEqProofs [hle, hlt, hlt', he, hei]; exact ⟨rfl, rfl⟩))) | (apply Run.condS; (· (simp -implicitDefEqProofs [hle, hlt, hlt', he, hei]; exact rfl)))))
    refine Run.opC rfl rfl rfl (hpu _) ?_
    rintro v h' ⟨rfl, rfl⟩
    cases hm : mayE e with
    | true =>
      rw [hm] at ihq
      simp only [if_true] at ihq
      have hp : putM e = (bytesE e, 0) := by rw [putM, if_pos hm]
      generalize bytesE e = b at *
      rw [hp]
      (repeat (first | refine Run.adm rfl ?_ | refine Run.seq ?_ | (apply Run.opS rfl; (· (simp -implicitDefEqProofs [hbb]; exact ⟨rfl, rfl⟩))) | (apply Run.condS; (· (simp -implicitDefEqProofs [hbb]; exact rfl)))))
      refine Run.mv [2] _ _ (by rfl) (by decide) ?_ ?_ ihq
      · simp [hw]
      · simp [encS]
    | false =>
      rw [hm] at ihq
      simp only [Bool.false_eq_true, if_false, List.append_nil] at ihq
      have hp : putM e = ([], 1) := by rw [putM, if_neg (by simp [hm])]
      rw [hp]
      (repeat (first | refine Run.adm rfl ?_ | refine Run.seq ?_ | (apply Run.opS rfl; (· (simp -implicitDefEqProofs; exact ⟨rfl, rfl⟩))) | (apply Run.condS; (· (simp -implicitDefEqProofs; exact rfl)))))
      refine Run.mv [0] _ _ (by rfl) (by decide) ?_ ?_ ihq
      · simp [hw]
      · simp
  · have : i = l.length := by omega
    subst this
    clear ih
    rw [List.take_length]
    have hal := allM_len l
    have has := allM_small l
    generalize allM l = o at *
    (repeat (first | refine Run.adm rfl ?_ | refine Run.seq ?_ | (apply Run.opS rfl; (· (simp -implicitDefEqProofs; exact ⟨rfl, rfl⟩))) | (apply Run.condS; (· (simp -implicitDefEqProofs; exact rfl)))))
    refine Run.freeze 0 (es := o.map encS) (sz := 1) (by simp) ?_
    refine Run.loopC [] (fun (i : Nat) => ([(0, .vs (ts.map encS) 1), (5, .vs (o.map encS) 1), (9, .int .i64 i)], [])) (fun i => i ≤ ts.length ∧ ∀ t ∈ ts.take i, t.length ≤ 1024) (fun i => ts.length - i) 0 (by simp) (by rfl) (by decide) (by simp) (by simp) ?_
    rintro i ⟨hi, hall⟩ ih
    by_cases hlt : i < ts.length
    · obtain ⟨x, hx, hxi, -, -⟩ := getL hlt
      have hlt' : (i : Int) < ts.length := by omega
      have hw := wrap_small (n := (i : Int) + 1) (by omega) (by omega)
      by_cases hxl : 1024 < x.length
      · have hxl' : (1024 : Int) < x.length := by omega
        (repeat (first | refine Run.adm rfl ?_ | refine Run.seq ?_ | (apply Run.opS rfl; (· (simp -implicitDefEqProofs [hlt, hlt', hx, hxi, encS, hxl, hxl']; exact ⟨rfl, rfl⟩))) | (apply Run.condS; (· (simp -implicitDefEqProofs [hlt, hlt', hx, hxi, encS, hxl, hxl']; exact rfl)))))
        refine Run.opC rfl rfl rfl (awake_at _) ?_
        rintro v h' ⟨rfl, rfl⟩
        (repeat (first | refine Run.adm rfl ?_ | refine Run.seq ?_ | (apply Run.opS rfl; (· (simp -implicitDefEqProofs; exact ⟨rfl, rfl⟩))) | (apply Run.condS; (· (simp -implicitDefEqProofs; exact rfl)))))
        exact hend trivial (by simp)
      · have hxl' : ¬ (1024 : Int) < x.length := by omega
        (repeat (first | refine Run.adm rfl ?_ | refine Run.seq ?_ | (apply Run.opS rfl; (· (simp -implicitDefEqProofs [hlt, hlt', hx, hxi, encS, hxl, hxl']; exact ⟨rfl, rfl⟩))) | (apply Run.condS; (· (simp -implicitDefEqProofs [hlt, hlt', hx, hxi, encS, hxl, hxl']; exact rfl)))))
        refine Run.mv [] _ _ (by rfl) (by decide) (by simp -implicitDefEqProofs [hw]) (by simp -implicitDefEqProofs [hw]) (ih (i + 1) ?_ ?_)
        · refine ⟨by omega, fun t ht => ?_⟩
          rw [take_snoc hx] at ht
          rcases List.mem_append.1 ht with ht | ht
          · exact hall t ht
          · rw [List.mem_singleton.1 ht]; omega
        · omega
    · have : i = ts.length := by omega
      subst this
      rw [List.take_length] at hall
      clear ih
      have hr1 := fun H => rep_at ts (by omega) (fun t ht => Nat.le_trans (hall t ht) (by decide)) H
      have hr2 := fun H => rrep_at ts (by omega) (fun t ht => Nat.le_trans (hall t ht) (by decide)) H
      have hr3 := fun H => rep_at o (by omega) has H
      have hr4 := fun H => rrep_at o (by omega) has H
      have hl1 := repM_len ts z0
      have hl2 := repM_len o z0
      generalize repM z0 ts = p1 at *
      generalize repM z0 o = p2 at *
      obtain ⟨s1, n1⟩ := p1
      obtain ⟨s2, n2⟩ := p2
      simp only [z0, List.length_nil] at hr1 hr2 hr3 hr4 hl1 hl2
      have hs1 := fun H => same_st s1 (by omega) H
      have hs2 := fun H => same_st s2 (by omega) H
      (repeat (first | refine Run.adm rfl ?_ | refine Run.seq ?_ | (apply Run.opS rfl; (· (simp -implicitDefEqProofs; exact ⟨rfl, rfl⟩))) | (apply Run.condS; (· (simp -implicitDefEqProofs; exact rfl)))))
      refine Run.opC rfl rfl rfl (hr1 _) ?_
      rintro v h' ⟨rfl, rfl⟩
      (repeat (first | refine Run.adm rfl ?_ | refine Run.seq ?_ | (apply Run.opS rfl; (· (simp -implicitDefEqProofs [encZ]; exact ⟨rfl, rfl⟩))) | (apply Run.condS; (· (simp -implicitDefEqProofs [encZ]; exact rfl)))))
      refine Run.opC rfl rfl rfl (hr2 _) ?_
      rintro v h' ⟨rfl, rfl⟩
      (repeat (first | refine Run.adm rfl ?_ | refine Run.seq ?_ | (apply Run.opS rfl; (· (simp -implicitDefEqProofs [encZ]; exact ⟨rfl, rfl⟩))) | (apply Run.condS; (· (simp -implicitDefEqProofs [encZ]; exact rfl)))))
      refine Run.opC rfl rfl rfl (hr3 _) ?_
      rintro v h' ⟨rfl, rfl⟩
      (repeat (first | refine Run.adm rfl ?_ | refine Run.seq ?_ | (apply Run.opS rfl; (· (simp -implicitDefEqProofs [encZ]; exact ⟨rfl, rfl⟩))) | (apply Run.condS; (· (simp -implicitDefEqProofs [encZ]; exact rfl)))))
      refine Run.opC rfl rfl rfl (hr4 _) ?_
      rintro v h' ⟨rfl, rfl⟩
      (repeat (first | refine Run.adm rfl ?_ | refine Run.seq ?_ | (apply Run.opS rfl; (· (simp -implicitDefEqProofs [encZ]; exact ⟨rfl, rfl⟩))) | (apply Run.condS; (· (simp -implicitDefEqProofs [encZ]; exact rfl)))))
      refine Run.opC rfl rfl rfl (hs1 _) ?_
      rintro v h' ⟨rfl, rfl⟩
      (repeat (first | refine Run.adm rfl ?_ | refine Run.seq ?_ | (apply Run.opS rfl; (· (simp -implicitDefEqProofs [encZ]; exact ⟨rfl, rfl⟩))) | (apply Run.condS; (· (simp -implicitDefEqProofs [encZ]; exact rfl)))))
      refine Run.opC rfl (by simp) rfl (hs2 _) ?_
      rintro v h' ⟨rfl, rfl⟩
      (repeat (first | refine Run.adm rfl ?_ | refine Run.seq ?_ | (apply Run.opS rfl; (· (simp -implicitDefEqProofs [encZ]; exact ⟨rfl, rfl⟩))) | (apply Run.condS; (· (simp -implicitDefEqProofs [encZ]; exact rfl)))))
      refine Run.opC rfl (by simp) rfl (awake_at _) ?_
      rintro v h' ⟨rfl, rfl⟩
      (repeat (first | refine Run.adm rfl ?_ | refine Run.seq ?_ | (apply Run.opS rfl; (· (simp -implicitDefEqProofs; exact ⟨rfl, rfl⟩))) | (apply Run.condS; (· (simp -implicitDefEqProofs; exact rfl)))))
      exact hend trivial (by simp)

/-! ### what a state keeps -/
def GoodS (s : St) : Prop := GoodT s.tabs ∧ (∀ t ∈ s.tabs, t.id < s.next) ∧ ApartP s.tabs
theorem goodS_z0 : GoodS z0 := ⟨good_nil, by simp [z0], List.Pairwise.nil⟩
theorem applyR_ok {s : St} {e : Ed} (h : (applyR s e).2 = 0) : mayE e = true ∧ okA s e ∧ (applyR s e).1 = ⟨built s e, e.log, e.next⟩ := by
  unfold applyR at *
  split at h
  · rename_i hm
    split at h
    · rename_i ho
      rw [if_pos hm, if_pos ho]
      exact ⟨hm, ho, rfl⟩
    · simp at h
  · simp at h
theorem applyR_goodS {s : St} {e : Ed} (hg : GoodS s) (h : (applyR s e).2 = 0) : GoodS (applyR s e).1 ∧ s.log ≤ (applyR s e).1.log ∧ s.next ≤ (applyR s e).1.next := by
  obtain ⟨hm, ho, he⟩ := applyR_ok h
  rw [he]
  refine ⟨⟨built_good hm hg.1 ho.2.2.2.1, fun t ht => ?_, ho.2.2.2.2⟩, ho.1, ho.2.1⟩
  simp only
  rcases List.mem_append.1 ((built_perm s e).mem_iff.1 ht) with ht | ht
  · have := hg.2.1 t (List.mem_filter.1 ht).1
    have := ho.2.1
    omega
  · exact (ho.2.2.2.1.1 t ht).2
theorem goodS_two {s : St} (hg : GoodS s) {j k : Nat} {u t : Tb} (hjk : j < k) (hu : s.tabs[j]? = some u) (ht : s.tabs[k]? = some t) : u.id ≠ t.id ∧ u.level ≤ t.level ∧ (0 < t.level → u.level = t.level → Op.bytesLess u.hi t.lo = true) := by
  have hi := (List.getElem?_eq_some_iff.1 hu)
  have hj := (List.getElem?_eq_some_iff.1 ht)
  obtain ⟨⟨h1, h2, h3⟩, h4, h5⟩ := hg
  have hle : leT u t := by
    have := List.pairwise_iff_getElem.1 h1 j k hi.1 hj.1 hjk
    rw [hi.2, hj.2] at this; exact this
  have hc : clash t u = false := by
    have := List.pairwise_iff_getElem.1 h5 j k hi.1 hj.1 hjk
    rw [hi.2, hj.2] at this; exact this
  refine ⟨fun he => ?_, leT_level hle, fun h0 hl => ?_⟩
  · have := List.pairwise_iff_getElem.1 h2 j k (by simpa using hi.1) (by simpa using hj.1) hjk
    rw [List.getElem_map, List.getElem_map, hi.2, hj.2] at this
    exact this he
  · have hn := nb_clash hle (lo_le_hi (h3 t (List.mem_of_getElem? ht)))
    rw [hc] at hn
    unfold nbOk at hn
    have h0' : 0 < u.level := by omega
    simpa [hl, h0] using hn

end Go.Proofs.Ytpipgcmiaccdkaa
