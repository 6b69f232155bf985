/-
  Layer 12, part P: sorting: two ranges merge: one of them a single table.
-/
import Derived.Test.YtpipgcmiaccdkaaManO
namespace Go.Proofs.Ytpipgcmiaccdkaa
open Sx Go
set_option maxRecDepth 100000
set_option linter.unusedSimpArgs false
set_option linter.unusedVariables false
set_option linter.unnecessarySimpa false
attribute [local simp] stepV condR boundsC appendG appendO copyV srcC guardB isCall opStep Opd.ev put readAt aBin aUn args0 V.celled V.ones V.one V.cells putAt bounds bound1 elemsOf srcOf appendV fillAt fillEl V.pures V.pure unwind evs ARes.ev mkRes V.ren V.renL O.ren eqCells eq1 aEq aMM hasTy hasTyN okTy mmGo Known HLe OLe VsLe.refl VLe.refl VLe.cap Stay VsLe V.frz V.frzL O.frz fr clearV rn KnownR Objs OLeO ObjsE nm back setAll ren_ite take_map_len List.take_of_length_le
attribute [local simp ↓] upd_app tl_cons tl_nil
attribute [local simp] encT_ren encT_ones encT_len encT_take encN_ren encN_ones encN_len encN_take
attribute [local simp] encE_ren encE_len encE_take encZ_ren encZ_len encZ_take

theorem get2a_one {α : Type} (A C : List α) (x : α) {i : Nat} (hi : i = A.length) : (A ++ ([x] ++ C))[i]? = some x := by subst hi; simp
theorem take_le {Y : List Tb} (hs : Srt Y) {p : Nat} {x : Tb} (h : ∀ y, 0 < p → Y[p - 1]? = some y → leT y x) (hp : p ≤ Y.length) : ∀ y ∈ Y.take p, leT y x := by
  cases p with
  | zero => intro y hy; simp at hy
  | succ q =>
    obtain ⟨z, hz, -, -, -⟩ := getL (l := Y) (i := q) (by omega)
    have h1 := h z (by omega) (by simpa using hz)
    have e : Y.take (q + 1) = Y.take q ++ [z] := by rw [List.take_add_one, hz]; rfl
    rw [e]
    have hs2 : Srt (Y.take q ++ [z]) := by rw [← e]; exact hs.sublist (List.take_sublist _ _)
    exact fun y hy => leT_trans (srt_last hs2 y hy) h1
theorem drop_ge {Y : List Tb} (hs : Srt Y) {p : Nat} {x : Tb} (h : ∀ y, Y[p]? = some y → leT x y) : ∀ y ∈ Y.drop p, leT x y := by
  by_cases hp : p < Y.length
  · obtain ⟨z, hz, -, hd, -⟩ := getL hp
    rw [hd]
    have hs2 : Srt (z :: Y.drop (p + 1)) := by rw [← hd]; exact hs.sublist (List.drop_sublist _ _)
    intro y hy
    rcases List.mem_cons.1 hy with rfl | hy
    · exact h _ hz
    · exact leT_trans (h _ hz) ((List.pairwise_cons.1 hs2).1 y hy)
  · rw [List.drop_of_length_le (by omega)]; simp
theorem srt_ins {Y : List Tb} (hs : Srt Y) {p : Nat} {x : Tb} (hp : p ≤ Y.length) (h1 : ∀ y, 0 < p → Y[p - 1]? = some y → leT y x) (h2 : ∀ y, Y[p]? = some y → leT x y) : Srt (Y.take p ++ x :: Y.drop p) :=
  srt_mid (by rw [List.take_append_drop]; exact hs) (take_le hs h1 hp) (drop_ge hs h2)

theorem half (i j h : Nat) (hh : h = (i + j) / 2) (hb : i + j ≤ 4000000) : IntKind.i64.wrap ((i : Int) + j) = (i : Int) + j ∧ IntKind.u64.wrap ((i : Int) + j) = (i : Int) + j ∧ iShr .u64 ((i : Int) + j) 1 = (h : Int) ∧ IntKind.i64.wrap (h : Int) = (h : Int) ∧ IntKind.i64.wrap ((h : Int) + 1) = ((h + 1 : Nat) : Int) := by
  have e : (i : Int) + j = ((i + j : Nat) : Int) := by omega
  refine ⟨wrap_small (by omega) (by omega), by rw [e]; exact wrapU _ (by omega), by rw [e, hh]; exact shr1 _ (by omega), wrap_small (by omega) (by omega), ?_⟩
  rw [wrap_small (by omega) (by omega)]; omega

/-- what a merge leaves -/
def MrgP (P X Y S : List Tb) (v : V) (H : List O) : Prop := v = .tup [] ∧ ∃ Z, Z.Perm (X ++ Y) ∧ Srt Z ∧ H = [.arr ((P ++ Z ++ S).map encT) 4]

theorem sym1_tri (P Y S : List Tb) (x : Tb) (hs : Srt Y) (hl : (P ++ [x] ++ Y ++ S).length ≤ 1000000) {a m b L : Nat} (ha : a = P.length) (hm : m = P.length + 1) (hb : b = P.length + 1 + Y.length) (hL : L = (P ++ [x] ++ Y ++ S).length) :
    Tri Try.prog 73 [.sl 0 0 L 4 none, .int .i64 a, .int .i64 m, .int .i64 b, .fn 50 []] [.arr ((P ++ [x] ++ Y ++ S).map encT) 4] (MrgP P [x] Y S) := by
  simp only [List.length_append, List.length_cons, List.length_nil] at hl hL
  refine Tri.of_run' Try.func73 rfl c73_ok (by simp [Try.ntmps73]) ?_
  have hw1 : IntKind.i64.wrap ((m : Int) - a) = 1 := by rw [wrap_small (by omega) (by omega)]; omega
  obtain ⟨W, hW⟩ : ∃ W, W = P ++ [x] ++ Y ++ S := ⟨_, rfl⟩
  have hWl : W.length = L := by rw [hW]; simp only [List.length_append, List.length_cons, List.length_nil]; omega
  have gx : W[a]? = some x := by rw [hW, List.append_assoc, List.append_assoc]; exact get2a_one P (Y ++ S) x ha
  have gy : ∀ s y, Y[s]? = some y → W[m + s]? = some y := by
    intro s y hy
    rw [hW, List.append_assoc, List.getElem?_append_right (by simp; omega)]
    have : s < Y.length := (List.getElem?_eq_some_iff.1 hy).1
    rw [show m + s - (P ++ [x]).length = s by simp; omega, List.getElem?_append_left this]; exact hy
  rw [← hW]
  (repeat (first | refine Run.adm rfl ?_ | refine Run.seq ?_ | (apply Run.opS rfl; (· (simp -implicitDefEqProofs [hw1]; exact ⟨rfl, rfl⟩))) | (apply Run.condS; (· (simp -implicitDefEqProofs [hw1]; exact rfl)))))
  refine Run.loopC [0] (fun (q : Nat × Nat) => ([(0, .sl 0 0 L 4 none), (1, .int .i64 a), (4, .fn 50 []), (10, .int .i64 ((m + q.1 : Nat) : Int)), (11, .int .i64 ((m + q.2 : Nat) : Int))], [.arr (W.map encT) 4]))
    (fun q => q.1 ≤ q.2 ∧ q.2 ≤ Y.length ∧ (∀ y, 0 < q.1 → Y[q.1 - 1]? = some y → leT y x) ∧ (∀ y, Y[q.2]? = some y → leT x y)) (fun q => q.2 - q.1) (0, Y.length) (by simp) (by rfl) (by decide) (by simp [show b = m + Y.length by omega]) (by simp) ?_
  rintro ⟨p, q⟩ ⟨hpq, hq, hlo, hhi⟩ ih
  simp only at hpq hq hlo hhi ih ⊢
  by_cases hlt : p < q
  · have hlt' : ((m + p : Nat) : Int) < ((m + q : Nat) : Int) := by omega
    have hlt2 : m + p < m + q := by omega
    obtain ⟨h, hh⟩ : ∃ h, h = (m + p + (m + q)) / 2 := ⟨_, rfl⟩
    obtain ⟨e1, e2, e3, e4, e5⟩ := half (m + p) (m + q) h hh (by omega)
    obtain ⟨s, hs'⟩ : ∃ s, h = m + s := ⟨h - m, by omega⟩
    have hsp : p ≤ s := by omega
    have hsq : s < q := by omega
    obtain ⟨y, hy, -, -, -⟩ := getL (l := Y) (i := s) (by omega)
    have g2 := gy s y hy
    rw [← hs'] at g2
    have h5 : a < W.length := (List.getElem?_eq_some_iff.1 gx).1
    have h6 : h < W.length := (List.getElem?_eq_some_iff.1 g2).1
    have g1' : W[a] = x := (List.getElem?_eq_some_iff.1 gx).2
    have g2' : W[h] = y := (List.getElem?_eq_some_iff.1 g2).2
    have h5' : a < L := by omega
    have h6' : h < L := by omega
    have hor := fun H => order_at y x H
    simp only [encT] at hor
    generalize hmp : m + p = mp at *
    generalize hmq : m + q = mq at *
    (repeat (first | refine Run.adm rfl ?_ | refine Run.seq ?_ | (apply Run.opS rfl; (· (simp -implicitDefEqProofs [hlt', hlt2, e1, e2, e3, e4]; exact ⟨rfl, rfl⟩))) | (apply Run.condS; (· (simp -implicitDefEqProofs [hlt', hlt2, e1, e2, e3, e4]; exact rfl)))))
    refine Run.quietM prog_mixed (by kernel_rfl) [0] [(0, .sl 0 0 L 4 none), (1, .int .i64 a), (4, .fn 50 []), (10, .int .i64 mp), (11, .int .i64 mq), (12, .int .i64 h), (50, .bool (aheadB y x))] [.arr (W.map encT) 4] (by rfl) (by decide) ?_ ?_
    · (repeat (first | refine execQ_E rfl ?_ | (apply execQ_S rfl; (· (simp -implicitDefEqProofs [h5, h6, h5', h6', gx, g2, g1', g2', encT]; exact ⟨rfl, rfl⟩)))))
      refine execQ_C rfl rfl rfl (hor _) ?_
      (repeat (first | refine execQ_E rfl ?_ | (apply execQ_S rfl; (· (simp -implicitDefEqProofs; exact ⟨rfl, rfl⟩)))))
      have := ordI_lt y x
      cases hxz : aheadB y x with
      | true => simp [this.2 hxz]
      | false => simp [show ¬ ordI y x < 0 from fun h => by rw [this.1 h] at hxz; cases hxz]
    cases hyx : aheadB y x with
    | true =>
      (repeat (first | refine Run.adm rfl ?_ | refine Run.seq ?_ | (apply Run.opS rfl; (· (simp -implicitDefEqProofs; exact ⟨rfl, rfl⟩))) | (apply Run.condS; (· (simp -implicitDefEqProofs; exact rfl)))))
      have hq2 := ih (s + 1, q) ⟨by simp only; omega, hq, fun z _ hz => by
        simp only [Nat.add_sub_cancel] at hz
        rw [hy] at hz; cases hz; exact ahead_le hyx, hhi⟩ (by simp only; omega)
      simp only at hq2
      refine Run.mv [0] _ _ (by rfl) (by decide) ?_ ?_ hq2
      · simp [e5, ← hmq, show h + 1 = m + (s + 1) by omega]
      · simp
    | false =>
      (repeat (first | refine Run.adm rfl ?_ | refine Run.seq ?_ | (apply Run.opS rfl; (· (simp -implicitDefEqProofs; exact ⟨rfl, rfl⟩))) | (apply Run.condS; (· (simp -implicitDefEqProofs; exact rfl)))))
      have hq2 := ih (p, s) ⟨by simp only; omega, by simp only; omega, hlo, fun z hz => by
        simp only at hz
        rw [hy] at hz; cases hz; exact hyx⟩ (by simp only; omega)
      simp only at hq2
      refine Run.mv [0] _ _ (by rfl) (by decide) ?_ ?_ hq2
      · simp [← hmp, hs']
      · simp
  · obtain rfl : p = q := by omega
    clear ih
    obtain ⟨i, hi⟩ : ∃ i, i = m + p := ⟨_, rfl⟩
    have hlt' : ¬ (i : Int) < i := by omega
    rw [← hi]
    have hwi : IntKind.i64.wrap ((i : Int) - 1) = ((a + p : Nat) : Int) := by rw [wrap_small (by omega) (by omega)]; omega
    (repeat (first | refine Run.adm rfl ?_ | refine Run.seq ?_ | (apply Run.opS rfl; (· (simp -implicitDefEqProofs; exact ⟨rfl, rfl⟩))) | (apply Run.condS; (· (simp -implicitDefEqProofs; exact rfl)))))
    refine Run.loopC [0] (fun (t : Nat) => ([(0, .sl 0 0 L 4 none), (10, .int .i64 i), (13, .int .i64 ((a + t : Nat) : Int))], [.arr ((P ++ Y.take t ++ x :: (Y.drop t ++ S)).map encT) 4])) (fun t => t ≤ p) (fun t => p - t) 0 (by simp) (by rfl) (by decide) (by simp) (by simp [hW]) ?_
    intro t ht ih
    by_cases htp : t < p
    · have htp' : ((a + t : Nat) : Int) < ((a + p : Nat) : Int) := by omega
      have htp2 : a + t < a + p := by omega
      obtain ⟨y, hy, -, hyd, -⟩ := getL (l := Y) (i := t) (by omega)
      have hty : Y.take (t + 1) = Y.take t ++ [y] := by rw [List.take_add_one, hy]; rfl
      have htl : (Y.take t).length = t := by rw [List.length_take]; omega
      have hdl : (Y.drop (t + 1)).length = Y.length - (t + 1) := List.length_drop ..
      have e1 : P ++ Y.take t ++ x :: (Y.drop t ++ S) = (P ++ Y.take t) ++ x :: ([] ++ y :: (Y.drop (t + 1) ++ S)) := by rw [hyd]; simp
      have e2 : P ++ Y.take (t + 1) ++ x :: (Y.drop (t + 1) ++ S) = (P ++ Y.take t) ++ y :: ([] ++ x :: (Y.drop (t + 1) ++ S)) := by rw [hty]; simp
      obtain ⟨k, hk⟩ : ∃ k, k = a + t := ⟨_, rfl⟩
      obtain ⟨kp, hkp⟩ : ∃ kp, kp = a + (t + 1) := ⟨_, rfl⟩
      have q1 : k = (P ++ Y.take t).length := by rw [List.length_append]; omega
      have q2 : kp = (P ++ Y.take t).length + 1 + ([] : List Tb).length := by simp only [List.length_nil]; omega
      have g1 := get2a (P ++ Y.take t) [] (Y.drop (t + 1) ++ S) x y q1
      have g2 := get2b (P ++ Y.take t) [] (Y.drop (t + 1) ++ S) x y q2
      have g3 := swap2 (P ++ Y.take t) [] (Y.drop (t + 1) ++ S) x y q1 q2
      rw [← e1] at g1 g2 g3
      rw [← e2] at g3
      have hq := ih (t + 1) (by omega) (by omega)
      simp only at hq
      rw [← hkp] at hq
      rw [← hk] at htp' htp2 ⊢
      obtain ⟨V, hV⟩ : ∃ V, V = P ++ Y.take t ++ x :: (Y.drop t ++ S) := ⟨_, rfl⟩
      obtain ⟨V2, hV2⟩ : ∃ V, V = P ++ Y.take (t + 1) ++ x :: (Y.drop (t + 1) ++ S) := ⟨_, rfl⟩
      rw [← hV] at g1 g2 g3 ⊢
      rw [← hV2] at g3 hq
      have hVl : V.length = L := by rw [hV, e1]; simp only [List.length_append, List.length_cons, List.length_nil]; omega
      have hst := set_mapT V k kp x y
      rw [g3] at hst
      simp only [encT] at hst
      have h5 : k < V.length := (List.getElem?_eq_some_iff.1 g1).1
      have h6 : kp < V.length := (List.getElem?_eq_some_iff.1 g2).1
      have g1' : V[k] = x := (List.getElem?_eq_some_iff.1 g1).2
      have g2' : V[kp] = y := (List.getElem?_eq_some_iff.1 g2).2
      have h5' : k < L := by omega
      have h6' : kp < L := by omega
      have hne : ¬ k = kp := by omega
      have hwk : IntKind.i64.wrap ((k : Int) + 1) = (kp : Int) := by rw [wrap_small (by omega) (by omega)]; omega
      generalize a + p = ap at *
      (repeat (first | refine Run.adm rfl ?_ | refine Run.seq ?_ | (apply Run.opS rfl; (· (simp -implicitDefEqProofs [hwi, htp', htp2]; exact ⟨rfl, rfl⟩))) | (apply Run.condS; (· (simp -implicitDefEqProofs [hwi, htp', htp2]; exact rfl)))))
      refine Run.drawn prog_mixed ?_
      show RunD _ c73d1 [0, 1, 2, 3, 4, 5, 6, 7, 8, 9, 10, 11, 12, 13, 14, 15, 16, 17] [] _ _ _
      refine RunD.flow [0, 1, 2, 3, 4, 5, 6, 7, 8, 9, 10, 11, 12, 13, 14] (by kernel_rfl) (by decide +kernel) (by decide +kernel) (by decide) trivial ?_; (repeat (first | refine execQ_E rfl ?_ | (apply execQ_S rfl; (· (simp -implicitDefEqProofs [hwk, h5, h6, h5', h6', g1, g2, g1', g2', encT]; exact ⟨rfl, rfl⟩))))); intro hpo
      refine RunD.alt1 15 (by kernel_rfl) (by kernel_rfl) hpo ?_
      (apply AStep.S rfl; (· (simp -implicitDefEqProofs [h5, h5', g1, g1', encT]; exact ⟨rfl, rfl⟩)))
      refine RunD.flow [16] (by kernel_rfl) (by decide +kernel) (by decide +kernel) (by decide) (by show PendOk _ c73d1 _ _ [4, 3, 2]; (repeat (first | exact PendOk.nil | (refine PendOk.S rfl rfl ?_ ?_; (· (simp -implicitDefEqProofs [hwk]; done)))))) ?_; (repeat (first | refine execQ_E rfl ?_ | (apply execQ_S rfl; (· (simp -implicitDefEqProofs [h6, h6']; exact ⟨rfl, rfl⟩))))); intro hpo
      refine RunD.alt1 17 (by kernel_rfl) (by kernel_rfl) hpo ?_
      (apply AStep.S rfl; (· (simp -implicitDefEqProofs [h6, h6', g2, g2', hne, encT, List.getElem?_set]; exact ⟨rfl, rfl⟩)))
      refine RunD.fin (by kernel_rfl) (by trivial) ?_
      (repeat (first | refine Run.adm rfl ?_ | refine Run.seq ?_ | (apply Run.opS rfl; (· (simp -implicitDefEqProofs; exact ⟨rfl, rfl⟩))) | (apply Run.condS; (· (simp -implicitDefEqProofs; exact rfl)))))
      refine Run.mv [0] _ _ (by rfl) (by decide) ?_ ?_ hq
      · simp [hwk]
      · simp [hst]
    · obtain rfl : t = p := by omega
      have htp2 : ¬ a + t < a + t := by omega
      obtain ⟨V, hV⟩ : ∃ V, V = P ++ Y.take t ++ x :: (Y.drop t ++ S) := ⟨_, rfl⟩
      rw [← hV]
      generalize a + t = ap at *
      (repeat (first | refine Run.adm rfl ?_ | refine Run.seq ?_ | (apply Run.opS rfl; (· (simp -implicitDefEqProofs [hwi]; exact ⟨rfl, rfl⟩))) | (apply Run.condS; (· (simp -implicitDefEqProofs [hwi]; exact rfl)))))
      refine Run.retI Try.func73 r73_ok trivial (by simp [r73]; rfl) (by simp) ?_ (by simp) (by simp)
      refine ⟨rfl, Y.take t ++ x :: Y.drop t, ?_, srt_ins hs hq hlo hhi, by rw [hV]; simp⟩
      refine List.perm_middle.trans ?_
      rw [List.take_append_drop]; exact List.Perm.refl _

theorem sym2_tri (P X S : List Tb) (y : Tb) (hs : Srt X) (hx1 : X.length ≠ 1) (hl : (P ++ X ++ [y] ++ S).length ≤ 1000000) {a m b L : Nat} (ha : a = P.length) (hm : m = P.length + X.length) (hb : b = P.length + X.length + 1) (hL : L = (P ++ X ++ [y] ++ S).length) :
    Tri Try.prog 73 [.sl 0 0 L 4 none, .int .i64 a, .int .i64 m, .int .i64 b, .fn 50 []] [.arr ((P ++ X ++ [y] ++ S).map encT) 4] (MrgP P X [y] S) := by
  simp only [List.length_append, List.length_cons, List.length_nil] at hl hL
  refine Tri.of_run' Try.func73 rfl c73_ok (by simp [Try.ntmps73]) ?_
  have hw1 : IntKind.i64.wrap ((m : Int) - a) = (X.length : Int) := by rw [wrap_small (by omega) (by omega)]; omega
  have hw2 : IntKind.i64.wrap ((b : Int) - m) = 1 := by rw [wrap_small (by omega) (by omega)]; omega
  have hx1' : ¬ (X.length : Int) = 1 := by omega
  obtain ⟨W, hW⟩ : ∃ W, W = P ++ X ++ [y] ++ S := ⟨_, rfl⟩
  have hWl : W.length = L := by rw [hW]; simp only [List.length_append, List.length_cons, List.length_nil]; omega
  have gy : W[m]? = some y := by rw [hW, List.append_assoc]; exact get2a_one (P ++ X) S y (by simp; omega)
  have gx : ∀ s x, X[s]? = some x → W[a + s]? = some x := by
    intro s x hx
    have : s < X.length := (List.getElem?_eq_some_iff.1 hx).1
    rw [hW, List.append_assoc, List.append_assoc, List.getElem?_append_right (by omega), show a + s - P.length = s by omega, List.getElem?_append_left this]; exact hx
  rw [← hW]
  (repeat (first | refine Run.adm rfl ?_ | refine Run.seq ?_ | (apply Run.opS rfl; (· (simp -implicitDefEqProofs [hw1, hw2, hx1', hx1]; exact ⟨rfl, rfl⟩))) | (apply Run.condS; (· (simp -implicitDefEqProofs [hw1, hw2, hx1', hx1]; exact rfl)))))
  refine Run.loopC [0] (fun (q : Nat × Nat) => ([(0, .sl 0 0 L 4 none), (2, .int .i64 m), (4, .fn 50 []), (14, .int .i64 ((a + q.1 : Nat) : Int)), (15, .int .i64 ((a + q.2 : Nat) : Int))], [.arr (W.map encT) 4]))
    (fun q => q.1 ≤ q.2 ∧ q.2 ≤ X.length ∧ (∀ x, 0 < q.1 → X[q.1 - 1]? = some x → leT x y) ∧ (∀ x, X[q.2]? = some x → leT y x)) (fun q => q.2 - q.1) (0, X.length) (by simp) (by rfl) (by decide) (by simp [show m = a + X.length by omega]) (by simp) ?_
  rintro ⟨p, q⟩ ⟨hpq, hq, hlo, hhi⟩ ih
  simp only at hpq hq hlo hhi ih ⊢
  by_cases hlt : p < q
  · have hlt' : ((a + p : Nat) : Int) < ((a + q : Nat) : Int) := by omega
    have hlt2 : a + p < a + q := by omega
    obtain ⟨h, hh⟩ : ∃ h, h = (a + p + (a + q)) / 2 := ⟨_, rfl⟩
    obtain ⟨e1, e2, e3, e4, e5⟩ := half (a + p) (a + q) h hh (by omega)
    obtain ⟨s, hs'⟩ : ∃ s, h = a + s := ⟨h - a, by omega⟩
    have hsp : p ≤ s := by omega
    have hsq : s < q := by omega
    obtain ⟨x, hx, -, -, -⟩ := getL (l := X) (i := s) (by omega)
    have g2 := gx s x hx
    rw [← hs'] at g2
    have h5 : m < W.length := (List.getElem?_eq_some_iff.1 gy).1
    have h6 : h < W.length := (List.getElem?_eq_some_iff.1 g2).1
    have g1' : W[m] = y := (List.getElem?_eq_some_iff.1 gy).2
    have g2' : W[h] = x := (List.getElem?_eq_some_iff.1 g2).2
    have h5' : m < L := by omega
    have h6' : h < L := by omega
    have hor := fun H => order_at y x H
    simp only [encT] at hor
    generalize hmp : a + p = mp at *
    generalize hmq : a + q = mq at *
    (repeat (first | refine Run.adm rfl ?_ | refine Run.seq ?_ | (apply Run.opS rfl; (· (simp -implicitDefEqProofs [hlt', hlt2, e1, e2, e3, e4]; exact ⟨rfl, rfl⟩))) | (apply Run.condS; (· (simp -implicitDefEqProofs [hlt', hlt2, e1, e2, e3, e4]; exact rfl)))))
    refine Run.quietM prog_mixed (by kernel_rfl) [0] [(0, .sl 0 0 L 4 none), (2, .int .i64 m), (4, .fn 50 []), (14, .int .i64 mp), (15, .int .i64 mq), (16, .int .i64 h), (103, .bool (!aheadB y x))] [.arr (W.map encT) 4] (by rfl) (by decide) ?_ ?_
    · (repeat (first | refine execQ_E rfl ?_ | (apply execQ_S rfl; (· (simp -implicitDefEqProofs [h5, h6, h5', h6', gy, g2, g1', g2', encT]; exact ⟨rfl, rfl⟩)))))
      refine execQ_C rfl rfl rfl (hor _) ?_
      (repeat (first | refine execQ_E rfl ?_ | (apply execQ_S rfl; (· (simp -implicitDefEqProofs; exact ⟨rfl, rfl⟩)))))
      have := ordI_lt y x
      cases hxz : aheadB y x with
      | true => simp [this.2 hxz]
      | false => simp [show ¬ ordI y x < 0 from fun h => by rw [this.1 h] at hxz; cases hxz]
    cases hyx : aheadB y x with
    | false =>
      (repeat (first | refine Run.adm rfl ?_ | refine Run.seq ?_ | (apply Run.opS rfl; (· (simp -implicitDefEqProofs; exact ⟨rfl, rfl⟩))) | (apply Run.condS; (· (simp -implicitDefEqProofs; exact rfl)))))
      have hq2 := ih (s + 1, q) ⟨by simp only; omega, hq, fun z _ hz => by
        simp only [Nat.add_sub_cancel] at hz
        rw [hx] at hz; cases hz; exact hyx, hhi⟩ (by simp only; omega)
      simp only at hq2
      refine Run.mv [0] _ _ (by rfl) (by decide) ?_ ?_ hq2
      · simp [e5, ← hmq, show h + 1 = a + (s + 1) by omega]
      · simp
    | true =>
      (repeat (first | refine Run.adm rfl ?_ | refine Run.seq ?_ | (apply Run.opS rfl; (· (simp -implicitDefEqProofs; exact ⟨rfl, rfl⟩))) | (apply Run.condS; (· (simp -implicitDefEqProofs; exact rfl)))))
      have hq2 := ih (p, s) ⟨by simp only; omega, by simp only; omega, hlo, fun z hz => by
        simp only at hz
        rw [hx] at hz; cases hz; exact ahead_le hyx⟩ (by simp only; omega)
      simp only at hq2
      refine Run.mv [0] _ _ (by rfl) (by decide) ?_ ?_ hq2
      · simp [← hmp, hs']
      · simp
  · obtain rfl : p = q := by omega
    clear ih
    obtain ⟨i, hi⟩ : ∃ i, i = a + p := ⟨_, rfl⟩
    have hlt' : ¬ (i : Int) < i := by omega
    rw [← hi]
    (repeat (first | refine Run.adm rfl ?_ | refine Run.seq ?_ | (apply Run.opS rfl; (· (simp -implicitDefEqProofs; exact ⟨rfl, rfl⟩))) | (apply Run.condS; (· (simp -implicitDefEqProofs; exact rfl)))))
    refine Run.loopC [0] (fun (t : Nat) => ([(0, .sl 0 0 L 4 none), (14, .int .i64 i), (17, .int .i64 ((a + t : Nat) : Int))], [.arr ((P ++ X.take t ++ y :: (X.drop t ++ S)).map encT) 4])) (fun t => p ≤ t ∧ t ≤ X.length) (fun t => t) X.length (by simp; omega) (by rfl) (by decide) (by simp [show m = a + X.length by omega]) (by simp [hW]) ?_
    intro t ⟨hpt, ht⟩ ih
    by_cases htp : p < t
    · obtain ⟨u, rfl⟩ : ∃ u, t = u + 1 := ⟨t - 1, by omega⟩
      have htp' : (i : Int) < ((a + (u + 1) : Nat) : Int) := by omega
      have htp2 : i < a + (u + 1) := by omega
      obtain ⟨x, hx, -, hxd, -⟩ := getL (l := X) (i := u) (by omega)
      have hty : X.take (u + 1) = X.take u ++ [x] := by rw [List.take_add_one, hx]; rfl
      have htl : (X.take u).length = u := by rw [List.length_take]; omega
      have hdl : (X.drop (u + 1)).length = X.length - (u + 1) := List.length_drop ..
      have e1 : P ++ X.take (u + 1) ++ y :: (X.drop (u + 1) ++ S) = (P ++ X.take u) ++ x :: ([] ++ y :: (X.drop (u + 1) ++ S)) := by rw [hty]; simp
      have e2 : P ++ X.take u ++ y :: (X.drop u ++ S) = (P ++ X.take u) ++ y :: ([] ++ x :: (X.drop (u + 1) ++ S)) := by rw [hxd]; simp
      obtain ⟨km, hkm⟩ : ∃ km, km = a + u := ⟨_, rfl⟩
      obtain ⟨k, hk⟩ : ∃ k, k = a + (u + 1) := ⟨_, rfl⟩
      have q1 : km = (P ++ X.take u).length := by rw [List.length_append]; omega
      have q2 : k = (P ++ X.take u).length + 1 + ([] : List Tb).length := by simp only [List.length_nil]; omega
      have g1 := get2a (P ++ X.take u) [] (X.drop (u + 1) ++ S) x y q1
      have g2 := get2b (P ++ X.take u) [] (X.drop (u + 1) ++ S) x y q2
      have g3 := swap2 (P ++ X.take u) [] (X.drop (u + 1) ++ S) x y q1 q2
      rw [← e1] at g1 g2 g3
      rw [← e2] at g3
      have hq := ih u (by omega) (by omega)
      simp only at hq
      rw [← hkm] at hq
      rw [← hk] at htp' htp2 ⊢
      obtain ⟨V, hV⟩ : ∃ V, V = P ++ X.take (u + 1) ++ y :: (X.drop (u + 1) ++ S) := ⟨_, rfl⟩
      obtain ⟨V2, hV2⟩ : ∃ V, V = P ++ X.take u ++ y :: (X.drop u ++ S) := ⟨_, rfl⟩
      rw [← hV] at g1 g2 g3 ⊢
      rw [← hV2] at g3 hq
      have hVl : V.length = L := by rw [hV, e1]; simp only [List.length_append, List.length_cons, List.length_nil]; omega
      have hne : ¬ k = km := by omega
      have hst := set_mapT V k km y x
      rw [show (V.set k x).set km y = (V.set km y).set k x from List.set_comm _ _ (by omega), g3] at hst
      simp only [encT] at hst
      have h5 : km < V.length := (List.getElem?_eq_some_iff.1 g1).1
      have h6 : k < V.length := (List.getElem?_eq_some_iff.1 g2).1
      have g1' : V[km] = x := (List.getElem?_eq_some_iff.1 g1).2
      have g2' : V[k] = y := (List.getElem?_eq_some_iff.1 g2).2
      have h5' : km < L := by omega
      have h6' : k < L := by omega
      have hwk : IntKind.i64.wrap ((k : Int) - 1) = (km : Int) := by rw [wrap_small (by omega) (by omega)]; omega
      (repeat (first | refine Run.adm rfl ?_ | refine Run.seq ?_ | (apply Run.opS rfl; (· (simp -implicitDefEqProofs [htp', htp2]; exact ⟨rfl, rfl⟩))) | (apply Run.condS; (· (simp -implicitDefEqProofs [htp', htp2]; exact rfl)))))
      refine Run.drawn prog_mixed ?_
      show RunD _ c73d3 [0, 1, 2, 3, 4, 5, 6, 7, 8, 9, 10, 11, 12, 13, 14, 15, 16, 17] [] _ _ _
      refine RunD.flow [0, 1, 2, 3, 4, 5, 6, 7, 8, 9, 10, 11, 12, 13, 14] (by kernel_rfl) (by decide +kernel) (by decide +kernel) (by decide) trivial ?_; (repeat (first | refine execQ_E rfl ?_ | (apply execQ_S rfl; (· (simp -implicitDefEqProofs [hwk, h5, h6, h5', h6', g1, g2, g1', g2', encT]; exact ⟨rfl, rfl⟩))))); intro hpo
      refine RunD.alt1 15 (by kernel_rfl) (by kernel_rfl) hpo ?_
      (apply AStep.S rfl; (· (simp -implicitDefEqProofs [h6, h6', g2, g2', encT]; exact ⟨rfl, rfl⟩)))
      refine RunD.flow [16] (by kernel_rfl) (by decide +kernel) (by decide +kernel) (by decide) (by show PendOk _ c73d3 _ _ [4, 3, 2]; (repeat (first | exact PendOk.nil | (refine PendOk.S rfl rfl ?_ ?_; (· (simp -implicitDefEqProofs [hwk]; done)))))) ?_; (repeat (first | refine execQ_E rfl ?_ | (apply execQ_S rfl; (· (simp -implicitDefEqProofs [h5, h5']; exact ⟨rfl, rfl⟩))))); intro hpo
      refine RunD.alt1 17 (by kernel_rfl) (by kernel_rfl) hpo ?_
      (apply AStep.S rfl; (· (simp -implicitDefEqProofs [h5, h5', g1, g1', hne, encT, List.getElem?_set]; exact ⟨rfl, rfl⟩)))
      refine RunD.fin (by kernel_rfl) (by trivial) ?_
      (repeat (first | refine Run.adm rfl ?_ | refine Run.seq ?_ | (apply Run.opS rfl; (· (simp -implicitDefEqProofs; exact ⟨rfl, rfl⟩))) | (apply Run.condS; (· (simp -implicitDefEqProofs; exact rfl)))))
      refine Run.mv [0] _ _ (by rfl) (by decide) ?_ ?_ hq
      · simp [hwk]
      · simp [hst]
    · obtain rfl : t = p := by omega
      obtain ⟨V, hV⟩ : ∃ V, V = P ++ X.take t ++ y :: (X.drop t ++ S) := ⟨_, rfl⟩
      rw [← hV, ← hi]
      (repeat (first | refine Run.adm rfl ?_ | refine Run.seq ?_ | (apply Run.opS rfl; (· (simp -implicitDefEqProofs; exact ⟨rfl, rfl⟩))) | (apply Run.condS; (· (simp -implicitDefEqProofs; exact rfl)))))
      refine Run.retI Try.func73 r73_ok trivial (by simp [r73]; rfl) (by simp) ?_ (by simp) (by simp)
      refine ⟨rfl, X.take t ++ y :: X.drop t, ?_, srt_ins hs hq hlo hhi, by rw [hV]; simp⟩
      refine List.perm_middle.trans ?_
      rw [List.take_append_drop]
      exact List.perm_append_comm (l₁ := [y]) (l₂ := X)

end Go.Proofs.Ytpipgcmiaccdkaa
