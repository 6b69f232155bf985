/-
  Layer 12, part U: the program's Overlap.
-/
import Derived.Test.YtpipgcmiaccdkaaManT
namespace Go.Proofs.Ytpipgcmiaccdkaa
open Sx Go
set_option maxRecDepth 100000
set_option linter.unusedSimpArgs false
set_option linter.unusedVariables false
set_option linter.unnecessarySimpa false
attribute [local simp] stepV condR boundsC appendG appendO copyV srcC guardB isCall opStep Opd.ev put readAt aBin aUn args0 V.celled V.ones V.one V.cells putAt bounds bound1 elemsOf srcOf appendV fillAt fillEl V.pures V.pure unwind evs ARes.ev mkRes V.ren V.renL O.ren eqCells eq1 aEq aMM hasTy hasTyN okTy mmGo Known HLe OLe VsLe.refl VLe.refl VLe.cap Stay VsLe V.frz V.frzL O.frz fr clearV rn KnownR Objs OLeO ObjsE nm back setAll ren_ite take_map_len List.take_of_length_le
attribute [local simp ↓] upd_app tl_cons tl_nil
attribute [local simp] encT_ren encT_ones encT_len encT_take encN_ren encN_ones encN_len encN_take
attribute [local simp] encE_ren encE_len encE_take encZ_ren encZ_len encZ_take

theorem clone_tri (l : List Tb) (hll : l.length ≤ 1000000) : Tri Try.prog 55 [.vs (l.map encT) 4] [] (fun v H => v = .sl 0 0 l.length 4 none ∧ H = [.arr (l.map encT) 4]) := by
  refine Tri.of_run' Try.func55 rfl c55_ok (by simp [Try.ntmps55]) ?_
  cases l with
  | nil =>
    (repeat (first | refine Run.adm rfl ?_ | refine Run.seq ?_ | (apply Run.opS rfl; (· (simp -implicitDefEqProofs; exact ⟨rfl, rfl⟩))) | (apply Run.condS; (· (simp -implicitDefEqProofs; exact rfl)))))
    refine Run.opEqN rfl rfl (by simpa using vs_slice) (by simp) ?_
    rintro (_ | _)
    · (repeat (first | refine Run.adm rfl ?_ | refine Run.seq ?_ | (apply Run.opS rfl; (· (simp -implicitDefEqProofs; exact ⟨rfl, rfl⟩))) | (apply Run.condS; (· (simp -implicitDefEqProofs; exact rfl)))))
      refine Run.mv [1] [(2, .sl 0 0 0 4 none)] [.arr [] 4] (by rfl) (by decide) (by simp -implicitDefEqProofs) (by simp -implicitDefEqProofs) ?_
      refine Run.retI Try.func55 r55_ok trivial (by simp -implicitDefEqProofs [r55]; rfl) (by simp ) ?_ (by simp -implicitDefEqProofs ) (by simp -implicitDefEqProofs )
      simp
    · (repeat (first | refine Run.adm rfl ?_ | refine Run.seq ?_ | (apply Run.opS rfl; (· (simp -implicitDefEqProofs; exact ⟨rfl, rfl⟩))) | (apply Run.condS; (· (simp -implicitDefEqProofs; exact rfl)))))
      refine Run.nilA 2 4 (by simp) ?_
      refine Run.mv [0] [(2, .sl 0 0 0 4 none)] [.arr [] 4] (by rfl) (by decide) (by simp -implicitDefEqProofs) (by simp -implicitDefEqProofs) ?_
      refine Run.retI Try.func55 r55_ok trivial (by simp -implicitDefEqProofs [r55]; rfl) (by simp ) ?_ (by simp -implicitDefEqProofs ) (by simp -implicitDefEqProofs )
      simp
  | cons x r =>
    have hb : (r.length + 1) * 48 ≤ 70368744177664 := by simp only [List.length_cons] at hll; omega
    (repeat (first | refine Run.adm rfl ?_ | refine Run.seq ?_ | (apply Run.opS rfl; (· (simp -implicitDefEqProofs [hb]; exact ⟨rfl, rfl⟩))) | (apply Run.condS; (· (simp -implicitDefEqProofs [hb]; exact rfl)))))
    refine Run.mv [1] [(2, .sl 0 0 (r.length + 1) 4 none)] [.arr (encT x :: r.map encT) 4] (by rfl) (by decide) (by simp -implicitDefEqProofs) (by simp -implicitDefEqProofs) ?_
    refine Run.retI Try.func55 r55_ok trivial (by simp -implicitDefEqProofs [r55]; rfl) (by simp ) ?_ (by simp -implicitDefEqProofs ) (by simp -implicitDefEqProofs )
    simp

theorem ovc_tri (t : Tb) (lv : Int) (lo hi : Bs) : Tri Try.prog 56 [.agg (encT t), .ptr 0 0, .ptr 1 0, .ptr 2 0] [.row [.int .i64 lv], .row [.str lo], .row [.str hi]]
    (fun v H => v = .bool (!ovB lv lo hi t) ∧ H = [.row [.int .i64 lv], .row [.str lo], .row [.str hi]]) := by
  refine Tri.of_run' Try.func56 rfl c56_ok (by simp [Try.ntmps56]) ?_
  by_cases c1 : t.level = lv
  rotate_left
  · (repeat (first | refine Run.adm rfl ?_ | refine Run.seq ?_ | (apply Run.opS rfl; (· (simp -implicitDefEqProofs [encT, c1]; exact ⟨rfl, rfl⟩))) | (apply Run.condS; (· (simp -implicitDefEqProofs [encT, c1]; exact rfl)))))
    refine Run.mv [0, 1, 2] [(5, .bool (!ovB lv lo hi t))] [.row [.int .i64 lv], .row [.str lo], .row [.str hi]] (by rfl) (by decide) (by simp -implicitDefEqProofs [ovB, c1]) (by simp -implicitDefEqProofs [ovB, c1]) ?_
    refine Run.retI Try.func56 r56_ok trivial (by simp -implicitDefEqProofs [r56]; rfl) (by simp ) ?_ (by simp -implicitDefEqProofs ) (by simp -implicitDefEqProofs )
    simp
  cases c2 : Op.bytesLess t.hi lo with
  | true =>
    (repeat (first | refine Run.adm rfl ?_ | refine Run.seq ?_ | (apply Run.opS rfl; (· (simp -implicitDefEqProofs [encT, c1, c2]; exact ⟨rfl, rfl⟩))) | (apply Run.condS; (· (simp -implicitDefEqProofs [encT, c1, c2]; exact rfl)))))
    refine Run.mv [0, 1, 2] [(5, .bool (!ovB lv lo hi t))] [.row [.int .i64 lv], .row [.str lo], .row [.str hi]] (by rfl) (by decide) (by simp -implicitDefEqProofs [ovB, c1, c2]) (by simp -implicitDefEqProofs [ovB, c1, c2]) ?_
    refine Run.retI Try.func56 r56_ok trivial (by simp -implicitDefEqProofs [r56]; rfl) (by simp ) ?_ (by simp -implicitDefEqProofs ) (by simp -implicitDefEqProofs )
    simp
  | false =>
    (repeat (first | refine Run.adm rfl ?_ | refine Run.seq ?_ | (apply Run.opS rfl; (· (simp -implicitDefEqProofs [encT, c1, c2, bless_le]; exact ⟨rfl, rfl⟩))) | (apply Run.condS; (· (simp -implicitDefEqProofs [encT, c1, c2, bless_le]; exact rfl)))))
    refine Run.mv [0, 1, 2] [(5, .bool (!ovB lv lo hi t))] [.row [.int .i64 lv], .row [.str lo], .row [.str hi]] (by rfl) (by decide) (by simp -implicitDefEqProofs [ovB, c1, c2]) (by simp -implicitDefEqProofs [ovB, c1, c2]) ?_
    refine Run.retI Try.func56 r56_ok trivial (by simp -implicitDefEqProofs [r56]; rfl) (by simp ) ?_ (by simp -implicitDefEqProofs ) (by simp -implicitDefEqProofs )
    simp

/-- the cells of Overlap's closure -/
def ovH (lv : Int) (lo hi : Bs) : List O := [.row [.int .i64 lv], .row [.str lo], .row [.str hi]]

theorem idxO_tri (l : List Tb) (lv : Int) (lo hi : Bs) (hll : l.length ≤ 1000000) : Tri Try.prog 64 [.sl 3 0 l.length 4 none, .fn 56 [.ptr 0 0, .ptr 1 0, .ptr 2 0]] (ovH lv lo hi ++ [.arr (l.map encT) 4])
    (fun v H => v = .int .i64 (idxI (l.findIdx? (fun t => !ovB lv lo hi t))) ∧ H = ovH lv lo hi ++ [.arr (l.map encT) 4]) := by
  refine Tri.of_run' Try.func64 rfl c64_ok (by simp [Try.ntmps64]) ?_
  unfold ovH
  (repeat (first | refine Run.adm rfl ?_ | refine Run.seq ?_ | (apply Run.opS rfl; (· (simp -implicitDefEqProofs; exact ⟨rfl, rfl⟩))) | (apply Run.condS; (· (simp -implicitDefEqProofs; exact rfl)))))
  refine Run.loopC [0, 1, 2, 3] (fun (i : Nat) => ([(0, .sl 3 0 l.length 4 none), (1, .fn 56 [.ptr 0 0, .ptr 1 0, .ptr 2 0]), (7, .int .i64 l.length), (8, .int .i64 i)], [.row [.int .i64 lv], .row [.str lo], .row [.str hi], .arr (l.map encT) 4])) (fun i => i ≤ l.length ∧ l.findIdx? (fun t => !ovB lv lo hi t) = ((l.drop i).findIdx? (fun t => !ovB lv lo hi t)).map (· + i)) (fun i => l.length - i) 0 (by simp) (by rfl) (by decide) (by simp) (by simp) ?_
  rintro i ⟨hi', hgo⟩ ih
  by_cases hlt : i < l.length
  · obtain ⟨e, he, hei, hdrop, -⟩ := getL hlt
    have hw := wrap_small (n := (i : Int) + 1) (by omega) (by omega)
    rw [hdrop, List.findIdx?_cons] at hgo
    have hle := ovc_tri e lv lo hi
    simp only [encT] at hle
    (repeat (first | refine Run.adm rfl ?_ | refine Run.seq ?_ | (apply Run.opS rfl; (· (simp -implicitDefEqProofs [hlt, he, hei, encT]; exact ⟨rfl, rfl⟩))) | (apply Run.condS; (· (simp -implicitDefEqProofs [hlt, he, hei, encT]; exact rfl)))))
    refine Run.opF [0, 1, 2] (hle) rfl (by simp -implicitDefEqProofs) rfl (by simp -implicitDefEqProofs) (by decide) (by rfl) (by simp -implicitDefEqProofs) ?_
    rintro v0 Hs' ⟨rfl, rfl⟩
    cases hc : ovB lv lo hi e with
    | false =>
      (repeat (first | refine Run.adm rfl ?_ | refine Run.seq ?_ | (apply Run.opS rfl; (· (simp -implicitDefEqProofs [hc]; exact ⟨rfl, rfl⟩))) | (apply Run.condS; (· (simp -implicitDefEqProofs [hc]; exact rfl)))))
      refine Run.mv [0, 1, 2, 3] [(4, .int .i64 i)] [.row [.int .i64 lv], .row [.str lo], .row [.str hi], .arr (l.map encT) 4] (by rfl) (by decide) (by simp -implicitDefEqProofs) (by simp -implicitDefEqProofs) ?_
      refine Run.retI Try.func64 r64_ok trivial (by simp -implicitDefEqProofs [r64]; rfl) (by simp ) ?_ (by simp -implicitDefEqProofs ) (by simp -implicitDefEqProofs )
      rw [hgo]; simp [idxI, hc]
    | true =>
      (repeat (first | refine Run.adm rfl ?_ | refine Run.seq ?_ | (apply Run.opS rfl; (· (simp -implicitDefEqProofs [hc]; exact ⟨rfl, rfl⟩))) | (apply Run.condS; (· (simp -implicitDefEqProofs [hc]; exact rfl)))))
      refine Run.mv [0, 1, 2, 3] _ _ (by rfl) (by decide) (by simp -implicitDefEqProofs [hw]) (by simp -implicitDefEqProofs [hw]) (ih (i + 1) ?_ ?_)
      · refine ⟨by omega, ?_⟩
        rw [hgo]
        simp only [hc, Bool.not_true, Bool.false_eq_true, if_false, Option.map_map]
        congr 1; funext x; simp; omega
      · omega
  · have : i = l.length := by omega
    subst this
    (repeat (first | refine Run.adm rfl ?_ | refine Run.seq ?_ | (apply Run.opS rfl; (· (simp -implicitDefEqProofs; exact ⟨rfl, rfl⟩))) | (apply Run.condS; (· (simp -implicitDefEqProofs; exact rfl)))))
    refine Run.mv [0, 1, 2, 3] [(4, .int .i64 (-1))] [.row [.int .i64 lv], .row [.str lo], .row [.str hi], .arr (l.map encT) 4] (by rfl) (by decide) (by simp -implicitDefEqProofs) (by simp -implicitDefEqProofs) ?_
    refine Run.retI Try.func64 r64_ok trivial (by simp -implicitDefEqProofs [r64]; rfl) (by simp ) ?_ (by simp -implicitDefEqProofs ) (by simp -implicitDefEqProofs )
    rw [hgo, List.drop_length]; simp [idxI]

/-- which are ahead of the first that does not stay -/
theorem filt_first {α : Type} {p : α → Bool} {l : List α} {i : Nat} (h : l.findIdx? (fun x => !p x) = some i) : i < l.length ∧ l.take i = (l.take (i + 1)).filter p := by
  obtain ⟨h1, h2, h3⟩ := List.findIdx?_eq_some_iff_getElem.1 h
  refine ⟨h1, ?_⟩
  rw [List.take_add_one, List.getElem?_eq_getElem h1, Option.toList_some, List.filter_append, List.filter_eq_self.2]
  · have : p l[i] = false := by simpa using h2
    simp [this]
  · intro a ha
    obtain ⟨j, hj, rfl⟩ := List.mem_iff_getElem.1 ha
    rw [List.length_take] at hj
    have := h3 j (by omega)
    simpa using this
theorem filt_none {α : Type} {p : α → Bool} {l : List α} (h : l.findIdx? (fun x => !p x) = none) : l.filter p = l := by
  rw [List.findIdx?_eq_none_iff] at h
  exact List.filter_eq_self.2 fun a ha => by simpa using h a ha

theorem del_tri (l : List Tb) (lv : Int) (lo hj0 : Bs) (hll : l.length ≤ 1000000) : Tri Try.prog 54 [.sl 3 0 l.length 4 none, .fn 56 [.ptr 0 0, .ptr 1 0, .ptr 2 0]] (ovH lv lo hj0 ++ [.arr (l.map encT) 4])
    (fun v H => v = .sl 3 0 (ovl l lv lo hj0).length 4 none ∧ H = ovH lv lo hj0 ++ [.arr ((ovl l lv lo hj0).map encT) 4]) := by
  refine Tri.of_run' Try.func54 rfl c54_ok (by simp [Try.ntmps54]) ?_
  unfold ovH
  have hix := idxO_tri l lv lo hj0 hll
  unfold ovH at hix
  (repeat (first | refine Run.adm rfl ?_ | refine Run.seq ?_ | (apply Run.opS rfl; (· (simp -implicitDefEqProofs; exact ⟨rfl, rfl⟩))) | (apply Run.condS; (· (simp -implicitDefEqProofs; exact rfl)))))
  refine Run.opC rfl rfl rfl hix ?_
  rintro v h' ⟨rfl, rfl⟩
  cases hf : l.findIdx? (fun t => !ovB lv lo hj0 t) with
  | none =>
    have hov : ovl l lv lo hj0 = l := filt_none hf
    (repeat (first | refine Run.adm rfl ?_ | refine Run.seq ?_ | (apply Run.opS rfl; (· (simp -implicitDefEqProofs [hf, idxI]; exact ⟨rfl, rfl⟩))) | (apply Run.condS; (· (simp -implicitDefEqProofs [hf, idxI]; exact rfl)))))
    refine Run.mv [0, 1, 2, 3] [(4, .sl 3 0 l.length 4 none)] [.row [.int .i64 lv], .row [.str lo], .row [.str hj0], .arr (l.map encT) 4] (by rfl) (by decide) (by simp -implicitDefEqProofs) (by simp -implicitDefEqProofs) ?_
    refine Run.retI Try.func54 r54_ok trivial (by simp -implicitDefEqProofs [r54]; rfl) (by simp ) ?_ (by simp -implicitDefEqProofs ) (by simp -implicitDefEqProofs )
    simp [hov]
  | some i0 =>
    obtain ⟨hi0, hft⟩ := filt_first hf
    have hne : ¬ (i0 : Int) = -1 := by omega
    have hw0 := wrap_small (n := (i0 : Int) + 1) (by omega) (by omega)
    (repeat (first | refine Run.adm rfl ?_ | refine Run.seq ?_ | (apply Run.opS rfl; (· (simp -implicitDefEqProofs [hf, idxI, hne, hw0]; exact ⟨rfl, rfl⟩))) | (apply Run.condS; (· (simp -implicitDefEqProofs [hf, idxI, hne, hw0]; exact rfl)))))
    refine Run.loopC [0, 1, 2, 3] (fun (j : Nat) => ([(0, .sl 3 0 l.length 4 none), (1, .fn 56 [.ptr 0 0, .ptr 1 0, .ptr 2 0]), (5, .int .i64 ((l.take j).filter (ovB lv lo hj0)).length), (6, .int .i64 j)], [.row [.int .i64 lv], .row [.str lo], .row [.str hj0], .arr (((l.take j).filter (ovB lv lo hj0) ++ l.drop ((l.take j).filter (ovB lv lo hj0)).length).map encT) 4])) (fun j => j ≤ l.length ∧ ((l.take j).filter (ovB lv lo hj0)).length < j) (fun j => l.length - j) (i0 + 1) ⟨by omega, by rw [← hft, List.length_take]; omega⟩ (by rfl) (by decide) ?_ ?_ ?_
    · simp only [← hft, List.length_take]
      have : min i0 l.length = i0 := by omega
      simp [this]
    · simp only [← hft, List.length_take]
      have : min i0 l.length = i0 := by omega
      rw [this, List.take_append_drop]
      simp
    rintro j ⟨hj, hlj⟩ ih
    obtain ⟨X, hX⟩ : ∃ X, X = (l.take j).filter (ovB lv lo hj0) := ⟨_, rfl⟩
    rw [← hX] at hlj ⊢
    obtain ⟨W, hW⟩ : ∃ W, W = X ++ l.drop X.length := ⟨_, rfl⟩
    have hWl : W.length = l.length := by rw [hW, List.length_append, List.length_drop]; omega
    rw [← hW]
    by_cases hlt : j < l.length
    · obtain ⟨e, he, hei, -, -⟩ := getL hlt
      have hlt' : (j : Int) < l.length := by omega
      have hw := wrap_small (n := (j : Int) + 1) (by omega) (by omega)
      have hwi := wrap_small (n := (X.length : Int) + 1) (by omega) (by omega)
      have hnx : (l.take (j + 1)).filter (ovB lv lo hj0) = X ++ (if ovB lv lo hj0 e = true then [e] else []) := by
        rw [List.take_add_one, he, Option.toList_some, List.filter_append, ← hX]
        congr 1
        cases h : ovB lv lo hj0 e <;> simp [h]
      have hWe : W[j]? = some e := by rw [hW, List.getElem?_append_right (by omega), List.getElem?_drop, ← he]; congr 1; omega
      have hjW : j < W.length := by omega
      have hWj : W[j] = e := (List.getElem?_eq_some_iff.1 hWe).2
      have hle := ovc_tri e lv lo hj0
      simp only [encT] at hle
      have ihn := ih (j + 1)
      simp only [hnx] at ihn
      clear ih
      (repeat (first | refine Run.adm rfl ?_ | refine Run.seq ?_ | (apply Run.opS rfl; (· (simp -implicitDefEqProofs [hlt, hlt', hWe, hjW, hWj, encT]; exact ⟨rfl, rfl⟩))) | (apply Run.condS; (· (simp -implicitDefEqProofs [hlt, hlt', hWe, hjW, hWj, encT]; exact rfl)))))
      refine Run.opF [0, 1, 2] (hle) rfl (by simp -implicitDefEqProofs) rfl (by simp -implicitDefEqProofs) (by decide) (by rfl) (by simp -implicitDefEqProofs) ?_
      rintro v0 Hs' ⟨rfl, rfl⟩
      cases hc : ovB lv lo hj0 e with
      | false =>
        simp only [hc, Bool.false_eq_true, if_false, List.append_nil] at ihn
        rw [← hW] at ihn
        (repeat (first | refine Run.adm rfl ?_ | refine Run.seq ?_ | (apply Run.opS rfl; (· (simp -implicitDefEqProofs [hc]; exact ⟨rfl, rfl⟩))) | (apply Run.condS; (· (simp -implicitDefEqProofs [hc]; exact rfl)))))
        refine Run.mv [0, 1, 2, 3] _ _ (by rfl) (by decide) ?_ ?_ (ihn ⟨by omega, by omega⟩ (by omega))
        · simp [hw]
        · simp
      | true =>
        simp only [hc, if_true, List.length_append, List.length_cons, List.length_nil, Nat.zero_add] at ihn
        have hset : W.set X.length e = X ++ [e] ++ l.drop (X.length + 1) := by
          rw [hW, List.set_append_right _ _ (Nat.le_refl _), Nat.sub_self, List.drop_eq_getElem_cons (by omega : X.length < l.length), List.set_cons_zero]
          simp
        rw [← hset] at ihn
        have hsm : (W.map encT).set X.length [V.int .i64 e.id, V.int .i64 e.level, V.str e.lo, V.str e.hi] = (W.set X.length e).map encT := by rw [List.map_set]; rfl
        obtain ⟨i, hi⟩ : ∃ i, i = X.length := ⟨_, rfl⟩
        have hil : i < l.length := by omega
        have hil' : (i : Int) < l.length := by omega
        rw [← hi] at ihn hsm hwi ⊢
        obtain ⟨W2, hW2⟩ : ∃ W2, W2 = W.set i e := ⟨_, rfl⟩
        rw [← hW2] at ihn hsm
        obtain ⟨y, hy, hyi, -, -⟩ := getL (l := W) (i := i) (by omega)
        have hiW : i < W.length := by omega
        have hdy : (encT y).drop 4 = [] := rfl
        (repeat (first | refine Run.adm rfl ?_ | refine Run.seq ?_ | (apply Run.opS rfl; (· (simp -implicitDefEqProofs [hc, hil, hil', hsm, hy, hyi, hiW, hdy]; exact ⟨rfl, rfl⟩))) | (apply Run.condS; (· (simp -implicitDefEqProofs [hc, hil, hil', hsm, hy, hyi, hiW, hdy]; exact rfl)))))
        refine Run.mv [0, 1, 2, 3] _ _ (by rfl) (by decide) ?_ ?_ (ihn ⟨by omega, by omega⟩ (by omega))
        · simp [hw, hwi]
        · simp [hdy, hsm]
    · have : j = l.length := by omega
      subst this
      rw [List.take_length] at hX
      have hX' : X = ovl l lv lo hj0 := hX
      clear ih
      have htk : W.take X.length = X := by rw [hW, List.take_left']; rfl
      rw [← hX']
      obtain ⟨i, hi⟩ : ∃ i, i = X.length := ⟨_, rfl⟩
      rw [← hi] at htk ⊢
      have hil : i ≤ l.length := by omega
      have hil' : (i : Int) ≤ l.length := by omega
      have hsn : i + (l.length - i) = l.length := by omega
      (repeat (first | refine Run.adm rfl ?_ | refine Run.seq ?_ | (apply Run.opS rfl; (· (simp -implicitDefEqProofs [hil, hil', hWl, hsn]; exact ⟨rfl, rfl⟩))) | (apply Run.condS; (· (simp -implicitDefEqProofs [hil, hil', hWl, hsn]; exact rfl)))))
      refine Run.leS 3 i rfl ?_
      have htk2 : ∀ R, List.take i (List.take i (W.map encT) ++ R) = X.map encT := fun R => by
        rw [← List.map_take, htk, List.take_left' (by rw [List.length_map, hi])]
      refine Run.mv [0, 1, 2, 3] [(4, .sl 3 0 i 4 none)] [.row [.int .i64 lv], .row [.str lo], .row [.str hj0], .arr (X.map encT) 4] (by rfl) (by decide) (by simp -implicitDefEqProofs [htk2]) (by simp -implicitDefEqProofs [htk2]) ?_
      refine Run.retI Try.func54 r54_ok trivial (by simp -implicitDefEqProofs [r54]; rfl) (by simp ) ?_ (by simp -implicitDefEqProofs ) (by simp -implicitDefEqProofs )
      simp

theorem over_tri (l : List Tb) (lg nx lv : Int) (lo hi : Bs) (hll : l.length ≤ 1000000) : Tri Try.prog 22 [.agg [.vs (l.map encT) 4, .int .i64 lg, .int .i64 nx], .int .i64 lv, .str lo, .str hi] [] (fun v H => v = .vs ((ovl l lv lo hi).map encT) 4 ∧ H = []) := by
  refine Tri.of_run' Try.func22 rfl c22_ok (by simp [Try.ntmps22]) ?_
  (repeat (first | refine Run.adm rfl ?_ | refine Run.seq ?_ | (apply Run.opS rfl; (· (simp -implicitDefEqProofs; exact ⟨rfl, rfl⟩))) | (apply Run.condS; (· (simp -implicitDefEqProofs; exact rfl)))))
  refine Run.opF [] (clone_tri l hll) rfl (by simp -implicitDefEqProofs) rfl (by simp -implicitDefEqProofs) (by decide) (by rfl) (by simp -implicitDefEqProofs) ?_
  rintro v0 Hs' ⟨rfl, rfl⟩
  have hd := del_tri l lv lo hi hll
  unfold ovH at hd
  (repeat (first | refine Run.adm rfl ?_ | refine Run.seq ?_ | (apply Run.opS rfl; (· (simp -implicitDefEqProofs; exact ⟨rfl, rfl⟩))) | (apply Run.condS; (· (simp -implicitDefEqProofs; exact rfl)))))
  refine Run.opF [1, 2, 3, 4] (hd) rfl (by simp -implicitDefEqProofs) rfl (by simp -implicitDefEqProofs) (by decide) (by rfl) (by simp -implicitDefEqProofs) ?_
  rintro v0 Hs' ⟨rfl, rfl⟩
  generalize ovl l lv lo hi = o
  (repeat (first | refine Run.adm rfl ?_ | refine Run.seq ?_ | (apply Run.opS rfl; (· (simp -implicitDefEqProofs; exact ⟨rfl, rfl⟩))) | (apply Run.condS; (· (simp -implicitDefEqProofs; exact rfl)))))
  refine Run.freeze 4 (es := o.map encT) (sz := 4) (by simp [ovH]) ?_
  refine Run.mv [] [(8, .vs (o.map encT) 4)] [] (by rfl) (by decide) (by simp -implicitDefEqProofs) (by simp -implicitDefEqProofs) ?_
  refine Run.retI Try.func22 r22_ok trivial (by simp -implicitDefEqProofs [r22]; rfl) (by simp ) ?_ (by simp -implicitDefEqProofs ) (by simp -implicitDefEqProofs )
  simp
theorem over_at (l : List Tb) (lg nx lv : Int) (lo hi : Bs) (hll : l.length ≤ 1000000) (H : List O) : Tri Try.prog 22 [.agg [.vs (l.map encT) 4, .int .i64 lg, .int .i64 nx], .int .i64 lv, .str lo, .str hi] H (fun v H' => v = .vs ((ovl l lv lo hi).map encT) 4 ∧ H' = H) := (over_tri l lg nx lv lo hi hll).any (fun v ρ h => by rw [h]; rfl) (fun ρ => by simp [V.renL, V.ren]) H
theorem rover_at (l : List Tb) (lg nx lv : Int) (lo hi : Bs) (hll : l.length ≤ 1000000) (H : List O) : Tri Try.prog 23 [.agg [.vs (l.map encT) 4, .int .i64 lg, .int .i64 nx], .int .i64 lv, .str lo, .str hi] H (fun v H' => v = .vs ((ovl l lv lo hi).map encT) 4 ∧ H' = H) := (rover_tri l lg nx lv lo hi hll).any (fun v ρ h => by rw [h]; rfl) (fun ρ => by simp [V.renL, V.ren]) H

end Go.Proofs.Ytpipgcmiaccdkaa
