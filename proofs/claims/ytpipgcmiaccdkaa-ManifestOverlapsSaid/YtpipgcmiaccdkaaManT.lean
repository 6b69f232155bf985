/-
  Layer 12, part T: the document's find, put, apart.
-/
import Derived.Test.YtpipgcmiaccdkaaManS
namespace Go.Proofs.Ytpipgcmiaccdkaa
open Sx Go
set_option maxRecDepth 100000
set_option linter.unusedSimpArgs false
set_option linter.unusedVariables false
set_option linter.unnecessarySimpa false
attribute [local simp] stepV condR boundsC appendG appendO copyV srcC guardB isCall opStep Opd.ev put readAt aBin aUn args0 V.celled V.ones V.one V.cells putAt bounds bound1 elemsOf srcOf appendV fillAt fillEl V.pures V.pure unwind evs ARes.ev mkRes V.ren V.renL O.ren eqCells eq1 aEq aMM hasTy hasTyN okTy mmGo Known HLe OLe VsLe.refl VLe.refl VLe.cap Stay VsLe V.frz V.frzL O.frz fr clearV rn KnownR Objs OLeO ObjsE nm back setAll ren_ite take_map_len List.take_of_length_le
attribute [local simp ↓] upd_app tl_cons tl_nil
attribute [local simp] encT_ren encT_ones encT_len encT_take encN_ren encN_ones encN_len encN_take
attribute [local simp] encE_ren encE_len encE_take encZ_ren encZ_len encZ_take

theorem ahead_tri (a b : Tb) : Tri Try.prog 69 [.agg (encT a), .agg (encT b)] [] (fun v H => v = .bool (aheadB a b) ∧ H = []) := by
  refine Tri.of_run' Try.func69 rfl c69_ok (by simp [Try.ntmps69]) ?_
  by_cases h1 : a.level = b.level
  rotate_left
  · (repeat (first | refine Run.adm rfl ?_ | refine Run.seq ?_ | (apply Run.opS rfl; (· (simp -implicitDefEqProofs [encT, h1]; exact ⟨rfl, rfl⟩))) | (apply Run.condS; (· (simp -implicitDefEqProofs [encT, h1]; exact rfl)))))
    refine Run.mv [] [(4, .bool (aheadB a b))] [] (by rfl) (by decide) (by simp -implicitDefEqProofs [aheadB, h1]) (by simp -implicitDefEqProofs [aheadB, h1]) ?_
    refine Run.retI Try.func69 r69_ok trivial (by simp -implicitDefEqProofs [r69]; rfl) (by simp ) ?_ (by simp -implicitDefEqProofs ) (by simp -implicitDefEqProofs )
    simp
  by_cases h2 : a.level = 0
  · have h2b : b.level = 0 := by omega
    (repeat (first | refine Run.adm rfl ?_ | refine Run.seq ?_ | (apply Run.opS rfl; (· (simp -implicitDefEqProofs [encT, h1, h2, h2b]; exact ⟨rfl, rfl⟩))) | (apply Run.condS; (· (simp -implicitDefEqProofs [encT, h1, h2, h2b]; exact rfl)))))
    refine Run.mv [] [(4, .bool (aheadB a b))] [] (by rfl) (by decide) (by simp -implicitDefEqProofs [aheadB, h1, h2, h2b]) (by simp -implicitDefEqProofs [aheadB, h1, h2, h2b]) ?_
    refine Run.retI Try.func69 r69_ok trivial (by simp -implicitDefEqProofs [r69]; rfl) (by simp ) ?_ (by simp -implicitDefEqProofs ) (by simp -implicitDefEqProofs )
    simp
  · have h2b : ¬ b.level = 0 := by omega
    (repeat (first | refine Run.adm rfl ?_ | refine Run.seq ?_ | (apply Run.opS rfl; (· (simp -implicitDefEqProofs [encT, h1, h2, h2b]; exact ⟨rfl, rfl⟩))) | (apply Run.condS; (· (simp -implicitDefEqProofs [encT, h1, h2, h2b]; exact rfl)))))
    refine Run.mv [] [(4, .bool (aheadB a b))] [] (by rfl) (by decide) (by simp -implicitDefEqProofs [aheadB, h1, h2, h2b]) (by simp -implicitDefEqProofs [aheadB, h1, h2, h2b]) ?_
    refine Run.retI Try.func69 r69_ok trivial (by simp -implicitDefEqProofs [r69]; rfl) (by simp ) ?_ (by simp -implicitDefEqProofs ) (by simp -implicitDefEqProofs )
    simp
theorem ahead_at (a b : Tb) (H : List O) : Tri Try.prog 69 [.agg (encT a), .agg (encT b)] H (fun v H' => v = .bool (aheadB a b) ∧ H' = H) := (ahead_tri a b).at rfl rfl H

def findI (l : List Tb) (id : Int) : Int := idxI (l.findIdx? (fun t => decide (t.id = id)))
theorem findI_nn (l : List Tb) (id : Int) : decide (0 ≤ findI l id) = l.any (fun t => decide (t.id = id)) := idxI_any _ _
theorem find_tri (l : List Tb) (id : Int) (hll : l.length ≤ 1000000) : Tri Try.prog 51 [.vs (l.map encT) 4, .int .i64 id] [] (fun v H => v = .int .i64 (findI l id) ∧ H = []) := by
  refine Tri.of_run' Try.func51 rfl c51_ok (by simp [Try.ntmps51]) ?_
  (repeat (first | refine Run.adm rfl ?_ | refine Run.seq ?_ | (apply Run.opS rfl; (· (simp -implicitDefEqProofs; exact ⟨rfl, rfl⟩))) | (apply Run.condS; (· (simp -implicitDefEqProofs; exact rfl)))))
  refine Run.loopC [] (fun (i : Nat) => ([(0, .vs (l.map encT) 4), (1, .int .i64 id), (5, .int .i64 i)], [])) (fun i => i ≤ l.length ∧ l.findIdx? (fun t => decide (t.id = id)) = ((l.drop i).findIdx? (fun t => decide (t.id = id))).map (· + i)) (fun i => l.length - i) 0 (by simp) (by rfl) (by decide) (by simp) (by simp) ?_
  rintro i ⟨hi, hgo⟩ ih
  by_cases hlt : i < l.length
  · obtain ⟨e, he, hei, hdrop, -⟩ := getL hlt
    have hw := wrap_small (n := (i : Int) + 1) (by omega) (by omega)
    rw [hdrop, List.findIdx?_cons] at hgo
    by_cases hc : e.id = id
    · (repeat (first | refine Run.adm rfl ?_ | refine Run.seq ?_ | (apply Run.opS rfl; (· (simp -implicitDefEqProofs [hlt, he, hei, encT, hc]; exact ⟨rfl, rfl⟩))) | (apply Run.condS; (· (simp -implicitDefEqProofs [hlt, he, hei, encT, hc]; exact rfl)))))
      refine Run.retI Try.func51 r51_ok trivial (by simp -implicitDefEqProofs [r51]; rfl) (by simp ) ?_ (by simp -implicitDefEqProofs ) (by simp -implicitDefEqProofs )
      rw [findI, hgo]; simp [idxI, hc]
    · (repeat (first | refine Run.adm rfl ?_ | refine Run.seq ?_ | (apply Run.opS rfl; (· (simp -implicitDefEqProofs [hlt, he, hei, encT, hc]; exact ⟨rfl, rfl⟩))) | (apply Run.condS; (· (simp -implicitDefEqProofs [hlt, he, hei, encT, hc]; exact rfl)))))
      refine Run.mv [] _ _ (by rfl) (by decide) (by simp -implicitDefEqProofs [hw]) (by simp -implicitDefEqProofs [hw]) (ih (i + 1) ?_ ?_)
      · refine ⟨by omega, ?_⟩
        rw [hgo]
        simp only [hc, decide_false, Bool.false_eq_true, if_false, Option.map_map]
        congr 1; funext x; simp; omega
      · omega
  · have : i = l.length := by omega
    subst this
    (repeat (first | refine Run.adm rfl ?_ | refine Run.seq ?_ | (apply Run.opS rfl; (· (simp -implicitDefEqProofs; exact ⟨rfl, rfl⟩))) | (apply Run.condS; (· (simp -implicitDefEqProofs; exact rfl)))))
    refine Run.retI Try.func51 r51_ok trivial (by simp -implicitDefEqProofs [r51]; rfl) (by simp ) ?_ (by simp -implicitDefEqProofs ) (by simp -implicitDefEqProofs )
    rw [findI, hgo, List.drop_length]; simp [idxI]
theorem find_at (l : List Tb) (id : Int) (hll : l.length ≤ 1000000) (H : List O) : Tri Try.prog 51 [.vs (l.map encT) 4, .int .i64 id] H (fun v H' => v = .int .i64 (findI l id) ∧ H' = H) := (find_tri l id hll).at rfl rfl H

/-- a table more, in order -/
def putT (l : List Tb) (t : Tb) : List Tb := l.takeWhile (fun x => aheadB x t) ++ t :: l.dropWhile (fun x => aheadB x t)
theorem putT_len (l : List Tb) (t : Tb) : (putT l t).length = l.length + 1 := by
  have := congrArg List.length (List.takeWhile_append_dropWhile (p := fun x => aheadB x t) (l := l))
  simp only [putT, List.length_append, List.length_cons] at *; omega
theorem putT_at {l : List Tb} {t : Tb} {k : Nat} (h1 : ∀ x ∈ l.take k, aheadB x t = true) (h2 : ∀ x, l[k]? = some x → aheadB x t = false) : putT l t = l.take k ++ t :: l.drop k := by
  have e : l.takeWhile (fun x => aheadB x t) = l.take k ∧ l.dropWhile (fun x => aheadB x t) = l.drop k := by
    rw [show l = l.take k ++ l.drop k from (List.take_append_drop k l).symm]
    rw [List.takeWhile_append_of_pos h1, List.dropWhile_append_of_pos h1]
    simp only [List.take_append_drop]
    cases hd : l.drop k with
    | nil => simp
    | cons x r =>
      have hx : l[k]? = some x := by rw [show l[k]? = (l.drop k)[0]? by simp, hd]; rfl
      have := h2 x hx
      simp [this]
  rw [putT, e.1, e.2]

def k52 : AC := .seq (.region c52r3) (.seq (.region c52r4) (.seq (.region c52r5) (.seq (.region c52r6) .ret)))
theorem put_tri2 (l : List Tb) (t : Tb) (hll : l.length ≤ 1000000) : Tri Try.prog 52 [.vs (l.map encT) 4, .agg (encT t)] [] (fun v H => v = .vs ((putT l t).map encT) 4 ∧ H = []) := by
  refine Tri.of_run' Try.func52 rfl c52_ok (by simp [Try.ntmps52]) ?_
  (repeat (first | refine Run.adm rfl ?_ | refine Run.seq ?_ | (apply Run.opS rfl; (· (simp -implicitDefEqProofs; exact ⟨rfl, rfl⟩))) | (apply Run.condS; (· (simp -implicitDefEqProofs; exact rfl)))))
  show Run _ ⟨[.code (.loop c52l0), .endB 0, .code k52], _, _⟩
  obtain ⟨K, hK⟩ : ∃ K, K = k52 := ⟨_, rfl⟩
  rw [← hK]
  refine Run.loopC [0] (fun (i : Nat) => ([(0, .vs (l.map encT) 4), (3, .ptr 0 0), (4, .nils), (5, .int .i64 i)], [.row (encT t)])) (fun i => i ≤ l.length ∧ ∀ x ∈ l.take i, aheadB x t = true) (fun i => l.length - i) 0 (by simp) (by rfl) (by decide) (by simp) (by simp) ?_
  rintro i ⟨hi, hgo⟩ ih
  have hout : (∀ x, l[i]? = some x → aheadB x t = false) → Run ⟨Try.prog, 52, Try.f52.ntmps, [], fun v H => v = .vs ((putT l t).map encT) 4 ∧ H = []⟩ ⟨[.code K], tl [(0, .vs (l.map encT) 4), (3, .ptr 0 0), (4, .nils), (5, .int .i64 i)], [.row (encT t)]⟩ := by
    intro hx
    have hp := putT_at hgo hx
    have hil : (i : Int) ≤ l.length := by omega
    have htl : (l.take i).length = i := by rw [List.length_take]; omega
    have hdl : (l.drop i).length = l.length - i := List.length_drop ..
    have hb1 : i * 48 ≤ 70368744177664 := by omega
    have hb2 : (i + 1) * 48 ≤ 70368744177664 := by omega
    have hb3 : (i + 1 + (l.length - i)) * 48 ≤ 70368744177664 := by omega
    rw [hK]
    unfold k52
    (repeat (first | refine Run.adm rfl ?_ | refine Run.seq ?_ | (apply Run.opS rfl; (· (simp -implicitDefEqProofs; exact ⟨rfl, rfl⟩))) | (apply Run.condS; (· (simp -implicitDefEqProofs; exact rfl)))))
    refine Run.nilA 6 4 (by simp) ?_
    (repeat (first | refine Run.adm rfl ?_ | refine Run.seq ?_ | (apply Run.opS rfl; (· (simp -implicitDefEqProofs [hi, hil, hb1, hb2, hb3, htl, hdl, encT]; exact ⟨rfl, rfl⟩))) | (apply Run.condS; (· (simp -implicitDefEqProofs [hi, hil, hb1, hb2, hb3, htl, hdl, encT]; exact rfl)))))
    have hpl : (putT l t).length = i + 1 + (l.length - i) := by rw [putT_len]; omega
    have hpm : (putT l t).map encT = List.take i (l.map encT) ++ [.int .i64 t.id, .int .i64 t.level, .str t.lo, .str t.hi] :: List.drop i (l.map encT) := by rw [hp]; simp [encT, List.map_take, List.map_drop]
    refine Run.mv [5] [(4, .sl 0 0 (i + 1 + (l.length - i)) 4 none)] [.arr ((putT l t).map encT) 4] (by rfl) (by decide) (by simp -implicitDefEqProofs [hpm]) (by simp -implicitDefEqProofs [hpm]) ?_
    refine Run.freeze 0 (es := (putT l t).map encT) (sz := 4) (by simp) ?_
    refine Run.mv [] [(4, .vs ((putT l t).map encT) 4)] [] (by rfl) (by decide) (by simp -implicitDefEqProofs [hpl]) (by simp -implicitDefEqProofs [hpl]) ?_
    refine Run.retI Try.func52 r52_ok trivial (by simp -implicitDefEqProofs [r52]; rfl) (by simp ) ?_ (by simp -implicitDefEqProofs ) (by simp -implicitDefEqProofs )
    simp
  by_cases hlt : i < l.length
  · obtain ⟨e, he, hei, hdrop, -⟩ := getL hlt
    have hlt' : (i : Int) < l.length := by omega
    have hw := wrap_small (n := (i : Int) + 1) (by omega) (by omega)
    have hq := ahead_at e t
    simp only [encT] at hq
    have htk : l.take (i + 1) = l.take i ++ [e] := by rw [List.take_add_one, he]; rfl
    (repeat (first | refine Run.adm rfl ?_ | refine Run.seq ?_ | (apply Run.opS rfl; (· (simp -implicitDefEqProofs; exact ⟨rfl, rfl⟩))) | (apply Run.condS; (· (simp -implicitDefEqProofs; exact rfl)))))
    refine Run.quietM prog_mixed (by kernel_rfl) [0] [(0, .vs (l.map encT) 4), (3, .ptr 0 0), (4, .nils), (5, .int .i64 i), (18, .bool (aheadB e t))] [.row (encT t)] (by rfl) (by decide) ?_ ?_
    · (repeat (first | refine execQ_E rfl ?_ | (apply execQ_S rfl; (· (simp -implicitDefEqProofs [hlt, hlt', he, hei, encT]; exact ⟨rfl, rfl⟩)))))
      refine execQ_C rfl (by simp [hlt, hlt']) rfl (hq _) ?_
      (repeat (first | refine execQ_E rfl ?_ | (apply execQ_S rfl; (· (simp -implicitDefEqProofs [hlt, hlt']; exact ⟨rfl, rfl⟩)))))
      simp [encT]
    cases hc : aheadB e t with
    | true =>
      (repeat (first | refine Run.adm rfl ?_ | refine Run.seq ?_ | (apply Run.opS rfl; (· (simp -implicitDefEqProofs [hc]; exact ⟨rfl, rfl⟩))) | (apply Run.condS; (· (simp -implicitDefEqProofs [hc]; exact rfl)))))
      refine Run.mv [0] _ _ (by rfl) (by decide) (by simp -implicitDefEqProofs [hw]) (by simp -implicitDefEqProofs [hw]) (ih (i + 1) ?_ ?_)
      · refine ⟨by omega, fun x hx => ?_⟩
        rw [htk] at hx
        rcases List.mem_append.1 hx with hx | hx
        · exact hgo x hx
        · rw [List.mem_singleton.1 hx]; exact hc
      · omega
    | false =>
      (repeat (first | refine Run.adm rfl ?_ | refine Run.seq ?_ | (apply Run.opS rfl; (· (simp -implicitDefEqProofs [hc]; exact ⟨rfl, rfl⟩))) | (apply Run.condS; (· (simp -implicitDefEqProofs [hc]; exact rfl)))))
      refine Run.mv [0] [(0, .vs (l.map encT) 4), (3, .ptr 0 0), (4, .nils), (5, .int .i64 i)] [.row (encT t)] (by rfl) (by decide) (by simp -implicitDefEqProofs) (by simp -implicitDefEqProofs) ?_
      exact hout (fun x hx => by rw [he] at hx; cases hx; exact hc)
  · have hlt' : ¬ (i : Int) < l.length := by omega
    (repeat (first | refine Run.adm rfl ?_ | refine Run.seq ?_ | (apply Run.opS rfl; (· (simp -implicitDefEqProofs; exact ⟨rfl, rfl⟩))) | (apply Run.condS; (· (simp -implicitDefEqProofs; exact rfl)))))
    refine Run.quietM prog_mixed (by kernel_rfl) [0] [(0, .vs (l.map encT) 4), (3, .ptr 0 0), (4, .nils), (5, .int .i64 i), (18, .bool false)] [.row (encT t)] (by rfl) (by decide) ?_ ?_
    · (repeat (first | refine execQ_E rfl ?_ | (apply execQ_S rfl; (· (simp -implicitDefEqProofs [hlt, hlt']; exact ⟨rfl, rfl⟩)))))
      simp
    (repeat (first | refine Run.adm rfl ?_ | refine Run.seq ?_ | (apply Run.opS rfl; (· (simp -implicitDefEqProofs; exact ⟨rfl, rfl⟩))) | (apply Run.condS; (· (simp -implicitDefEqProofs; exact rfl)))))
    refine Run.mv [0] [(0, .vs (l.map encT) 4), (3, .ptr 0 0), (4, .nils), (5, .int .i64 i)] [.row (encT t)] (by rfl) (by decide) (by simp -implicitDefEqProofs) (by simp -implicitDefEqProofs) ?_
    exact hout (fun x hx => by rw [List.getElem?_eq_none (by omega)] at hx; cases hx)
theorem put_at2 (l : List Tb) (t : Tb) (hll : l.length ≤ 1000000) (H : List O) : Tri Try.prog 52 [.vs (l.map encT) 4, .agg (encT t)] H (fun v H' => v = .vs ((putT l t).map encT) 4 ∧ H' = H) := (put_tri2 l t hll).any (fun v ρ h => by rw [h]; rfl) (fun ρ => by simp [V.renL, V.ren]) H

/-- have a table and one ahead of it a key in common -/
def clash (a b : Tb) : Bool := decide (0 < a.level) && decide (a.level = b.level) && !Op.bytesLess a.hi b.lo && !Op.bytesLess b.hi a.lo
def ApartP (l : List Tb) : Prop := l.Pairwise fun b a => clash a b = false
instance (l : List Tb) : Decidable (ApartP l) := inferInstanceAs (Decidable (List.Pairwise _ _))

theorem apart_tri (l : List Tb) (hll : l.length ≤ 1000000) : Tri Try.prog 53 [.vs (l.map encT) 4] [] (fun v H => v = .bool (decide (ApartP l)) ∧ H = []) := by
  refine Tri.of_run' Try.func53 rfl c53_ok (by simp [Try.ntmps53]) ?_
  (repeat (first | refine Run.adm rfl ?_ | refine Run.seq ?_ | (apply Run.opS rfl; (· (simp -implicitDefEqProofs; exact ⟨rfl, rfl⟩))) | (apply Run.condS; (· (simp -implicitDefEqProofs; exact rfl)))))
  refine Run.loopC [] (fun (i : Nat) => ([(0, .vs (l.map encT) 4), (3, .int .i64 i)], [])) (fun i => i ≤ l.length ∧ ApartP (l.take i)) (fun i => l.length - i) 0 ⟨Nat.zero_le _, by simp [ApartP]⟩ (by rfl) (by decide) (by simp) (by simp) ?_
  rintro i ⟨hi, hgo⟩ ihO
  by_cases hlt : i < l.length
  · obtain ⟨a, ha, hai, -, -⟩ := getL hlt
    have hlt' : (i : Int) < l.length := by omega
    have hw := wrap_small (n := (i : Int) + 1) (by omega) (by omega)
    have htk : l.take (i + 1) = l.take i ++ [a] := by rw [List.take_add_one, ha]; rfl
    (repeat (first | refine Run.adm rfl ?_ | refine Run.seq ?_ | (apply Run.opS rfl; (· (simp -implicitDefEqProofs [hlt, hlt']; exact ⟨rfl, rfl⟩))) | (apply Run.condS; (· (simp -implicitDefEqProofs [hlt, hlt']; exact rfl)))))
    refine Run.loopC [] (fun (k : Nat) => ([(0, .vs (l.map encT) 4), (3, .int .i64 i), (4, .int .i64 k)], [])) (fun k => k ≤ i ∧ ∀ b ∈ l.take k, clash a b = false) (fun k => i - k) 0 (by simp) (by rfl) (by decide) (by simp) (by simp) ?_
    rintro k ⟨hk, hkk⟩ ih
    by_cases hki : k < i
    · have hki' : (k : Int) < i := by omega
      have hkl : k < l.length := by omega
      have hkl' : (k : Int) < l.length := by omega
      obtain ⟨b, hb, hbi, -, -⟩ := getL hkl
      have htk2 : l.take (k + 1) = l.take k ++ [b] := by rw [List.take_add_one, hb]; rfl
      have hw2 := wrap_small (n := (k : Int) + 1) (by omega) (by omega)
      (repeat (first | refine Run.adm rfl ?_ | refine Run.seq ?_ | (apply Run.opS rfl; (· (simp -implicitDefEqProofs [hki, hki']; exact ⟨rfl, rfl⟩))) | (apply Run.condS; (· (simp -implicitDefEqProofs [hki, hki']; exact rfl)))))
      refine Run.quietM prog_mixed (by kernel_rfl) [] [(0, .vs (l.map encT) 4), (3, .int .i64 i), (4, .int .i64 k), (60, .bool (clash a b))] [] (by rfl) (by decide) ?_ ?_
      · by_cases c1 : 0 < a.level
        rotate_left
        · (repeat (first | refine execQ_E rfl ?_ | (apply execQ_S rfl; (· (simp -implicitDefEqProofs [hlt, hlt', hkl, hkl', ha, hai, hb, hbi, encT, c1]; exact ⟨rfl, rfl⟩)))))
          simp [clash, c1]
        by_cases c2 : a.level = b.level
        rotate_left
        · (repeat (first | refine execQ_E rfl ?_ | (apply execQ_S rfl; (· (simp -implicitDefEqProofs [hlt, hlt', hkl, hkl', ha, hai, hb, hbi, encT, c1, c2]; exact ⟨rfl, rfl⟩)))))
          simp [clash, c2]
        have c1b : 0 < b.level := by omega
        cases c3 : Op.bytesLess a.hi b.lo with
        | true =>
          (repeat (first | refine execQ_E rfl ?_ | (apply execQ_S rfl; (· (simp -implicitDefEqProofs [hlt, hlt', hkl, hkl', ha, hai, hb, hbi, encT, c1, c1b, c2, c3]; exact ⟨rfl, rfl⟩)))))
          simp [clash, c3]
        | false =>
          (repeat (first | refine execQ_E rfl ?_ | (apply execQ_S rfl; (· (simp -implicitDefEqProofs [hlt, hlt', hkl, hkl', ha, hai, hb, hbi, encT, c1, c1b, c2, c3]; exact ⟨rfl, rfl⟩)))))
          simp [clash, c1, c1b, c2, c3]
      cases hc : clash a b with
      | true =>
        (repeat (first | refine Run.adm rfl ?_ | refine Run.seq ?_ | (apply Run.opS rfl; (· (simp -implicitDefEqProofs; exact ⟨rfl, rfl⟩))) | (apply Run.condS; (· (simp -implicitDefEqProofs; exact rfl)))))
        refine Run.retI Try.func53 r53_ok trivial (by simp -implicitDefEqProofs [r53]; rfl) (by simp ) ?_ (by simp -implicitDefEqProofs ) (by simp -implicitDefEqProofs )
        have : ¬ ApartP l := by
          intro h
          have := List.pairwise_iff_getElem.1 h k i hkl hlt hki
          rw [hai, hbi, hc] at this; cases this
        simp [this]
      | false =>
        (repeat (first | refine Run.adm rfl ?_ | refine Run.seq ?_ | (apply Run.opS rfl; (· (simp -implicitDefEqProofs; exact ⟨rfl, rfl⟩))) | (apply Run.condS; (· (simp -implicitDefEqProofs; exact rfl)))))
        refine Run.mv [] _ _ (by rfl) (by decide) (by simp -implicitDefEqProofs [hw2]) (by simp -implicitDefEqProofs [hw2]) (ih (k + 1) ?_ ?_)
        · refine ⟨by omega, fun x hx => ?_⟩
          rw [htk2] at hx
          rcases List.mem_append.1 hx with hx | hx
          · exact hkk x hx
          · rw [List.mem_singleton.1 hx]; exact hc
        · omega
    · have : k = i := by omega
      subst this
      (repeat (first | refine Run.adm rfl ?_ | refine Run.seq ?_ | (apply Run.opS rfl; (· (simp -implicitDefEqProofs; exact ⟨rfl, rfl⟩))) | (apply Run.condS; (· (simp -implicitDefEqProofs; exact rfl)))))
      refine Run.mv [] _ _ (by rfl) (by decide) ?_ ?_ (ihO (k + 1) ⟨by omega, ?_⟩ (by omega))
      · simp [hw]
      · simp
      · rw [htk]
        refine List.pairwise_append.2 ⟨hgo, List.pairwise_singleton _ _, fun b hb a' ha' => ?_⟩
        rw [List.mem_singleton.1 ha']; exact hkk b hb
  · have : i = l.length := by omega
    subst this
    (repeat (first | refine Run.adm rfl ?_ | refine Run.seq ?_ | (apply Run.opS rfl; (· (simp -implicitDefEqProofs; exact ⟨rfl, rfl⟩))) | (apply Run.condS; (· (simp -implicitDefEqProofs; exact rfl)))))
    refine Run.retI Try.func53 r53_ok trivial (by simp -implicitDefEqProofs [r53]; rfl) (by simp ) ?_ (by simp -implicitDefEqProofs ) (by simp -implicitDefEqProofs )
    rw [List.take_length] at hgo
    simp [hgo]
theorem apart_at (l : List Tb) (hll : l.length ≤ 1000000) (H : List O) : Tri Try.prog 53 [.vs (l.map encT) 4] H (fun v H' => v = .bool (decide (ApartP l)) ∧ H' = H) := (apart_tri l hll).at rfl rfl H

/-! ### what overlaps -/
def ovB (lv : Int) (lo hi : Bs) (t : Tb) : Bool := decide (t.level = lv) && !Op.bytesLess t.hi lo && !Op.bytesLess hi t.lo
def ovl (l : List Tb) (lv : Int) (lo hi : Bs) : List Tb := l.filter (ovB lv lo hi)

theorem rover_tri (l : List Tb) (lg nx lv : Int) (lo hi : Bs) (hll : l.length ≤ 1000000) : Tri Try.prog 23 [.agg [.vs (l.map encT) 4, .int .i64 lg, .int .i64 nx], .int .i64 lv, .str lo, .str hi] [] (fun v H => v = .vs ((ovl l lv lo hi).map encT) 4 ∧ H = []) := by
  refine Tri.of_run' Try.func23 rfl c23_ok (by simp [Try.ntmps23]) ?_
  (repeat (first | refine Run.adm rfl ?_ | refine Run.seq ?_ | (apply Run.opS rfl; (· (simp -implicitDefEqProofs; exact ⟨rfl, rfl⟩))) | (apply Run.condS; (· (simp -implicitDefEqProofs; exact rfl)))))
  refine Run.nilA 9 4 (by simp) ?_
  (repeat (first | refine Run.adm rfl ?_ | refine Run.seq ?_ | (apply Run.opS rfl; (· (simp -implicitDefEqProofs; exact ⟨rfl, rfl⟩))) | (apply Run.condS; (· (simp -implicitDefEqProofs; exact rfl)))))
  refine Run.loopC [0, 1] (fun (i : Nat) => ([(1, .int .i64 lv), (2, .str lo), (3, .str hi), (4, .ptr 0 0), (9, .sl 1 0 (ovl (l.take i) lv lo hi).length 4 none), (10, .int .i64 i)], [.row [.vs (l.map encT) 4, .int .i64 lg, .int .i64 nx], .arr ((ovl (l.take i) lv lo hi).map encT) 4])) (fun i => i ≤ l.length) (fun i => l.length - i) 0 (by simp) (by rfl) (by decide) (by simp [ovl]) (by simp [ovl]) ?_
  intro i hi' ih
  have hol : (ovl (l.take i) lv lo hi).length ≤ i := Nat.le_trans (List.length_filter_le _ _) (by simp; omega)
  by_cases hlt : i < l.length
  · obtain ⟨t, ht, hti, -, -⟩ := getL hlt
    have hw := wrap_small (n := (i : Int) + 1) (by omega) (by omega)
    have hnx : ovl (l.take (i + 1)) lv lo hi = ovl (l.take i) lv lo hi ++ (if ovB lv lo hi t = true then [t] else []) := by
      rw [ovl, List.take_add_one, ht, Option.toList_some, List.filter_append]
      congr 1
      cases h : ovB lv lo hi t <;> simp [h]
    generalize ovl (l.take i) lv lo hi = o at *
    have hbb : (o.length + 1) * 48 ≤ 70368744177664 := by omega
    have hno : ovB lv lo hi t = false → Run ⟨Try.prog, 23, Try.f23.ntmps, [], fun v H => v = .vs ((ovl l lv lo hi).map encT) 4 ∧ H = []⟩ ⟨[.inLoop c23l0, .endB 0, .code (.seq (.region c23r8) .ret)], tl [(1, .int .i64 lv), (2, .str lo), (3, .str hi), (4, .ptr 0 0), (9, .sl 1 0 o.length 4 none), (10, .int .i64 ((i + 1 : Nat) : Int))], [.row [.vs (l.map encT) 4, .int .i64 lg, .int .i64 nx], .arr (o.map encT) 4]⟩ := by
      intro hc
      have := ih (i + 1) (by omega) (by omega)
      simp only at this
      rw [hnx, hc] at this
      simp only [Bool.false_eq_true, if_false, List.append_nil] at this
      exact this
    by_cases c1 : t.level = lv
    rotate_left
    · (repeat (first | refine Run.adm rfl ?_ | refine Run.seq ?_ | (apply Run.opS rfl; (· (simp -implicitDefEqProofs [hlt, ht, hti, encT, c1]; exact ⟨rfl, rfl⟩))) | (apply Run.condS; (· (simp -implicitDefEqProofs [hlt, ht, hti, encT, c1]; exact rfl)))))
      refine Run.mv [0, 1] _ _ (by rfl) (by decide) ?_ ?_ (hno (by simp [ovB, c1]))
      · simp [hw]
      · simp
    cases c2 : Op.bytesLess t.hi lo with
    | true =>
      (repeat (first | refine Run.adm rfl ?_ | refine Run.seq ?_ | (apply Run.opS rfl; (· (simp -implicitDefEqProofs [hlt, ht, hti, encT, c1, c2]; exact ⟨rfl, rfl⟩))) | (apply Run.condS; (· (simp -implicitDefEqProofs [hlt, ht, hti, encT, c1, c2]; exact rfl)))))
      refine Run.mv [0, 1] _ _ (by rfl) (by decide) ?_ ?_ (hno (by simp [ovB, c1, c2]))
      · simp [hw]
      · simp
    | false =>
      cases c3 : Op.bytesLess hi t.lo with
      | true =>
        (repeat (first | refine Run.adm rfl ?_ | refine Run.seq ?_ | (apply Run.opS rfl; (· (simp -implicitDefEqProofs [hlt, ht, hti, encT, c1, c2, bless_le, c3]; exact ⟨rfl, rfl⟩))) | (apply Run.condS; (· (simp -implicitDefEqProofs [hlt, ht, hti, encT, c1, c2, bless_le, c3]; exact rfl)))))
        refine Run.mv [0, 1] _ _ (by rfl) (by decide) ?_ ?_ (hno (by simp [ovB, c1, c2, c3]))
        · simp [hw]
        · simp
      | false =>
        have hob : ovB lv lo hi t = true := by simp [ovB, c1, c2, c3]
        (repeat (first | refine Run.adm rfl ?_ | refine Run.seq ?_ | (apply Run.opS rfl; (· (simp -implicitDefEqProofs [hlt, ht, hti, encT, c1, c2, bless_le, c3, hbb]; exact ⟨rfl, rfl⟩))) | (apply Run.condS; (· (simp -implicitDefEqProofs [hlt, ht, hti, encT, c1, c2, bless_le, c3, hbb]; exact rfl)))))
        refine Run.mv [0, 4] _ _ (by rfl) (by decide) (by simp -implicitDefEqProofs [hw, hnx, hob, encT, c1]) (by simp -implicitDefEqProofs [hw, hnx, hob, encT, c1]) (ih (i + 1) ?_ ?_)
        · omega
        · omega
  · have : i = l.length := by omega
    subst this
    rw [List.take_length] at *
    generalize ovl l lv lo hi = o at *
    clear ih
    (repeat (first | refine Run.adm rfl ?_ | refine Run.seq ?_ | (apply Run.opS rfl; (· (simp -implicitDefEqProofs; exact ⟨rfl, rfl⟩))) | (apply Run.condS; (· (simp -implicitDefEqProofs; exact rfl)))))
    refine Run.freeze 1 (es := o.map encT) (sz := 4) (by simp) ?_
    (repeat (first | refine Run.adm rfl ?_ | refine Run.seq ?_ | (apply Run.opS rfl; (· (simp -implicitDefEqProofs; exact ⟨rfl, rfl⟩))) | (apply Run.condS; (· (simp -implicitDefEqProofs; exact rfl)))))
    refine Run.mv [] [(8, .vs (o.map encT) 4)] [] (by rfl) (by decide) (by simp -implicitDefEqProofs) (by simp -implicitDefEqProofs) ?_
    refine Run.retI Try.func23 r23_ok trivial (by simp -implicitDefEqProofs [r23]; rfl) (by simp ) ?_ (by simp -implicitDefEqProofs ) (by simp -implicitDefEqProofs )
    simp

end Go.Proofs.Ytpipgcmiaccdkaa
