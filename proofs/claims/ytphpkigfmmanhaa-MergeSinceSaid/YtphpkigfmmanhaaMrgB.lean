/-
  Layer 11, part B: the document's All, May, Merge; light; made.
-/
import Derived.Test.YtphpkigfmmanhaaMrgA
namespace Go.Proofs.Ytphpkigfmmanhaa
open Sx Go
set_option maxRecDepth 100000
set_option linter.unusedSimpArgs false
set_option linter.unusedVariables false
set_option linter.unnecessarySimpa false
attribute [local simp] guardB isCall opStep Opd.ev put readAt aBin aUn args0 V.celled V.ones V.one V.cells putAt bounds bound1 elemsOf srcOf appendV fillAt fillEl V.pures V.pure unwind evs ARes.ev mkRes V.ren V.renL O.ren eqCells eq1 aEq aMM hasTy hasTyN okTy mmGo Known HLe OLe VsLe.refl VLe.refl Stay VsLe V.frz V.frzL O.frz fr clearV rn KnownR Objs OLeO ObjsE nm back setAll ren_ite take_map_len List.take_of_length_le
attribute [local simp ↓] upd_app tl_cons tl_nil
attribute [local simp] encE_ren encE_ones encE_len encE_take

def sameK (y x : En) : Bool := decide (y.key = x.key) && decide (y.seq = x.seq)
def hasE (l : List En) (x : En) : Bool := l.any (sameK · x)

theorem has_tri (l : List En) (hll : l.length ≤ 1000000000) (x : En) : Tri Try.prog 29 [.vs (l.map encE) 4, .agg (encE x)] [] (fun v H => v = .bool (hasE l x) ∧ H = []) := by
  refine Tri.of_run' Try.func29 rfl c29_ok (by simp [Try.ntmps29]) ?_
  have hfin : ∀ {k t h} (b : Bool), AtEnd k → hasE l x = b → t 4 = .bool b → Run ⟨Try.prog, 29, Try.f29.ntmps, [], fun v H => v = .bool (hasE l x) ∧ H = []⟩ ⟨k, t, h⟩ := by
    intro k t h b hk hb h2
    refine Run.mv [] [(4, .bool (hasE l x))] [] (by rfl) (by decide) (by simp [h2, hb]) (by simp) ?_
    exact Run.retI Try.func29 r29_ok hk (by simp [r29]; rfl) (by simp) (by simp) (by simp) (by simp)
  (repeat (first | refine Run.seq ?_ | refine Run.reg ?_ | refine Run.skip ?_ | refine Run.block ?_ | refine Run.endB ?_ | refine Run.opE rfl ?_ | (apply Run.op0 rfl; (· (simp -implicitDefEqProofs [encE]; exact ⟨rfl, rfl⟩))) | (apply Run.opA rfl; (· (simp -implicitDefEqProofs [encE]; done)); (· (simp -implicitDefEqProofs [encE]; exact ⟨rfl, rfl⟩))) | (apply Run.opN rfl; (· (simp -implicitDefEqProofs [encE]; done))) | (refine Run.condT ?_ ?_; (· (simp -implicitDefEqProofs [encE]; done))) | (refine Run.condF ?_ ?_; (· (simp -implicitDefEqProofs [encE]; done))) | refine Run.exit rfl ?_))
  refine Run.loopC [0] (fun (i : Nat) => ([(0, .vs (l.map encE) 4), (3, .ptr 0 0), (5, .int .i64 i)], [.row (encE x)])) (fun i => i ≤ l.length ∧ hasE l x = (l.drop i).any (sameK · x)) (fun i => l.length - i) 0 (by simp [hasE]) (by rfl) (by decide) (by simp) (by simp [encE]) ?_
  rintro i ⟨hi, hgo⟩ ih
  by_cases hlt : i < l.length
  · obtain ⟨y, hy, hyi, hdrop, -⟩ := getL hlt
    have hw := wrap_small (n := (i : Int) + 1) (by omega) (by omega)
    rw [hdrop, List.any_cons] at hgo
    (repeat (first | refine Run.seq ?_ | refine Run.reg ?_ | refine Run.skip ?_ | refine Run.block ?_ | refine Run.endB ?_ | refine Run.opE rfl ?_ | (apply Run.op0 rfl; (· (simp -implicitDefEqProofs [hlt]; exact ⟨rfl, rfl⟩))) | (apply Run.opA rfl; (· (simp -implicitDefEqProofs [hlt]; done)); (· (simp -implicitDefEqProofs [hlt]; exact ⟨rfl, rfl⟩))) | (apply Run.opN rfl; (· (simp -implicitDefEqProofs [hlt]; done))) | (refine Run.condT ?_ ?_; (· (simp -implicitDefEqProofs [hlt]; done))) | (refine Run.condF ?_ ?_; (· (simp -implicitDefEqProofs [hlt]; done))) | refine Run.exit rfl ?_))
    refine Run.quietM prog_mixed (by kernel_rfl) [0] [(0, .vs (l.map encE) 4), (3, .ptr 0 0), (5, .int .i64 i), (29, .bool (sameK y x))] [.row (encE x)] (by rfl) (by decide) ?_ ?_
    · by_cases hk : y.key = x.key
      · (repeat (first | refine execQ_E rfl ?_ | (apply execQ_0 rfl; (· rfl); (· (simp -implicitDefEqProofs [hlt, hy, hyi, encE, hk]; exact ⟨rfl, rfl⟩))) | (apply execQ_A rfl; (· (simp -implicitDefEqProofs [hlt, hy, hyi, encE, hk]; done)); (· rfl); (· (simp -implicitDefEqProofs [hlt, hy, hyi, encE, hk]; exact ⟨rfl, rfl⟩))) | (apply execQ_N rfl; (· (simp -implicitDefEqProofs [hlt, hy, hyi, encE, hk]; done)))))
        simp [sameK, hk, encE]
      · (repeat (first | refine execQ_E rfl ?_ | (apply execQ_0 rfl; (· rfl); (· (simp -implicitDefEqProofs [hlt, hy, hyi, encE, hk]; exact ⟨rfl, rfl⟩))) | (apply execQ_A rfl; (· (simp -implicitDefEqProofs [hlt, hy, hyi, encE, hk]; done)); (· rfl); (· (simp -implicitDefEqProofs [hlt, hy, hyi, encE, hk]; exact ⟨rfl, rfl⟩))) | (apply execQ_N rfl; (· (simp -implicitDefEqProofs [hlt, hy, hyi, encE, hk]; done)))))
        simp [sameK, hk, encE]
    cases hs : sameK y x with
    | true =>
      (repeat (first | refine Run.seq ?_ | refine Run.reg ?_ | refine Run.skip ?_ | refine Run.block ?_ | refine Run.endB ?_ | refine Run.opE rfl ?_ | (apply Run.op0 rfl; (· (simp -implicitDefEqProofs; exact ⟨rfl, rfl⟩))) | (apply Run.opA rfl; (· (simp -implicitDefEqProofs; done)); (· (simp -implicitDefEqProofs; exact ⟨rfl, rfl⟩))) | (apply Run.opN rfl; (· (simp -implicitDefEqProofs; done))) | (refine Run.condT ?_ ?_; (· (simp -implicitDefEqProofs; done))) | (refine Run.condF ?_ ?_; (· (simp -implicitDefEqProofs; done))) | refine Run.exit rfl ?_))
      exact hfin true trivial (by rw [hgo, hs]; rfl) (by simp)
    | false =>
      (repeat (first | refine Run.seq ?_ | refine Run.reg ?_ | refine Run.skip ?_ | refine Run.block ?_ | refine Run.endB ?_ | refine Run.opE rfl ?_ | (apply Run.op0 rfl; (· (simp -implicitDefEqProofs; exact ⟨rfl, rfl⟩))) | (apply Run.opA rfl; (· (simp -implicitDefEqProofs; done)); (· (simp -implicitDefEqProofs; exact ⟨rfl, rfl⟩))) | (apply Run.opN rfl; (· (simp -implicitDefEqProofs; done))) | (refine Run.condT ?_ ?_; (· (simp -implicitDefEqProofs; done))) | (refine Run.condF ?_ ?_; (· (simp -implicitDefEqProofs; done))) | refine Run.exit rfl ?_))
      refine Run.mv [0] _ _ (by rfl) (by decide) (by simp -implicitDefEqProofs [hw, encE]) (by simp -implicitDefEqProofs [hw, encE]) (ih (i + 1) ?_ ?_)
      · exact ⟨by omega, by rw [hgo, hs]; rfl⟩
      · omega
  · have : i = l.length := by omega
    subst this
    (repeat (first | refine Run.seq ?_ | refine Run.reg ?_ | refine Run.skip ?_ | refine Run.block ?_ | refine Run.endB ?_ | refine Run.opE rfl ?_ | (apply Run.op0 rfl; (· (simp -implicitDefEqProofs; exact ⟨rfl, rfl⟩))) | (apply Run.opA rfl; (· (simp -implicitDefEqProofs; done)); (· (simp -implicitDefEqProofs; exact ⟨rfl, rfl⟩))) | (apply Run.opN rfl; (· (simp -implicitDefEqProofs; done))) | (refine Run.condT ?_ ?_; (· (simp -implicitDefEqProofs; done))) | (refine Run.condF ?_ ?_; (· (simp -implicitDefEqProofs; done))) | refine Run.exit rfl ?_))
    exact hfin false trivial (by rw [hgo]; simp) (by simp)
theorem has_at (l : List En) (hll : l.length ≤ 1000000000) (x : En) (H : List O) : Tri Try.prog 29 [.vs (l.map encE) 4, .agg (encE x)] H (fun v H' => v = .bool (hasE l x) ∧ H' = H) := (has_tri l hll x).at rfl rfl H

def encL (l : List En) : List V := [.vs (l.map encE) 4]
def stepO (o : List En) (e : En) : List En := if hasE o e = true then o else put1 o e
def goL (o l : List En) : List En := l.foldl stepO o
def allM (ls : List (List En)) : List En := ls.foldl goL []

theorem stepO_len (o : List En) (e : En) : (stepO o e).length ≤ o.length + 1 := by
  unfold stepO; split
  · omega
  · exact put1_len o e

theorem all_tri (ls : List (List En)) (hls : ls.length ≤ 100) (hll : ∀ l ∈ ls, l.length ≤ 5000) : Tri Try.prog 16 [.vs (ls.map encL) 1] [] (fun v H => v = .vs ((allM ls).map encE) 4 ∧ H = []) := by
  refine Tri.of_run' Try.func16 rfl c16_ok (by simp [Try.ntmps16]) ?_
  (repeat (first | refine Run.seq ?_ | refine Run.reg ?_ | refine Run.skip ?_ | refine Run.block ?_ | refine Run.endB ?_ | refine Run.opE rfl ?_ | (apply Run.op0 rfl; (· (simp -implicitDefEqProofs; exact ⟨rfl, rfl⟩))) | (apply Run.opA rfl; (· (simp -implicitDefEqProofs; done)); (· (simp -implicitDefEqProofs; exact ⟨rfl, rfl⟩))) | (apply Run.opN rfl; (· (simp -implicitDefEqProofs; done))) | (refine Run.condT ?_ ?_; (· (simp -implicitDefEqProofs; done))) | (refine Run.condF ?_ ?_; (· (simp -implicitDefEqProofs; done))) | refine Run.exit rfl ?_))
  refine Run.loopC [] (fun (a : Nat × List En) => ([(0, .vs (ls.map encL) 1), (3, .vs (a.2.map encE) 4), (4, .int .i64 a.1)], []))
    (fun a => a.1 ≤ ls.length ∧ a.2.length ≤ 5000 * a.1 ∧ allM ls = (ls.drop a.1).foldl goL a.2) (fun a => ls.length - a.1) (0, []) (by simp [allM]) (by rfl) (by decide) (by simp [VLe.nils]) (by simp) ?_
  rintro ⟨i, o⟩ ⟨hi, ho, hgo⟩ ihO
  simp only at hi ho hgo ihO ⊢
  by_cases hlt : i < ls.length
  · obtain ⟨l, hl, hli, hdrop, hmem⟩ := getL hlt
    have hw := wrap_small (n := (i : Int) + 1) (by omega) (by omega)
    have hlen := hll l hmem
    rw [hdrop, List.foldl_cons] at hgo
    (repeat (first | refine Run.seq ?_ | refine Run.reg ?_ | refine Run.skip ?_ | refine Run.block ?_ | refine Run.endB ?_ | refine Run.opE rfl ?_ | (apply Run.op0 rfl; (· (simp -implicitDefEqProofs [hlt]; exact ⟨rfl, rfl⟩))) | (apply Run.opA rfl; (· (simp -implicitDefEqProofs [hlt]; done)); (· (simp -implicitDefEqProofs [hlt]; exact ⟨rfl, rfl⟩))) | (apply Run.opN rfl; (· (simp -implicitDefEqProofs [hlt]; done))) | (refine Run.condT ?_ ?_; (· (simp -implicitDefEqProofs [hlt]; done))) | (refine Run.condF ?_ ?_; (· (simp -implicitDefEqProofs [hlt]; done))) | refine Run.exit rfl ?_))
    refine Run.loopC [] (fun (a : Nat × List En) => ([(0, .vs (ls.map encL) 1), (3, .vs (a.2.map encE) 4), (4, .int .i64 i), (5, .int .i64 a.1)], []))
      (fun a => a.1 ≤ l.length ∧ a.2.length ≤ 5000 * i + a.1 ∧ goL o l = (l.drop a.1).foldl stepO a.2) (fun a => l.length - a.1) (0, o) (by simp [goL, ho]) (by rfl) (by decide) (by simp) (by simp) ?_
    rintro ⟨j, o2⟩ ⟨hj, ho2, hgo2⟩ ih
    simp only at hj ho2 hgo2 ih ⊢
    by_cases hlj : j < l.length
    · obtain ⟨e, he, hei, hdj, -⟩ := getL hlj
      have hwj := wrap_small (n := (j : Int) + 1) (by omega) (by omega)
      have hh := has_at o2 (by omega) e
      have hp := put1_tri_at o2 (by omega) e
      simp only [encE] at hh hp
      rw [hdj, List.foldl_cons] at hgo2
      (repeat (first | refine Run.seq ?_ | refine Run.reg ?_ | refine Run.skip ?_ | refine Run.block ?_ | refine Run.endB ?_ | refine Run.opE rfl ?_ | (apply Run.op0 rfl; (· (simp -implicitDefEqProofs [hlt, hl, hli, encL, hlj, he, hei, encE]; exact ⟨rfl, rfl⟩))) | (apply Run.opA rfl; (· (simp -implicitDefEqProofs [hlt, hl, hli, encL, hlj, he, hei, encE]; done)); (· (simp -implicitDefEqProofs [hlt, hl, hli, encL, hlj, he, hei, encE]; exact ⟨rfl, rfl⟩))) | (apply Run.opN rfl; (· (simp -implicitDefEqProofs [hlt, hl, hli, encL, hlj, he, hei, encE]; done))) | (refine Run.condT ?_ ?_; (· (simp -implicitDefEqProofs [hlt, hl, hli, encL, hlj, he, hei, encE]; done))) | (refine Run.condF ?_ ?_; (· (simp -implicitDefEqProofs [hlt, hl, hli, encL, hlj, he, hei, encE]; done))) | refine Run.exit rfl ?_))
      refine Run.opC rfl rfl rfl (hh _) ?_
      rintro v h' ⟨rfl, rfl⟩
      have hsl := stepO_len o2 e
      cases hb : hasE o2 e with
      | true =>
        (repeat (first | refine Run.seq ?_ | refine Run.reg ?_ | refine Run.skip ?_ | refine Run.block ?_ | refine Run.endB ?_ | refine Run.opE rfl ?_ | (apply Run.op0 rfl; (· (simp -implicitDefEqProofs [hb]; exact ⟨rfl, rfl⟩))) | (apply Run.opA rfl; (· (simp -implicitDefEqProofs [hb]; done)); (· (simp -implicitDefEqProofs [hb]; exact ⟨rfl, rfl⟩))) | (apply Run.opN rfl; (· (simp -implicitDefEqProofs [hb]; done))) | (refine Run.condT ?_ ?_; (· (simp -implicitDefEqProofs [hb]; done))) | (refine Run.condF ?_ ?_; (· (simp -implicitDefEqProofs [hb]; done))) | refine Run.exit rfl ?_))
        refine Run.mv [] _ _ (by rfl) (by decide) (by simp -implicitDefEqProofs [hwj, stepO, hb]) (by simp -implicitDefEqProofs [hwj, stepO, hb]) (ih ((j + 1, stepO o2 e)) ?_ ?_)
        · exact ⟨by simp only; omega, by simp only; omega, hgo2⟩
        · simp only; omega
      | false =>
        (repeat (first | refine Run.seq ?_ | refine Run.reg ?_ | refine Run.skip ?_ | refine Run.block ?_ | refine Run.endB ?_ | refine Run.opE rfl ?_ | (apply Run.op0 rfl; (· (simp -implicitDefEqProofs [hb, hlt, hl, hli, encL, hlj, he, hei, encE]; exact ⟨rfl, rfl⟩))) | (apply Run.opA rfl; (· (simp -implicitDefEqProofs [hb, hlt, hl, hli, encL, hlj, he, hei, encE]; done)); (· (simp -implicitDefEqProofs [hb, hlt, hl, hli, encL, hlj, he, hei, encE]; exact ⟨rfl, rfl⟩))) | (apply Run.opN rfl; (· (simp -implicitDefEqProofs [hb, hlt, hl, hli, encL, hlj, he, hei, encE]; done))) | (refine Run.condT ?_ ?_; (· (simp -implicitDefEqProofs [hb, hlt, hl, hli, encL, hlj, he, hei, encE]; done))) | (refine Run.condF ?_ ?_; (· (simp -implicitDefEqProofs [hb, hlt, hl, hli, encL, hlj, he, hei, encE]; done))) | refine Run.exit rfl ?_))
        refine Run.opC rfl rfl rfl (hp _) ?_
        rintro v h' ⟨rfl, rfl⟩
        (repeat (first | refine Run.seq ?_ | refine Run.reg ?_ | refine Run.skip ?_ | refine Run.block ?_ | refine Run.endB ?_ | refine Run.opE rfl ?_ | (apply Run.op0 rfl; (· (simp -implicitDefEqProofs; exact ⟨rfl, rfl⟩))) | (apply Run.opA rfl; (· (simp -implicitDefEqProofs; done)); (· (simp -implicitDefEqProofs; exact ⟨rfl, rfl⟩))) | (apply Run.opN rfl; (· (simp -implicitDefEqProofs; done))) | (refine Run.condT ?_ ?_; (· (simp -implicitDefEqProofs; done))) | (refine Run.condF ?_ ?_; (· (simp -implicitDefEqProofs; done))) | refine Run.exit rfl ?_))
        refine Run.mv [] _ _ (by rfl) (by decide) (by simp -implicitDefEqProofs [hwj, stepO, hb]) (by simp -implicitDefEqProofs [hwj, stepO, hb]) (ih ((j + 1, stepO o2 e)) ?_ ?_)
        · exact ⟨by simp only; omega, by simp only; omega, hgo2⟩
        · simp only; omega
    · have : j = l.length := by omega
      subst this
      (repeat (first | refine Run.seq ?_ | refine Run.reg ?_ | refine Run.skip ?_ | refine Run.block ?_ | refine Run.endB ?_ | refine Run.opE rfl ?_ | (apply Run.op0 rfl; (· (simp -implicitDefEqProofs [hlt, hl, hli, encL]; exact ⟨rfl, rfl⟩))) | (apply Run.opA rfl; (· (simp -implicitDefEqProofs [hlt, hl, hli, encL]; done)); (· (simp -implicitDefEqProofs [hlt, hl, hli, encL]; exact ⟨rfl, rfl⟩))) | (apply Run.opN rfl; (· (simp -implicitDefEqProofs [hlt, hl, hli, encL]; done))) | (refine Run.condT ?_ ?_; (· (simp -implicitDefEqProofs [hlt, hl, hli, encL]; done))) | (refine Run.condF ?_ ?_; (· (simp -implicitDefEqProofs [hlt, hl, hli, encL]; done))) | refine Run.exit rfl ?_))
      have ih := ihO
      refine Run.mv [] _ _ (by rfl) (by decide) (by simp -implicitDefEqProofs [hw]) (by simp -implicitDefEqProofs [hw]) (ih ((i + 1, o2)) ?_ ?_)
      · refine ⟨by simp only; omega, by simp only; omega, ?_⟩
        simp only
        rw [hgo, hgo2, List.drop_length]; rfl
      · simp only; omega
  · have : i = ls.length := by omega
    subst this
    (repeat (first | refine Run.seq ?_ | refine Run.reg ?_ | refine Run.skip ?_ | refine Run.block ?_ | refine Run.endB ?_ | refine Run.opE rfl ?_ | (apply Run.op0 rfl; (· (simp -implicitDefEqProofs; exact ⟨rfl, rfl⟩))) | (apply Run.opA rfl; (· (simp -implicitDefEqProofs; done)); (· (simp -implicitDefEqProofs; exact ⟨rfl, rfl⟩))) | (apply Run.opN rfl; (· (simp -implicitDefEqProofs; done))) | (refine Run.condT ?_ ?_; (· (simp -implicitDefEqProofs; done))) | (refine Run.condF ?_ ?_; (· (simp -implicitDefEqProofs; done))) | refine Run.exit rfl ?_))
    refine Run.retI Try.func16 r16_ok trivial (by simp -implicitDefEqProofs [r16]; rfl) (by simp ) ?_ (by simp -implicitDefEqProofs ) (by simp -implicitDefEqProofs )
    rw [hgo, List.drop_length]; simp
theorem all_at (ls : List (List En)) (hls : ls.length ≤ 100) (hll : ∀ l ∈ ls, l.length ≤ 5000) (H : List O) : Tri Try.prog 16 [.vs (ls.map encL) 1] H (fun v H' => v = .vs ((allM ls).map encE) 4 ∧ H' = H) := (all_tri ls hls hll).at rfl rfl H

def mayL (ls : List (List En)) : Bool := ls.all checkE

theorem rmayL_tri (ls : List (List En)) (hls : ls.length ≤ 1000000) : Tri Try.prog 27 [.vs (ls.map encL) 1] [] (fun v H => v = .bool (mayL ls) ∧ H = []) := by
  refine Tri.of_run' Try.func27 rfl c27_ok (by simp [Try.ntmps27]) ?_
  (repeat (first | refine Run.seq ?_ | refine Run.reg ?_ | refine Run.skip ?_ | refine Run.block ?_ | refine Run.endB ?_ | refine Run.opE rfl ?_ | (apply Run.op0 rfl; (· (simp -implicitDefEqProofs; exact ⟨rfl, rfl⟩))) | (apply Run.opA rfl; (· (simp -implicitDefEqProofs; done)); (· (simp -implicitDefEqProofs; exact ⟨rfl, rfl⟩))) | (apply Run.opN rfl; (· (simp -implicitDefEqProofs; done))) | (refine Run.condT ?_ ?_; (· (simp -implicitDefEqProofs; done))) | (refine Run.condF ?_ ?_; (· (simp -implicitDefEqProofs; done))) | refine Run.exit rfl ?_))
  refine Run.loopC [] (fun (i : Nat) => ([(0, .vs (ls.map encL) 1), (3, .int .i64 i)], [])) (fun i => i ≤ ls.length ∧ mayL ls = (ls.drop i).all checkE) (fun i => ls.length - i) 0 (by simp [mayL]) (by rfl) (by decide) (by simp) (by simp) ?_
  rintro i ⟨hi, hgo⟩ ih
  by_cases hlt : i < ls.length
  · obtain ⟨l, hl, hli, hdrop, -⟩ := getL hlt
    have hw := wrap_small (n := (i : Int) + 1) (by omega) (by omega)
    rw [hdrop, List.all_cons] at hgo
    (repeat (first | refine Run.seq ?_ | refine Run.reg ?_ | refine Run.skip ?_ | refine Run.block ?_ | refine Run.endB ?_ | refine Run.opE rfl ?_ | (apply Run.op0 rfl; (· (simp -implicitDefEqProofs [hlt, hl, hli, encL]; exact ⟨rfl, rfl⟩))) | (apply Run.opA rfl; (· (simp -implicitDefEqProofs [hlt, hl, hli, encL]; done)); (· (simp -implicitDefEqProofs [hlt, hl, hli, encL]; exact ⟨rfl, rfl⟩))) | (apply Run.opN rfl; (· (simp -implicitDefEqProofs [hlt, hl, hli, encL]; done))) | (refine Run.condT ?_ ?_; (· (simp -implicitDefEqProofs [hlt, hl, hli, encL]; done))) | (refine Run.condF ?_ ?_; (· (simp -implicitDefEqProofs [hlt, hl, hli, encL]; done))) | refine Run.exit rfl ?_))
    refine Run.opC rfl rfl rfl (rcheckE_at l _) ?_
    rintro v h' ⟨rfl, rfl⟩
    cases hc : checkE l with
    | true =>
      (repeat (first | refine Run.seq ?_ | refine Run.reg ?_ | refine Run.skip ?_ | refine Run.block ?_ | refine Run.endB ?_ | refine Run.opE rfl ?_ | (apply Run.op0 rfl; (· (simp -implicitDefEqProofs [errE]; exact ⟨rfl, rfl⟩))) | (apply Run.opA rfl; (· (simp -implicitDefEqProofs [errE]; done)); (· (simp -implicitDefEqProofs [errE]; exact ⟨rfl, rfl⟩))) | (apply Run.opN rfl; (· (simp -implicitDefEqProofs [errE]; done))) | (refine Run.condT ?_ ?_; (· (simp -implicitDefEqProofs [errE]; done))) | (refine Run.condF ?_ ?_; (· (simp -implicitDefEqProofs [errE]; done))) | refine Run.exit rfl ?_))
      refine Run.mv [] _ _ (by rfl) (by decide) (by simp -implicitDefEqProofs [hw]) (by simp -implicitDefEqProofs [hw]) (ih (i + 1) ?_ ?_)
      · exact ⟨by omega, by rw [hgo, hc]; rfl⟩
      · omega
    | false =>
      (repeat (first | refine Run.seq ?_ | refine Run.reg ?_ | refine Run.skip ?_ | refine Run.block ?_ | refine Run.endB ?_ | refine Run.opE rfl ?_ | (apply Run.op0 rfl; (· (simp -implicitDefEqProofs [errE]; exact ⟨rfl, rfl⟩))) | (apply Run.opA rfl; (· (simp -implicitDefEqProofs [errE]; done)); (· (simp -implicitDefEqProofs [errE]; exact ⟨rfl, rfl⟩))) | (apply Run.opN rfl; (· (simp -implicitDefEqProofs [errE]; done))) | (refine Run.condT ?_ ?_; (· (simp -implicitDefEqProofs [errE]; done))) | (refine Run.condF ?_ ?_; (· (simp -implicitDefEqProofs [errE]; done))) | refine Run.exit rfl ?_))
      refine Run.retI Try.func27 r27_ok trivial (by simp -implicitDefEqProofs [r27]; rfl) (by simp ) ?_ (by simp -implicitDefEqProofs ) (by simp -implicitDefEqProofs )
      simp [hgo, hc]
  · have : i = ls.length := by omega
    subst this
    (repeat (first | refine Run.seq ?_ | refine Run.reg ?_ | refine Run.skip ?_ | refine Run.block ?_ | refine Run.endB ?_ | refine Run.opE rfl ?_ | (apply Run.op0 rfl; (· (simp -implicitDefEqProofs; exact ⟨rfl, rfl⟩))) | (apply Run.opA rfl; (· (simp -implicitDefEqProofs; done)); (· (simp -implicitDefEqProofs; exact ⟨rfl, rfl⟩))) | (apply Run.opN rfl; (· (simp -implicitDefEqProofs; done))) | (refine Run.condT ?_ ?_; (· (simp -implicitDefEqProofs; done))) | (refine Run.condF ?_ ?_; (· (simp -implicitDefEqProofs; done))) | refine Run.exit rfl ?_))
    refine Run.retI Try.func27 r27_ok trivial (by simp -implicitDefEqProofs [r27]; rfl) (by simp ) ?_ (by simp -implicitDefEqProofs ) (by simp -implicitDefEqProofs )
    simp [hgo]
theorem rmayL_at (ls : List (List En)) (hls : ls.length ≤ 1000000) (H : List O) : Tri Try.prog 27 [.vs (ls.map encL) 1] H (fun v H' => v = .bool (mayL ls) ∧ H' = H) := (rmayL_tri ls hls).at rfl rfl H

/-- what Merge answers -/
def mergeM (ls : List (List En)) : List En × Int := if mayL ls = true then (if (allM ls).length ≤ 4096 then (allM ls, 0) else ([], 2)) else ([], 1)

theorem mayL_len {ls : List (List En)} (h : mayL ls = true) : ∀ l ∈ ls, l.length ≤ 5000 := fun l hl => by
  have := List.all_eq_true.1 h l hl
  simp only [checkE, Bool.and_eq_true, decide_eq_true_eq] at this
  omega

theorem rmerge_tri (ls : List (List En)) (hls : ls.length ≤ 100) : Tri Try.prog 13 [.vs (ls.map encL) 1] [] (fun v H => v = .tup [.vs ((mergeM ls).1.map encE) 4, .int .i64 (mergeM ls).2] ∧ H = []) := by
  refine Tri.of_run' Try.func13 rfl c13_ok (by simp [Try.ntmps13]) ?_
  (repeat (first | refine Run.seq ?_ | refine Run.reg ?_ | refine Run.skip ?_ | refine Run.block ?_ | refine Run.endB ?_ | refine Run.opE rfl ?_ | (apply Run.op0 rfl; (· (simp -implicitDefEqProofs; exact ⟨rfl, rfl⟩))) | (apply Run.opA rfl; (· (simp -implicitDefEqProofs; done)); (· (simp -implicitDefEqProofs; exact ⟨rfl, rfl⟩))) | (apply Run.opN rfl; (· (simp -implicitDefEqProofs; done))) | (refine Run.condT ?_ ?_; (· (simp -implicitDefEqProofs; done))) | (refine Run.condF ?_ ?_; (· (simp -implicitDefEqProofs; done))) | refine Run.exit rfl ?_))
  refine Run.opC rfl rfl rfl (rmayL_at ls (by omega) _) ?_
  rintro v h' ⟨rfl, rfl⟩
  cases hm : mayL ls with
  | false =>
    (repeat (first | refine Run.seq ?_ | refine Run.reg ?_ | refine Run.skip ?_ | refine Run.block ?_ | refine Run.endB ?_ | refine Run.opE rfl ?_ | (apply Run.op0 rfl; (· (simp -implicitDefEqProofs [hm]; exact ⟨rfl, rfl⟩))) | (apply Run.opA rfl; (· (simp -implicitDefEqProofs [hm]; done)); (· (simp -implicitDefEqProofs [hm]; exact ⟨rfl, rfl⟩))) | (apply Run.opN rfl; (· (simp -implicitDefEqProofs [hm]; done))) | (refine Run.condT ?_ ?_; (· (simp -implicitDefEqProofs [hm]; done))) | (refine Run.condF ?_ ?_; (· (simp -implicitDefEqProofs [hm]; done))) | refine Run.exit rfl ?_))
    refine Run.mv [] [(2, .vs [] 4), (3, .int .i64 1)] [] (by rfl) (by decide) (by simp -implicitDefEqProofs [VLe.nils]) (by simp -implicitDefEqProofs [VLe.nils]) ?_
    refine Run.retI Try.func13 r13_ok trivial (by simp -implicitDefEqProofs [r13]; rfl) (by simp ) ?_ (by simp -implicitDefEqProofs ) (by simp -implicitDefEqProofs )
    simp [mergeM, hm]
  | true =>
  (repeat (first | refine Run.seq ?_ | refine Run.reg ?_ | refine Run.skip ?_ | refine Run.block ?_ | refine Run.endB ?_ | refine Run.opE rfl ?_ | (apply Run.op0 rfl; (· (simp -implicitDefEqProofs [hm]; exact ⟨rfl, rfl⟩))) | (apply Run.opA rfl; (· (simp -implicitDefEqProofs [hm]; done)); (· (simp -implicitDefEqProofs [hm]; exact ⟨rfl, rfl⟩))) | (apply Run.opN rfl; (· (simp -implicitDefEqProofs [hm]; done))) | (refine Run.condT ?_ ?_; (· (simp -implicitDefEqProofs [hm]; done))) | (refine Run.condF ?_ ?_; (· (simp -implicitDefEqProofs [hm]; done))) | refine Run.exit rfl ?_))
  refine Run.opC rfl rfl rfl (all_at ls hls (mayL_len hm) _) ?_
  rintro v h' ⟨rfl, rfl⟩
  by_cases hl : (allM ls).length ≤ 4096
  · have hl' : ¬ (4096 : Int) < (allM ls).length := by omega
    (repeat (first | refine Run.seq ?_ | refine Run.reg ?_ | refine Run.skip ?_ | refine Run.block ?_ | refine Run.endB ?_ | refine Run.opE rfl ?_ | (apply Run.op0 rfl; (· (simp -implicitDefEqProofs [hl']; exact ⟨rfl, rfl⟩))) | (apply Run.opA rfl; (· (simp -implicitDefEqProofs [hl']; done)); (· (simp -implicitDefEqProofs [hl']; exact ⟨rfl, rfl⟩))) | (apply Run.opN rfl; (· (simp -implicitDefEqProofs [hl']; done))) | (refine Run.condT ?_ ?_; (· (simp -implicitDefEqProofs [hl']; done))) | (refine Run.condF ?_ ?_; (· (simp -implicitDefEqProofs [hl']; done))) | refine Run.exit rfl ?_))
    refine Run.retI Try.func13 r13_ok trivial (by simp -implicitDefEqProofs [r13]; rfl) (by simp ) ?_ (by simp -implicitDefEqProofs ) (by simp -implicitDefEqProofs )
    simp [mergeM, hm, hl]
  · have hl' : (4096 : Int) < (allM ls).length := by omega
    (repeat (first | refine Run.seq ?_ | refine Run.reg ?_ | refine Run.skip ?_ | refine Run.block ?_ | refine Run.endB ?_ | refine Run.opE rfl ?_ | (apply Run.op0 rfl; (· (simp -implicitDefEqProofs [hl']; exact ⟨rfl, rfl⟩))) | (apply Run.opA rfl; (· (simp -implicitDefEqProofs [hl']; done)); (· (simp -implicitDefEqProofs [hl']; exact ⟨rfl, rfl⟩))) | (apply Run.opN rfl; (· (simp -implicitDefEqProofs [hl']; done))) | (refine Run.condT ?_ ?_; (· (simp -implicitDefEqProofs [hl']; done))) | (refine Run.condF ?_ ?_; (· (simp -implicitDefEqProofs [hl']; done))) | refine Run.exit rfl ?_))
    refine Run.mv [] [(2, .vs [] 4), (3, .int .i64 2)] [] (by rfl) (by decide) (by simp -implicitDefEqProofs [VLe.nils]) (by simp -implicitDefEqProofs [VLe.nils]) ?_
    refine Run.retI Try.func13 r13_ok trivial (by simp -implicitDefEqProofs [r13]; rfl) (by simp ) ?_ (by simp -implicitDefEqProofs ) (by simp -implicitDefEqProofs )
    simp [mergeM, hm, hl]
theorem rmerge_at (ls : List (List En)) (hls : ls.length ≤ 100) (H : List O) : Tri Try.prog 13 [.vs (ls.map encL) 1] H (fun v H' => v = .tup [.vs ((mergeM ls).1.map encE) 4, .int .i64 (mergeM ls).2] ∧ H' = H) := (rmerge_tri ls hls).at rfl rfl H

end Go.Proofs.Ytphpkigfmmanhaa
