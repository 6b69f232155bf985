/-
  Layer 11, part C: light; made; whether lists may be merged.
-/
import Derived.Test.YtphpkigfmmanhaaMrgB
namespace Go.Proofs.Ytphpkigfmmanhaa
open Sx Go
set_option maxRecDepth 100000
set_option linter.unusedSimpArgs false
set_option linter.unusedVariables false
set_option linter.unnecessarySimpa false
attribute [local simp] guardB isCall opStep Opd.ev put readAt aBin aUn args0 V.celled V.ones V.one V.cells putAt bounds bound1 elemsOf srcOf appendV fillAt fillEl V.pures V.pure unwind evs ARes.ev mkRes V.ren V.renL O.ren eqCells eq1 aEq aMM hasTy hasTyN okTy mmGo Known HLe OLe VsLe.refl VLe.refl Stay VsLe V.frz V.frzL O.frz fr clearV rn KnownR Objs OLeO ObjsE nm back setAll ren_ite take_map_len List.take_of_length_le
attribute [local simp ↓] upd_app tl_cons tl_nil
attribute [local simp] encE_ren encE_ones encE_len encE_take

def lightE (e : En) : Bool := decide (e.key.length ≤ 100) && decide (e.val.length ≤ 2048)
/-- up to 60 of few bytes -/
def lightM (l : List En) : Bool := (l.take 60).all lightE && decide (l.length ≤ 60)

theorem lightM_len {l : List En} (h : lightM l = true) : l.length ≤ 60 := by simp only [lightM, Bool.and_eq_true, decide_eq_true_eq] at h; exact h.2

theorem light_tri (l : List En) : Tri Try.prog 10 [.vs (l.map encE) 4] [] (fun v H => v = .bool (lightM l) ∧ H = []) := by
  refine Tri.of_run' Try.func10 rfl c10_ok (by simp [Try.ntmps10]) ?_
  (repeat (first | refine Run.seq ?_ | refine Run.reg ?_ | refine Run.skip ?_ | refine Run.block ?_ | refine Run.endB ?_ | refine Run.opE rfl ?_ | (apply Run.op0 rfl; (· (simp -implicitDefEqProofs; exact ⟨rfl, rfl⟩))) | (apply Run.opA rfl; (· (simp -implicitDefEqProofs; done)); (· (simp -implicitDefEqProofs; exact ⟨rfl, rfl⟩))) | (apply Run.opN rfl; (· (simp -implicitDefEqProofs; done))) | (refine Run.condT ?_ ?_; (· (simp -implicitDefEqProofs; done))) | (refine Run.condF ?_ ?_; (· (simp -implicitDefEqProofs; done))) | refine Run.exit rfl ?_))
  refine Run.loopC [] (fun (i : Nat) => ([(0, .vs (l.map encE) 4), (3, .int .i64 i)], [])) (fun i => i ≤ l.length ∧ i ≤ 60 ∧ (l.take 60).all lightE = ((l.take 60).drop i).all lightE) (fun i => l.length - i) 0 (by simp) (by rfl) (by decide) (by simp) (by simp) ?_
  rintro i ⟨hi, hi6, hgo⟩ ih
  by_cases hc : i < l.length ∧ i < 60
  · obtain ⟨hlt, h6⟩ := hc
    obtain ⟨e, he, hei, hdrop, -⟩ := getL hlt
    have h6' : (i : Int) < 60 := by omega
    have hw := wrap_small (n := (i : Int) + 1) (by omega) (by omega)
    have hlt2 : i < (l.take 60).length := by rw [List.length_take]; omega
    obtain ⟨e2, he2, -, hdrop2, -⟩ := getL hlt2
    rw [List.getElem?_take, if_pos h6, he] at he2
    cases he2
    rw [hdrop2, List.all_cons] at hgo
    by_cases h1 : e.key.length ≤ 100
    · have h1' : ¬ (100 : Int) < e.key.length := by omega
      by_cases h2 : e.val.length ≤ 2048
      · have h2' : ¬ (2048 : Int) < e.val.length := by omega
        (repeat (first | refine Run.seq ?_ | refine Run.reg ?_ | refine Run.skip ?_ | refine Run.block ?_ | refine Run.endB ?_ | refine Run.opE rfl ?_ | (apply Run.op0 rfl; (· (simp -implicitDefEqProofs [hlt, h6', h6, he, hei, encE, h1', h2']; exact ⟨rfl, rfl⟩))) | (apply Run.opA rfl; (· (simp -implicitDefEqProofs [hlt, h6', h6, he, hei, encE, h1', h2']; done)); (· (simp -implicitDefEqProofs [hlt, h6', h6, he, hei, encE, h1', h2']; exact ⟨rfl, rfl⟩))) | (apply Run.opN rfl; (· (simp -implicitDefEqProofs [hlt, h6', h6, he, hei, encE, h1', h2']; done))) | (refine Run.condT ?_ ?_; (· (simp -implicitDefEqProofs [hlt, h6', h6, he, hei, encE, h1', h2']; done))) | (refine Run.condF ?_ ?_; (· (simp -implicitDefEqProofs [hlt, h6', h6, he, hei, encE, h1', h2']; done))) | refine Run.exit rfl ?_))
        refine Run.mv [] _ _ (by rfl) (by decide) (by simp -implicitDefEqProofs [hw]) (by simp -implicitDefEqProofs [hw]) (ih (i + 1) ?_ ?_)
        · exact ⟨by omega, by omega, by rw [hgo]; simp [lightE, h1, h2]⟩
        · omega
      · have h2' : (2048 : Int) < e.val.length := by omega
        (repeat (first | refine Run.seq ?_ | refine Run.reg ?_ | refine Run.skip ?_ | refine Run.block ?_ | refine Run.endB ?_ | refine Run.opE rfl ?_ | (apply Run.op0 rfl; (· (simp -implicitDefEqProofs [hlt, h6', h6, he, hei, encE, h1', h2']; exact ⟨rfl, rfl⟩))) | (apply Run.opA rfl; (· (simp -implicitDefEqProofs [hlt, h6', h6, he, hei, encE, h1', h2']; done)); (· (simp -implicitDefEqProofs [hlt, h6', h6, he, hei, encE, h1', h2']; exact ⟨rfl, rfl⟩))) | (apply Run.opN rfl; (· (simp -implicitDefEqProofs [hlt, h6', h6, he, hei, encE, h1', h2']; done))) | (refine Run.condT ?_ ?_; (· (simp -implicitDefEqProofs [hlt, h6', h6, he, hei, encE, h1', h2']; done))) | (refine Run.condF ?_ ?_; (· (simp -implicitDefEqProofs [hlt, h6', h6, he, hei, encE, h1', h2']; done))) | refine Run.exit rfl ?_))
        refine Run.retI Try.func10 r10_ok trivial (by simp -implicitDefEqProofs [r10]; rfl) (by simp ) ?_ (by simp -implicitDefEqProofs ) (by simp -implicitDefEqProofs )
        simp [lightM, hgo, lightE, h2]
    · have h1' : (100 : Int) < e.key.length := by omega
      (repeat (first | refine Run.seq ?_ | refine Run.reg ?_ | refine Run.skip ?_ | refine Run.block ?_ | refine Run.endB ?_ | refine Run.opE rfl ?_ | (apply Run.op0 rfl; (· (simp -implicitDefEqProofs [hlt, h6', h6, he, hei, encE, h1']; exact ⟨rfl, rfl⟩))) | (apply Run.opA rfl; (· (simp -implicitDefEqProofs [hlt, h6', h6, he, hei, encE, h1']; done)); (· (simp -implicitDefEqProofs [hlt, h6', h6, he, hei, encE, h1']; exact ⟨rfl, rfl⟩))) | (apply Run.opN rfl; (· (simp -implicitDefEqProofs [hlt, h6', h6, he, hei, encE, h1']; done))) | (refine Run.condT ?_ ?_; (· (simp -implicitDefEqProofs [hlt, h6', h6, he, hei, encE, h1']; done))) | (refine Run.condF ?_ ?_; (· (simp -implicitDefEqProofs [hlt, h6', h6, he, hei, encE, h1']; done))) | refine Run.exit rfl ?_))
      refine Run.retI Try.func10 r10_ok trivial (by simp -implicitDefEqProofs [r10]; rfl) (by simp ) ?_ (by simp -implicitDefEqProofs ) (by simp -implicitDefEqProofs )
      simp [lightM, hgo, lightE, h1]
  · have hall : (l.take 60).all lightE = true := by
      rw [hgo, List.drop_eq_nil_of_le (by rw [List.length_take]; omega)]; rfl
    have hfin : lightM l = decide (l.length ≤ 60) := by simp only [lightM, hall, Bool.true_and]
    have hle : ((l.length : Int) ≤ 60) = (l.length ≤ 60) := by rw [eq_iff_iff]; omega
    by_cases hlt : i < l.length
    · have h6' : ¬ (i : Int) < 60 := by omega
      have h6 : ¬ i < 60 := by omega
      (repeat (first | refine Run.seq ?_ | refine Run.reg ?_ | refine Run.skip ?_ | refine Run.block ?_ | refine Run.endB ?_ | refine Run.opE rfl ?_ | (apply Run.op0 rfl; (· (simp -implicitDefEqProofs [hlt, h6', h6]; exact ⟨rfl, rfl⟩))) | (apply Run.opA rfl; (· (simp -implicitDefEqProofs [hlt, h6', h6]; done)); (· (simp -implicitDefEqProofs [hlt, h6', h6]; exact ⟨rfl, rfl⟩))) | (apply Run.opN rfl; (· (simp -implicitDefEqProofs [hlt, h6', h6]; done))) | (refine Run.condT ?_ ?_; (· (simp -implicitDefEqProofs [hlt, h6', h6]; done))) | (refine Run.condF ?_ ?_; (· (simp -implicitDefEqProofs [hlt, h6', h6]; done))) | refine Run.exit rfl ?_))
      refine Run.retI Try.func10 r10_ok trivial (by simp -implicitDefEqProofs [r10]; rfl) (by simp ) ?_ (by simp -implicitDefEqProofs ) (by simp -implicitDefEqProofs )
      simp [hfin, hle]
    · (repeat (first | refine Run.seq ?_ | refine Run.reg ?_ | refine Run.skip ?_ | refine Run.block ?_ | refine Run.endB ?_ | refine Run.opE rfl ?_ | (apply Run.op0 rfl; (· (simp -implicitDefEqProofs [hlt]; exact ⟨rfl, rfl⟩))) | (apply Run.opA rfl; (· (simp -implicitDefEqProofs [hlt]; done)); (· (simp -implicitDefEqProofs [hlt]; exact ⟨rfl, rfl⟩))) | (apply Run.opN rfl; (· (simp -implicitDefEqProofs [hlt]; done))) | (refine Run.condT ?_ ?_; (· (simp -implicitDefEqProofs [hlt]; done))) | (refine Run.condF ?_ ?_; (· (simp -implicitDefEqProofs [hlt]; done))) | refine Run.exit rfl ?_))
      refine Run.retI Try.func10 r10_ok trivial (by simp -implicitDefEqProofs [r10]; rfl) (by simp ) ?_ (by simp -implicitDefEqProofs ) (by simp -implicitDefEqProofs )
      simp [hfin, hle]
theorem light_at (l : List En) (H : List O) : Tri Try.prog 10 [.vs (l.map encE) 4] H (fun v H' => v = .bool (lightM l) ∧ H' = H) := (light_tri l).at rfl rfl H

def madeM (l : List En) : List En := l.foldl put1 []
theorem foldl_put1_len : ∀ (l o : List En), (l.foldl put1 o).length ≤ o.length + l.length
  | [], o => by simp
  | e :: l, o => by
    have h1 := foldl_put1_len l (put1 o e); have h2 := put1_len o e
    simp only [List.foldl_cons, List.length_cons]; omega
theorem madeM_len (l : List En) : (madeM l).length ≤ l.length := by simpa [madeM] using foldl_put1_len l []

theorem made_tri (l : List En) (hll : l.length ≤ 100000) : Tri Try.prog 14 [.vs (l.map encE) 4] [] (fun v H => v = .vs ((madeM l).map encE) 4 ∧ H = []) := by
  refine Tri.of_run' Try.func14 rfl c14_ok (by simp [Try.ntmps14]) ?_
  (repeat (first | refine Run.seq ?_ | refine Run.reg ?_ | refine Run.skip ?_ | refine Run.block ?_ | refine Run.endB ?_ | refine Run.opE rfl ?_ | (apply Run.op0 rfl; (· (simp -implicitDefEqProofs; exact ⟨rfl, rfl⟩))) | (apply Run.opA rfl; (· (simp -implicitDefEqProofs; done)); (· (simp -implicitDefEqProofs; exact ⟨rfl, rfl⟩))) | (apply Run.opN rfl; (· (simp -implicitDefEqProofs; done))) | (refine Run.condT ?_ ?_; (· (simp -implicitDefEqProofs; done))) | (refine Run.condF ?_ ?_; (· (simp -implicitDefEqProofs; done))) | refine Run.exit rfl ?_))
  refine Run.loopC [] (fun (a : Nat × List En) => ([(0, .vs (l.map encE) 4), (3, .vs (a.2.map encE) 4), (4, .int .i64 a.1)], []))
    (fun a => a.1 ≤ l.length ∧ a.2.length ≤ a.1 ∧ madeM l = (l.drop a.1).foldl put1 a.2) (fun a => l.length - a.1) (0, []) (by simp [madeM]) (by rfl) (by decide) (by simp [VLe.nils]) (by simp) ?_
  rintro ⟨i, o⟩ ⟨hi, ho, hgo⟩ ih
  simp only at hi ho hgo ih ⊢
  by_cases hlt : i < l.length
  · obtain ⟨e, he, hei, hdrop, -⟩ := getL hlt
    have hw := wrap_small (n := (i : Int) + 1) (by omega) (by omega)
    have hp := put1_tri_at o (by omega) e
    simp only [encE] at hp
    rw [hdrop, List.foldl_cons] at hgo
    (repeat (first | refine Run.seq ?_ | refine Run.reg ?_ | refine Run.skip ?_ | refine Run.block ?_ | refine Run.endB ?_ | refine Run.opE rfl ?_ | (apply Run.op0 rfl; (· (simp -implicitDefEqProofs [hlt, he, hei, encE]; exact ⟨rfl, rfl⟩))) | (apply Run.opA rfl; (· (simp -implicitDefEqProofs [hlt, he, hei, encE]; done)); (· (simp -implicitDefEqProofs [hlt, he, hei, encE]; exact ⟨rfl, rfl⟩))) | (apply Run.opN rfl; (· (simp -implicitDefEqProofs [hlt, he, hei, encE]; done))) | (refine Run.condT ?_ ?_; (· (simp -implicitDefEqProofs [hlt, he, hei, encE]; done))) | (refine Run.condF ?_ ?_; (· (simp -implicitDefEqProofs [hlt, he, hei, encE]; done))) | refine Run.exit rfl ?_))
    refine Run.opC rfl rfl rfl (hp _) ?_
    rintro v h' ⟨rfl, rfl⟩
    have hpl := put1_len o e
    (repeat (first | refine Run.seq ?_ | refine Run.reg ?_ | refine Run.skip ?_ | refine Run.block ?_ | refine Run.endB ?_ | refine Run.opE rfl ?_ | (apply Run.op0 rfl; (· (simp -implicitDefEqProofs; exact ⟨rfl, rfl⟩))) | (apply Run.opA rfl; (· (simp -implicitDefEqProofs; done)); (· (simp -implicitDefEqProofs; exact ⟨rfl, rfl⟩))) | (apply Run.opN rfl; (· (simp -implicitDefEqProofs; done))) | (refine Run.condT ?_ ?_; (· (simp -implicitDefEqProofs; done))) | (refine Run.condF ?_ ?_; (· (simp -implicitDefEqProofs; done))) | refine Run.exit rfl ?_))
    refine Run.mv [] _ _ (by rfl) (by decide) (by simp -implicitDefEqProofs [hw]) (by simp -implicitDefEqProofs [hw]) (ih ((i + 1, put1 o e)) ?_ ?_)
    · exact ⟨by simp only; omega, by simp only; omega, hgo⟩
    · simp only; omega
  · have : i = l.length := by omega
    subst this
    (repeat (first | refine Run.seq ?_ | refine Run.reg ?_ | refine Run.skip ?_ | refine Run.block ?_ | refine Run.endB ?_ | refine Run.opE rfl ?_ | (apply Run.op0 rfl; (· (simp -implicitDefEqProofs; exact ⟨rfl, rfl⟩))) | (apply Run.opA rfl; (· (simp -implicitDefEqProofs; done)); (· (simp -implicitDefEqProofs; exact ⟨rfl, rfl⟩))) | (apply Run.opN rfl; (· (simp -implicitDefEqProofs; done))) | (refine Run.condT ?_ ?_; (· (simp -implicitDefEqProofs; done))) | (refine Run.condF ?_ ?_; (· (simp -implicitDefEqProofs; done))) | refine Run.exit rfl ?_))
    refine Run.retI Try.func14 r14_ok trivial (by simp -implicitDefEqProofs [r14]; rfl) (by simp ) ?_ (by simp -implicitDefEqProofs ) (by simp -implicitDefEqProofs )
    simp [hgo]
theorem made_at (l : List En) (hll : l.length ≤ 100000) (H : List O) : Tri Try.prog 14 [.vs (l.map encE) 4] H (fun v H' => v = .vs ((madeM l).map encE) 4 ∧ H' = H) := (made_tri l hll).at rfl rfl H

/-! ### may of merge -/

theorem chk_tri (l : List En) : Tri Try.prog 42 [.vs (l.map encE) 4] [] (fun v H => v = .bool (!checkE l) ∧ H = []) := by
  refine Tri.of_run' Try.func42 rfl c42_ok (by simp [Try.ntmps42]) ?_
  (repeat (first | refine Run.seq ?_ | refine Run.reg ?_ | refine Run.skip ?_ | refine Run.block ?_ | refine Run.endB ?_ | refine Run.opE rfl ?_ | (apply Run.op0 rfl; (· (simp -implicitDefEqProofs; exact ⟨rfl, rfl⟩))) | (apply Run.opA rfl; (· (simp -implicitDefEqProofs; done)); (· (simp -implicitDefEqProofs; exact ⟨rfl, rfl⟩))) | (apply Run.opN rfl; (· (simp -implicitDefEqProofs; done))) | (refine Run.condT ?_ ?_; (· (simp -implicitDefEqProofs; done))) | (refine Run.condF ?_ ?_; (· (simp -implicitDefEqProofs; done))) | refine Run.exit rfl ?_))
  refine Run.opC rfl rfl rfl (check_at l _) ?_
  rintro v h' ⟨rfl, rfl⟩
  cases hc : checkE l <;> (repeat (first | refine Run.seq ?_ | refine Run.reg ?_ | refine Run.skip ?_ | refine Run.block ?_ | refine Run.endB ?_ | refine Run.opE rfl ?_ | (apply Run.op0 rfl; (· (simp -implicitDefEqProofs [errE]; exact ⟨rfl, rfl⟩))) | (apply Run.opA rfl; (· (simp -implicitDefEqProofs [errE]; done)); (· (simp -implicitDefEqProofs [errE]; exact ⟨rfl, rfl⟩))) | (apply Run.opN rfl; (· (simp -implicitDefEqProofs [errE]; done))) | (refine Run.condT ?_ ?_; (· (simp -implicitDefEqProofs [errE]; done))) | (refine Run.condF ?_ ?_; (· (simp -implicitDefEqProofs [errE]; done))) | refine Run.exit rfl ?_))
  · refine Run.retI Try.func42 r42_ok trivial (by simp -implicitDefEqProofs [r42]; rfl) (by simp ) ?_ (by simp -implicitDefEqProofs ) (by simp -implicitDefEqProofs )
    simp
  · refine Run.retI Try.func42 r42_ok trivial (by simp -implicitDefEqProofs [r42]; rfl) (by simp ) ?_ (by simp -implicitDefEqProofs ) (by simp -implicitDefEqProofs )
    simp
theorem chk_at (l : List En) (H : List O) : Tri Try.prog 42 [.vs (l.map encE) 4] H (fun v H' => v = .bool (!checkE l) ∧ H' = H) := (chk_tri l).at rfl rfl H

/-- a place, or -1 -/
def idxI (o : Option Nat) : Int := match o with | some i => i | none => -1

theorem idxL_tri (ls : List (List En)) (hls : ls.length ≤ 1000000) : Tri Try.prog 48 [.vs (ls.map encL) 1, .fn 42 []] [] (fun v H => v = .int .i64 (idxI (ls.findIdx? (fun l => !checkE l))) ∧ H = []) := by
  refine Tri.of_run' Try.func48 rfl c48_ok (by simp [Try.ntmps48]) ?_
  (repeat (first | refine Run.seq ?_ | refine Run.reg ?_ | refine Run.skip ?_ | refine Run.block ?_ | refine Run.endB ?_ | refine Run.opE rfl ?_ | (apply Run.op0 rfl; (· (simp -implicitDefEqProofs; exact ⟨rfl, rfl⟩))) | (apply Run.opA rfl; (· (simp -implicitDefEqProofs; done)); (· (simp -implicitDefEqProofs; exact ⟨rfl, rfl⟩))) | (apply Run.opN rfl; (· (simp -implicitDefEqProofs; done))) | (refine Run.condT ?_ ?_; (· (simp -implicitDefEqProofs; done))) | (refine Run.condF ?_ ?_; (· (simp -implicitDefEqProofs; done))) | refine Run.exit rfl ?_))
  refine Run.loopC [] (fun (i : Nat) => ([(0, .vs (ls.map encL) 1), (1, .fn 42 []), (7, .int .i64 ls.length), (8, .int .i64 i)], [])) (fun i => i ≤ ls.length ∧ ls.findIdx? (fun l => !checkE l) = ((ls.drop i).findIdx? (fun l => !checkE l)).map (· + i)) (fun i => ls.length - i) 0 (by simp) (by rfl) (by decide) (by simp) (by simp) ?_
  rintro i ⟨hi, hgo⟩ ih
  by_cases hlt : i < ls.length
  · obtain ⟨l, hl, hli, hdrop, -⟩ := getL hlt
    have hw := wrap_small (n := (i : Int) + 1) (by omega) (by omega)
    rw [hdrop, List.findIdx?_cons] at hgo
    (repeat (first | refine Run.seq ?_ | refine Run.reg ?_ | refine Run.skip ?_ | refine Run.block ?_ | refine Run.endB ?_ | refine Run.opE rfl ?_ | (apply Run.op0 rfl; (· (simp -implicitDefEqProofs [hlt, hl, hli, encL]; exact ⟨rfl, rfl⟩))) | (apply Run.opA rfl; (· (simp -implicitDefEqProofs [hlt, hl, hli, encL]; done)); (· (simp -implicitDefEqProofs [hlt, hl, hli, encL]; exact ⟨rfl, rfl⟩))) | (apply Run.opN rfl; (· (simp -implicitDefEqProofs [hlt, hl, hli, encL]; done))) | (refine Run.condT ?_ ?_; (· (simp -implicitDefEqProofs [hlt, hl, hli, encL]; done))) | (refine Run.condF ?_ ?_; (· (simp -implicitDefEqProofs [hlt, hl, hli, encL]; done))) | refine Run.exit rfl ?_))
    refine Run.opC rfl rfl rfl (chk_at l _) ?_
    rintro v h' ⟨rfl, rfl⟩
    cases hc : checkE l with
    | true =>
      (repeat (first | refine Run.seq ?_ | refine Run.reg ?_ | refine Run.skip ?_ | refine Run.block ?_ | refine Run.endB ?_ | refine Run.opE rfl ?_ | (apply Run.op0 rfl; (· (simp -implicitDefEqProofs; exact ⟨rfl, rfl⟩))) | (apply Run.opA rfl; (· (simp -implicitDefEqProofs; done)); (· (simp -implicitDefEqProofs; exact ⟨rfl, rfl⟩))) | (apply Run.opN rfl; (· (simp -implicitDefEqProofs; done))) | (refine Run.condT ?_ ?_; (· (simp -implicitDefEqProofs; done))) | (refine Run.condF ?_ ?_; (· (simp -implicitDefEqProofs; done))) | refine Run.exit rfl ?_))
      refine Run.mv [] _ _ (by rfl) (by decide) (by simp -implicitDefEqProofs [hw]) (by simp -implicitDefEqProofs [hw]) (ih (i + 1) ?_ ?_)
      · refine ⟨by omega, ?_⟩
        rw [hgo, hc]
        simp only [Bool.not_true, Bool.false_eq_true, if_false, Option.map_map]
        congr 1; funext x; simp; omega
      · omega
    | false =>
      (repeat (first | refine Run.seq ?_ | refine Run.reg ?_ | refine Run.skip ?_ | refine Run.block ?_ | refine Run.endB ?_ | refine Run.opE rfl ?_ | (apply Run.op0 rfl; (· (simp -implicitDefEqProofs; exact ⟨rfl, rfl⟩))) | (apply Run.opA rfl; (· (simp -implicitDefEqProofs; done)); (· (simp -implicitDefEqProofs; exact ⟨rfl, rfl⟩))) | (apply Run.opN rfl; (· (simp -implicitDefEqProofs; done))) | (refine Run.condT ?_ ?_; (· (simp -implicitDefEqProofs; done))) | (refine Run.condF ?_ ?_; (· (simp -implicitDefEqProofs; done))) | refine Run.exit rfl ?_))
      refine Run.retI Try.func48 r48_ok trivial (by simp -implicitDefEqProofs [r48]; rfl) (by simp ) ?_ (by simp -implicitDefEqProofs ) (by simp -implicitDefEqProofs )
      rw [hgo, hc]; simp [idxI]
  · have : i = ls.length := by omega
    subst this
    (repeat (first | refine Run.seq ?_ | refine Run.reg ?_ | refine Run.skip ?_ | refine Run.block ?_ | refine Run.endB ?_ | refine Run.opE rfl ?_ | (apply Run.op0 rfl; (· (simp -implicitDefEqProofs; exact ⟨rfl, rfl⟩))) | (apply Run.opA rfl; (· (simp -implicitDefEqProofs; done)); (· (simp -implicitDefEqProofs; exact ⟨rfl, rfl⟩))) | (apply Run.opN rfl; (· (simp -implicitDefEqProofs; done))) | (refine Run.condT ?_ ?_; (· (simp -implicitDefEqProofs; done))) | (refine Run.condF ?_ ?_; (· (simp -implicitDefEqProofs; done))) | refine Run.exit rfl ?_))
    refine Run.retI Try.func48 r48_ok trivial (by simp -implicitDefEqProofs [r48]; rfl) (by simp ) ?_ (by simp -implicitDefEqProofs ) (by simp -implicitDefEqProofs )
    rw [hgo, List.drop_length]; simp [idxI]
theorem idxL_at (ls : List (List En)) (hls : ls.length ≤ 1000000) (H : List O) : Tri Try.prog 48 [.vs (ls.map encL) 1, .fn 42 []] H (fun v H' => v = .int .i64 (idxI (ls.findIdx? (fun l => !checkE l))) ∧ H' = H) := (idxL_tri ls hls).at rfl rfl H

theorem hasL_tri (ls : List (List En)) (hls : ls.length ≤ 1000000) : Tri Try.prog 41 [.vs (ls.map encL) 1, .fn 42 []] [] (fun v H => v = .bool (!mayL ls) ∧ H = []) := by
  refine Tri.of_run' Try.func41 rfl c41_ok (by simp [Try.ntmps41]) ?_
  (repeat (first | refine Run.seq ?_ | refine Run.reg ?_ | refine Run.skip ?_ | refine Run.block ?_ | refine Run.endB ?_ | refine Run.opE rfl ?_ | (apply Run.op0 rfl; (· (simp -implicitDefEqProofs; exact ⟨rfl, rfl⟩))) | (apply Run.opA rfl; (· (simp -implicitDefEqProofs; done)); (· (simp -implicitDefEqProofs; exact ⟨rfl, rfl⟩))) | (apply Run.opN rfl; (· (simp -implicitDefEqProofs; done))) | (refine Run.condT ?_ ?_; (· (simp -implicitDefEqProofs; done))) | (refine Run.condF ?_ ?_; (· (simp -implicitDefEqProofs; done))) | refine Run.exit rfl ?_))
  refine Run.opC rfl rfl rfl (idxL_at ls hls _) ?_
  rintro v h' ⟨rfl, rfl⟩
  have hm : (!mayL ls) = (ls.findIdx? (fun l => !checkE l)).isSome := by
    rw [List.findIdx?_isSome, mayL]
    simp [List.any_eq_not_all_not]
  (repeat (first | refine Run.seq ?_ | refine Run.reg ?_ | refine Run.skip ?_ | refine Run.block ?_ | refine Run.endB ?_ | refine Run.opE rfl ?_ | (apply Run.op0 rfl; (· (simp -implicitDefEqProofs; exact ⟨rfl, rfl⟩))) | (apply Run.opA rfl; (· (simp -implicitDefEqProofs; done)); (· (simp -implicitDefEqProofs; exact ⟨rfl, rfl⟩))) | (apply Run.opN rfl; (· (simp -implicitDefEqProofs; done))) | (refine Run.condT ?_ ?_; (· (simp -implicitDefEqProofs; done))) | (refine Run.condF ?_ ?_; (· (simp -implicitDefEqProofs; done))) | refine Run.exit rfl ?_))
  refine Run.retI Try.func41 r41_ok trivial (by simp -implicitDefEqProofs [r41]; rfl) (by simp ) ?_ (by simp -implicitDefEqProofs ) (by simp -implicitDefEqProofs )
  rw [hm]
  cases ls.findIdx? (fun l => !checkE l) <;> simp [idxI]
theorem hasL_at (ls : List (List En)) (hls : ls.length ≤ 1000000) (H : List O) : Tri Try.prog 41 [.vs (ls.map encL) 1, .fn 42 []] H (fun v H' => v = .bool (!mayL ls) ∧ H' = H) := (hasL_tri ls hls).at rfl rfl H

theorem mayL_tri (ls : List (List En)) (hls : ls.length ≤ 1000000) : Tri Try.prog 26 [.vs (ls.map encL) 1] [] (fun v H => v = .bool (mayL ls) ∧ H = []) := by
  refine Tri.of_run' Try.func26 rfl c26_ok (by simp [Try.ntmps26]) ?_
  (repeat (first | refine Run.seq ?_ | refine Run.reg ?_ | refine Run.skip ?_ | refine Run.block ?_ | refine Run.endB ?_ | refine Run.opE rfl ?_ | (apply Run.op0 rfl; (· (simp -implicitDefEqProofs; exact ⟨rfl, rfl⟩))) | (apply Run.opA rfl; (· (simp -implicitDefEqProofs; done)); (· (simp -implicitDefEqProofs; exact ⟨rfl, rfl⟩))) | (apply Run.opN rfl; (· (simp -implicitDefEqProofs; done))) | (refine Run.condT ?_ ?_; (· (simp -implicitDefEqProofs; done))) | (refine Run.condF ?_ ?_; (· (simp -implicitDefEqProofs; done))) | refine Run.exit rfl ?_))
  refine Run.opC rfl rfl rfl (hasL_at ls hls _) ?_
  rintro v h' ⟨rfl, rfl⟩
  (repeat (first | refine Run.seq ?_ | refine Run.reg ?_ | refine Run.skip ?_ | refine Run.block ?_ | refine Run.endB ?_ | refine Run.opE rfl ?_ | (apply Run.op0 rfl; (· (simp -implicitDefEqProofs; exact ⟨rfl, rfl⟩))) | (apply Run.opA rfl; (· (simp -implicitDefEqProofs; done)); (· (simp -implicitDefEqProofs; exact ⟨rfl, rfl⟩))) | (apply Run.opN rfl; (· (simp -implicitDefEqProofs; done))) | (refine Run.condT ?_ ?_; (· (simp -implicitDefEqProofs; done))) | (refine Run.condF ?_ ?_; (· (simp -implicitDefEqProofs; done))) | refine Run.exit rfl ?_))
  refine Run.retI Try.func26 r26_ok trivial (by simp -implicitDefEqProofs [r26]; rfl) (by simp ) ?_ (by simp -implicitDefEqProofs ) (by simp -implicitDefEqProofs )
  simp
theorem mayL_at (ls : List (List En)) (hls : ls.length ≤ 1000000) (H : List O) : Tri Try.prog 26 [.vs (ls.map encL) 1] H (fun v H' => v = .bool (mayL ls) ∧ H' = H) := (mayL_tri ls hls).at rfl rfl H

end Go.Proofs.Ytphpkigfmmanhaa
