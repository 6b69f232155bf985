/-
  Entries: what they are; their order; which may be a block's: both.
-/
import Derived.Test.YtphpkigfmmanhaaBase
namespace Go.Proofs.Ytphpkigfmmanhaa
open Sx Go
set_option maxRecDepth 100000
set_option linter.unusedSimpArgs false
set_option linter.unusedVariables false
set_option linter.unnecessarySimpa false
attribute [local simp] guardB isCall opStep Opd.ev put readAt aBin aUn args0 V.celled V.ones V.one V.cells putAt bounds bound1 elemsOf srcOf appendV fillAt fillEl V.pures V.pure unwind evs ARes.ev mkRes V.ren V.renL O.ren eqCells eq1 aEq aMM hasTy hasTyN okTy mmGo Known HLe OLe VsLe.refl VLe.refl Stay VsLe V.frz V.frzL O.frz fr clearV rn KnownR Objs OLeO ObjsE nm back setAll ren_ite take_map_len List.take_of_length_le
attribute [local simp ↓] upd_app tl_cons tl_nil

/-- an entry -/
structure En where
  key : List UInt8
  val : List UInt8
  gone : Bool
  seq : Int
  deriving DecidableEq

def encE (e : En) : List V := [.str e.key, .str e.val, .bool e.gone, .int .i64 e.seq]
theorem encE_len (e : En) : (encE e).length = 4 := rfl
theorem encE_ones (e : En) : V.ones (encE e) = true := rfl
theorem encE_pure (e : En) : V.pures (encE e) = true := rfl
theorem encE_ren (ρ) (e : En) : V.renL ρ (encE e) = encE e := rfl
theorem encE_take (e : En) : (encE e).take 4 = encE e := rfl
theorem encE_inj {a b : En} (h : encE a = encE b) : a = b := by
  obtain ⟨a1, a2, a3, a4⟩ := a; obtain ⟨b1, b2, b3, b4⟩ := b
  simp only [encE, List.cons.injEq, V.str.injEq, V.bool.injEq, V.int.injEq, true_and, and_true] at h
  obtain ⟨rfl, rfl, rfl, rfl⟩ := h; rfl

def keyB (s : List UInt8) : Bool := decide (s ≠ []) && decide (s.length ≤ 64)
def mayE (e : En) : Bool := keyB e.key && decide (e.val.length ≤ 256) && !(e.gone && decide (e.val ≠ [])) && decide (1 ≤ e.seq) && decide (e.seq ≤ 1099511627775)
def lessE (a b : En) : Bool := if a.key = b.key then decide (b.seq < a.seq) else Op.bytesLess a.key b.key
def goE : Option En → List En → Bool
  | _, [] => true
  | p, e :: l => mayE e && (match p with | none => true | some q => lessE q e) && goE (some e) l
def checkE (l : List En) : Bool := decide (l.length ≤ 4096) && goE none l
def errE (b : Bool) : Int := if b then 0 else 1

theorem mayE_spec {e : En} (h : mayE e = true) : e.key ≠ [] ∧ e.key.length ≤ 64 ∧ e.val.length ≤ 256 ∧ (e.gone = true → e.val = []) ∧ 1 ≤ e.seq ∧ e.seq ≤ 1099511627775 := by
  simp only [mayE, keyB, Bool.and_eq_true, decide_eq_true_eq, Bool.not_eq_true', Bool.and_eq_false_iff, decide_eq_false_iff_not, ne_eq, Classical.not_not] at h
  obtain ⟨⟨⟨⟨⟨h1, h2⟩, h3⟩, h4⟩, h5⟩, h6⟩ := h
  refine ⟨h1, h2, h3, fun hg => ?_, h5, h6⟩
  rcases h4 with h4 | h4
  · rw [hg] at h4; cases h4
  · exact h4

theorem skey_tri (s : List UInt8) : Tri Try.prog 50 [.str s] [] (fun v H => v = .bool (keyB s) ∧ H = []) := by
  refine Tri.of_run' Try.func50 rfl c50_ok (by simp [Try.ntmps50]) ?_
  by_cases hs : s = []
  · (repeat (first | refine Run.seq ?_ | refine Run.reg ?_ | refine Run.skip ?_ | refine Run.block ?_ | refine Run.endB ?_ | refine Run.opE rfl ?_ | (apply Run.op0 rfl; (· (simp -implicitDefEqProofs [hs]; exact ⟨rfl, rfl⟩))) | (apply Run.opA rfl; (· (simp -implicitDefEqProofs [hs]; done)); (· (simp -implicitDefEqProofs [hs]; exact ⟨rfl, rfl⟩))) | (apply Run.opN rfl; (· (simp -implicitDefEqProofs [hs]; done))) | (refine Run.condT ?_ ?_; (· (simp -implicitDefEqProofs [hs]; done))) | (refine Run.condF ?_ ?_; (· (simp -implicitDefEqProofs [hs]; done))) | refine Run.exit rfl ?_))
    refine Run.retI Try.func50 r50_ok trivial (by simp -implicitDefEqProofs [r50]; rfl) (by simp ) ?_ (by simp -implicitDefEqProofs ) (by simp -implicitDefEqProofs )
    simp [keyB, hs]
  · by_cases hl : s.length ≤ 64
    · have hl' : (s.length : Int) ≤ 64 := by omega
      (repeat (first | refine Run.seq ?_ | refine Run.reg ?_ | refine Run.skip ?_ | refine Run.block ?_ | refine Run.endB ?_ | refine Run.opE rfl ?_ | (apply Run.op0 rfl; (· (simp -implicitDefEqProofs [hs, hl, hl']; exact ⟨rfl, rfl⟩))) | (apply Run.opA rfl; (· (simp -implicitDefEqProofs [hs, hl, hl']; done)); (· (simp -implicitDefEqProofs [hs, hl, hl']; exact ⟨rfl, rfl⟩))) | (apply Run.opN rfl; (· (simp -implicitDefEqProofs [hs, hl, hl']; done))) | (refine Run.condT ?_ ?_; (· (simp -implicitDefEqProofs [hs, hl, hl']; done))) | (refine Run.condF ?_ ?_; (· (simp -implicitDefEqProofs [hs, hl, hl']; done))) | refine Run.exit rfl ?_))
      refine Run.retI Try.func50 r50_ok trivial (by simp -implicitDefEqProofs [r50]; rfl) (by simp ) ?_ (by simp -implicitDefEqProofs ) (by simp -implicitDefEqProofs )
      simp [keyB, hs, hl]
    · have hl' : ¬ (s.length : Int) ≤ 64 := by omega
      (repeat (first | refine Run.seq ?_ | refine Run.reg ?_ | refine Run.skip ?_ | refine Run.block ?_ | refine Run.endB ?_ | refine Run.opE rfl ?_ | (apply Run.op0 rfl; (· (simp -implicitDefEqProofs [hs, hl, hl']; exact ⟨rfl, rfl⟩))) | (apply Run.opA rfl; (· (simp -implicitDefEqProofs [hs, hl, hl']; done)); (· (simp -implicitDefEqProofs [hs, hl, hl']; exact ⟨rfl, rfl⟩))) | (apply Run.opN rfl; (· (simp -implicitDefEqProofs [hs, hl, hl']; done))) | (refine Run.condT ?_ ?_; (· (simp -implicitDefEqProofs [hs, hl, hl']; done))) | (refine Run.condF ?_ ?_; (· (simp -implicitDefEqProofs [hs, hl, hl']; done))) | refine Run.exit rfl ?_))
      refine Run.retI Try.func50 r50_ok trivial (by simp -implicitDefEqProofs [r50]; rfl) (by simp ) ?_ (by simp -implicitDefEqProofs ) (by simp -implicitDefEqProofs )
      simp [keyB, hs, hl]

theorem xkey_tri (s : List UInt8) : Tri Try.prog 47 [.str s] [] (fun v H => v = .bool (keyB s) ∧ H = []) := by
  refine Tri.of_run' Try.func47 rfl c47_ok (by simp [Try.ntmps47]) ?_
  by_cases hs : s = []
  · (repeat (first | refine Run.seq ?_ | refine Run.reg ?_ | refine Run.skip ?_ | refine Run.block ?_ | refine Run.endB ?_ | refine Run.opE rfl ?_ | (apply Run.op0 rfl; (· (simp -implicitDefEqProofs [hs]; exact ⟨rfl, rfl⟩))) | (apply Run.opA rfl; (· (simp -implicitDefEqProofs [hs]; done)); (· (simp -implicitDefEqProofs [hs]; exact ⟨rfl, rfl⟩))) | (apply Run.opN rfl; (· (simp -implicitDefEqProofs [hs]; done))) | (refine Run.condT ?_ ?_; (· (simp -implicitDefEqProofs [hs]; done))) | (refine Run.condF ?_ ?_; (· (simp -implicitDefEqProofs [hs]; done))) | refine Run.exit rfl ?_))
    refine Run.retI Try.func47 r47_ok trivial (by simp -implicitDefEqProofs [r47]; rfl) (by simp ) ?_ (by simp -implicitDefEqProofs ) (by simp -implicitDefEqProofs )
    simp [keyB, hs]
  · have h1 : (1 : Int) ≤ s.length := by have := List.length_pos_iff.2 hs; omega
    by_cases hl : s.length ≤ 64
    · have hl' : (s.length : Int) ≤ 64 := by omega
      (repeat (first | refine Run.seq ?_ | refine Run.reg ?_ | refine Run.skip ?_ | refine Run.block ?_ | refine Run.endB ?_ | refine Run.opE rfl ?_ | (apply Run.op0 rfl; (· (simp -implicitDefEqProofs [hs, hl, hl', h1]; exact ⟨rfl, rfl⟩))) | (apply Run.opA rfl; (· (simp -implicitDefEqProofs [hs, hl, hl', h1]; done)); (· (simp -implicitDefEqProofs [hs, hl, hl', h1]; exact ⟨rfl, rfl⟩))) | (apply Run.opN rfl; (· (simp -implicitDefEqProofs [hs, hl, hl', h1]; done))) | (refine Run.condT ?_ ?_; (· (simp -implicitDefEqProofs [hs, hl, hl', h1]; done))) | (refine Run.condF ?_ ?_; (· (simp -implicitDefEqProofs [hs, hl, hl', h1]; done))) | refine Run.exit rfl ?_))
      refine Run.retI Try.func47 r47_ok trivial (by simp -implicitDefEqProofs [r47]; rfl) (by simp ) ?_ (by simp -implicitDefEqProofs ) (by simp -implicitDefEqProofs )
      simp [keyB, hs, hl]
    · have hl' : ¬ (s.length : Int) ≤ 64 := by omega
      (repeat (first | refine Run.seq ?_ | refine Run.reg ?_ | refine Run.skip ?_ | refine Run.block ?_ | refine Run.endB ?_ | refine Run.opE rfl ?_ | (apply Run.op0 rfl; (· (simp -implicitDefEqProofs [hs, hl, hl', h1]; exact ⟨rfl, rfl⟩))) | (apply Run.opA rfl; (· (simp -implicitDefEqProofs [hs, hl, hl', h1]; done)); (· (simp -implicitDefEqProofs [hs, hl, hl', h1]; exact ⟨rfl, rfl⟩))) | (apply Run.opN rfl; (· (simp -implicitDefEqProofs [hs, hl, hl', h1]; done))) | (refine Run.condT ?_ ?_; (· (simp -implicitDefEqProofs [hs, hl, hl', h1]; done))) | (refine Run.condF ?_ ?_; (· (simp -implicitDefEqProofs [hs, hl, hl', h1]; done))) | refine Run.exit rfl ?_))
      refine Run.retI Try.func47 r47_ok trivial (by simp -implicitDefEqProofs [r47]; rfl) (by simp ) ?_ (by simp -implicitDefEqProofs ) (by simp -implicitDefEqProofs )
      simp [keyB, hs, hl]
theorem skey_at (s : List UInt8) (H : List O) : Tri Try.prog 50 [.str s] H (fun v H' => v = .bool (keyB s) ∧ H' = H) := (skey_tri s).at rfl rfl H
theorem xkey_at (s : List UInt8) (H : List O) : Tri Try.prog 47 [.str s] H (fun v H' => v = .bool (keyB s) ∧ H' = H) := (xkey_tri s).at rfl rfl H

theorem bless_irrefl : ∀ (s : List UInt8), Op.bytesLess s s = false
  | [] => rfl
  | c :: s => by simp [Op.bytesLess, bless_irrefl s]

theorem less_tri (a b : En) : Tri Try.prog 31 [.agg (encE a), .agg (encE b)] [] (fun v H => v = .bool (lessE a b) ∧ H = []) := by
  refine Tri.of_run' Try.func31 rfl c31_ok (by simp [Try.ntmps31]) ?_
  by_cases hk : a.key = b.key
  · (repeat (first | refine Run.seq ?_ | refine Run.reg ?_ | refine Run.skip ?_ | refine Run.block ?_ | refine Run.endB ?_ | refine Run.opE rfl ?_ | (apply Run.op0 rfl; (· (simp -implicitDefEqProofs [encE, hk]; exact ⟨rfl, rfl⟩))) | (apply Run.opA rfl; (· (simp -implicitDefEqProofs [encE, hk]; done)); (· (simp -implicitDefEqProofs [encE, hk]; exact ⟨rfl, rfl⟩))) | (apply Run.opN rfl; (· (simp -implicitDefEqProofs [encE, hk]; done))) | (refine Run.condT ?_ ?_; (· (simp -implicitDefEqProofs [encE, hk]; done))) | (refine Run.condF ?_ ?_; (· (simp -implicitDefEqProofs [encE, hk]; done))) | refine Run.exit rfl ?_))
    refine Run.mv [] [(4, .bool (decide (b.seq < a.seq)))] [] (by rfl) (by decide) (by simp -implicitDefEqProofs) (by simp -implicitDefEqProofs) ?_
    refine Run.retI Try.func31 r31_ok trivial (by simp -implicitDefEqProofs [r31]; rfl) (by simp ) ?_ (by simp -implicitDefEqProofs ) (by simp -implicitDefEqProofs )
    simp [lessE, hk]
  · (repeat (first | refine Run.seq ?_ | refine Run.reg ?_ | refine Run.skip ?_ | refine Run.block ?_ | refine Run.endB ?_ | refine Run.opE rfl ?_ | (apply Run.op0 rfl; (· (simp -implicitDefEqProofs [encE, hk]; exact ⟨rfl, rfl⟩))) | (apply Run.opA rfl; (· (simp -implicitDefEqProofs [encE, hk]; done)); (· (simp -implicitDefEqProofs [encE, hk]; exact ⟨rfl, rfl⟩))) | (apply Run.opN rfl; (· (simp -implicitDefEqProofs [encE, hk]; done))) | (refine Run.condT ?_ ?_; (· (simp -implicitDefEqProofs [encE, hk]; done))) | (refine Run.condF ?_ ?_; (· (simp -implicitDefEqProofs [encE, hk]; done))) | refine Run.exit rfl ?_))
    refine Run.mv [] [(4, .bool (Op.bytesLess a.key b.key))] [] (by rfl) (by decide) (by simp -implicitDefEqProofs) (by simp -implicitDefEqProofs) ?_
    refine Run.retI Try.func31 r31_ok trivial (by simp -implicitDefEqProofs [r31]; rfl) (by simp ) ?_ (by simp -implicitDefEqProofs ) (by simp -implicitDefEqProofs )
    simp [lessE, hk]
theorem rless_tri (a b : En) : Tri Try.prog 40 [.agg (encE a), .agg (encE b)] [] (fun v H => v = .bool (lessE a b) ∧ H = []) := by
  refine Tri.of_run' Try.func40 rfl c40_ok (by simp [Try.ntmps40]) ?_
  by_cases hk : a.key = b.key
  · (repeat (first | refine Run.seq ?_ | refine Run.reg ?_ | refine Run.skip ?_ | refine Run.block ?_ | refine Run.endB ?_ | refine Run.opE rfl ?_ | (apply Run.op0 rfl; (· (simp -implicitDefEqProofs [encE, hk, bless_irrefl]; exact ⟨rfl, rfl⟩))) | (apply Run.opA rfl; (· (simp -implicitDefEqProofs [encE, hk, bless_irrefl]; done)); (· (simp -implicitDefEqProofs [encE, hk, bless_irrefl]; exact ⟨rfl, rfl⟩))) | (apply Run.opN rfl; (· (simp -implicitDefEqProofs [encE, hk, bless_irrefl]; done))) | (refine Run.condT ?_ ?_; (· (simp -implicitDefEqProofs [encE, hk, bless_irrefl]; done))) | (refine Run.condF ?_ ?_; (· (simp -implicitDefEqProofs [encE, hk, bless_irrefl]; done))) | refine Run.exit rfl ?_))
    refine Run.mv [] [(4, .bool (decide (b.seq < a.seq)))] [] (by rfl) (by decide) (by simp -implicitDefEqProofs) (by simp -implicitDefEqProofs) ?_
    refine Run.retI Try.func40 r40_ok trivial (by simp -implicitDefEqProofs [r40]; rfl) (by simp ) ?_ (by simp -implicitDefEqProofs ) (by simp -implicitDefEqProofs )
    simp [lessE, hk]
  · cases hb : Op.bytesLess a.key b.key <;> (repeat (first | refine Run.seq ?_ | refine Run.reg ?_ | refine Run.skip ?_ | refine Run.block ?_ | refine Run.endB ?_ | refine Run.opE rfl ?_ | (apply Run.op0 rfl; (· (simp -implicitDefEqProofs [encE, hk, hb]; exact ⟨rfl, rfl⟩))) | (apply Run.opA rfl; (· (simp -implicitDefEqProofs [encE, hk, hb]; done)); (· (simp -implicitDefEqProofs [encE, hk, hb]; exact ⟨rfl, rfl⟩))) | (apply Run.opN rfl; (· (simp -implicitDefEqProofs [encE, hk, hb]; done))) | (refine Run.condT ?_ ?_; (· (simp -implicitDefEqProofs [encE, hk, hb]; done))) | (refine Run.condF ?_ ?_; (· (simp -implicitDefEqProofs [encE, hk, hb]; done))) | refine Run.exit rfl ?_))
    · refine Run.mv [] [(4, .bool false)] [] (by rfl) (by decide) (by simp -implicitDefEqProofs) (by simp -implicitDefEqProofs) ?_
      refine Run.retI Try.func40 r40_ok trivial (by simp -implicitDefEqProofs [r40]; rfl) (by simp ) ?_ (by simp -implicitDefEqProofs ) (by simp -implicitDefEqProofs )
      simp [lessE, hk, hb]
    · refine Run.mv [] [(4, .bool true)] [] (by rfl) (by decide) (by simp -implicitDefEqProofs) (by simp -implicitDefEqProofs) ?_
      refine Run.retI Try.func40 r40_ok trivial (by simp -implicitDefEqProofs [r40]; rfl) (by simp ) ?_ (by simp -implicitDefEqProofs ) (by simp -implicitDefEqProofs )
      simp [lessE, hk, hb]
theorem less_at (a b : En) (H : List O) : Tri Try.prog 31 [.agg (encE a), .agg (encE b)] H (fun v H' => v = .bool (lessE a b) ∧ H' = H) := (less_tri a b).at rfl rfl H
theorem rless_at (a b : En) (H : List O) : Tri Try.prog 40 [.agg (encE a), .agg (encE b)] H (fun v H' => v = .bool (lessE a b) ∧ H' = H) := (rless_tri a b).at rfl rfl H

end Go.Proofs.Ytphpkigfmmanhaa
