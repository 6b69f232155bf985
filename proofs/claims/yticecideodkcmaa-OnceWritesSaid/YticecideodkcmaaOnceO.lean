/-
  Layer 14, part O: Write of both; a number's bytes.
-/
import Derived.Test.YticecideodkcmaaOnceN
import Derived.Test.YticecideodkcmaaVarC
import Derived.Test.YticecideodkcmaaSx6
namespace Go.Proofs.Yticecideodkcmaa
open Sx Go
set_option maxRecDepth 100000
set_option linter.unusedSimpArgs false
set_option linter.unusedVariables false
set_option linter.unnecessarySimpa false
attribute [local simp] guardB isCall opStep Opd.ev put readAt aBin aUn args0 V.celled V.ones V.one V.cells putAt bounds bound1 elemsOf srcOf appendV fillAt fillEl V.pures V.pure unwind evs ARes.ev mkRes V.ren V.renL O.ren eqCells eq1 aEq aMM hasTy hasTyN okTy mmGo Known HLe OLe VsLe.refl VLe.refl Stay VsLe V.frz V.frzL O.frz fr clearV rn KnownR Objs OLeO ObjsE nm back setAll ren_ite take_map_len List.take_of_length_le
attribute [local simp ↓] upd_app tl_cons tl_nil
attribute [local simp] encS_ren encS_ones

theorem number_tri (n : Int) : Tri Try.prog 37 [.int .i64 n] [] (fun v H => v = .str (vputM n).1 ∧ H = []) := by
  refine Tri.of_run' Try.func37 rfl c37_ok (by simp [Try.ntmps37]) ?_
  (repeat (first | refine Run.seq ?_ | refine Run.reg ?_ | refine Run.skip ?_ | refine Run.block ?_ | refine Run.endB ?_ | refine Run.opE rfl ?_ | (apply Run.op0 rfl; (· (simp -implicitDefEqProofs; exact ⟨rfl, rfl⟩))) | (apply Run.opA rfl; (· (simp -implicitDefEqProofs; done)); (· (simp -implicitDefEqProofs; exact ⟨rfl, rfl⟩))) | (apply Run.opN rfl; (· (simp -implicitDefEqProofs; done))) | (refine Run.condT ?_ ?_; (· (simp -implicitDefEqProofs; done))) | (refine Run.condF ?_ ?_; (· (simp -implicitDefEqProofs; done))) | refine Run.exit rfl ?_))
  refine Run.opC rfl rfl rfl (rvput_at n _) ?_
  rintro v h' ⟨rfl, rfl⟩
  (repeat (first | refine Run.seq ?_ | refine Run.reg ?_ | refine Run.skip ?_ | refine Run.block ?_ | refine Run.endB ?_ | refine Run.opE rfl ?_ | (apply Run.op0 rfl; (· (simp -implicitDefEqProofs; exact ⟨rfl, rfl⟩))) | (apply Run.opA rfl; (· (simp -implicitDefEqProofs; done)); (· (simp -implicitDefEqProofs; exact ⟨rfl, rfl⟩))) | (apply Run.opN rfl; (· (simp -implicitDefEqProofs; done))) | (refine Run.condT ?_ ?_; (· (simp -implicitDefEqProofs; done))) | (refine Run.condF ?_ ?_; (· (simp -implicitDefEqProofs; done))) | refine Run.exit rfl ?_))
  refine Run.retI Try.func37 r37_ok trivial (by simp -implicitDefEqProofs [r37]; rfl) (by simp ) ?_ (by simp -implicitDefEqProofs ) (by simp -implicitDefEqProofs )
  simp
theorem number_at (n : Int) (H : List O) : Tri Try.prog 37 [.int .i64 n] H (fun v H' => v = .str (vputM n).1 ∧ H' = H) := (number_tri n).at rfl rfl H

theorem vputM_len (n : Int) : (vputM n).1.length ≤ 9 := by
  unfold vputM; split
  · exact vput_len9 (by omega)
  · simp
theorem vputM_ne {n : Int} (h : 0 ≤ n ∧ n ≤ 4611686018427387904) : (vputM n).1 ≠ [] := by rw [vputM, if_pos h]; exact vput_ne _

def hasI (b : Bool) : Int := if b then 1 else 0
def keyS (c : Int) : List UInt8 := [116, UInt8.ofNat (48 + c).toNat]
def numsS (x : Seen) : List Int := [x.seq, x.err, hasI x.has]
def valS (x : Seen) : List UInt8 := (numsS x).flatMap fun n => (vputM n).1
/-- what Write answers -/
def writeM (x : Seen) : (List UInt8 × List UInt8) × Int := if mayB x = true then ((keyS x.client, valS x), 0) else (([], []), 1)
def writeV (x : Seen) : V := .tup [.agg [.str (writeM x).1.1, .str (writeM x).1.2, .bool false], .int .i64 (writeM x).2]
def encI (n : Int) : List V := [.int .i64 n]

theorem write_tri (x : Seen) : Tri Try.prog 23 [.agg (encS x)] [] (fun v H => v = writeV x ∧ H = []) := by
  refine Tri.of_run' Try.func23 rfl c23_ok (by simp [Try.ntmps23]) ?_
  (repeat (first | refine Run.seq ?_ | refine Run.reg ?_ | refine Run.skip ?_ | refine Run.block ?_ | refine Run.endB ?_ | refine Run.opE rfl ?_ | (apply Run.op0 rfl; (· (simp -implicitDefEqProofs [encS]; exact ⟨rfl, rfl⟩))) | (apply Run.opA rfl; (· (simp -implicitDefEqProofs [encS]; done)); (· (simp -implicitDefEqProofs [encS]; exact ⟨rfl, rfl⟩))) | (apply Run.opN rfl; (· (simp -implicitDefEqProofs [encS]; done))) | (refine Run.condT ?_ ?_; (· (simp -implicitDefEqProofs [encS]; done))) | (refine Run.condF ?_ ?_; (· (simp -implicitDefEqProofs [encS]; done))) | refine Run.exit rfl ?_))
  refine Run.opC rfl rfl rfl (by simpa [encS] using may_at x _) ?_
  rintro v h' ⟨rfl, rfl⟩
  cases hm : mayB x with
  | false =>
    (repeat (first | refine Run.seq ?_ | refine Run.reg ?_ | refine Run.skip ?_ | refine Run.block ?_ | refine Run.endB ?_ | refine Run.opE rfl ?_ | (apply Run.op0 rfl; (· (simp -implicitDefEqProofs [hm]; exact ⟨rfl, rfl⟩))) | (apply Run.opA rfl; (· (simp -implicitDefEqProofs [hm]; done)); (· (simp -implicitDefEqProofs [hm]; exact ⟨rfl, rfl⟩))) | (apply Run.opN rfl; (· (simp -implicitDefEqProofs [hm]; done))) | (refine Run.condT ?_ ?_; (· (simp -implicitDefEqProofs [hm]; done))) | (refine Run.condF ?_ ?_; (· (simp -implicitDefEqProofs [hm]; done))) | refine Run.exit rfl ?_))
    refine Run.mv [1] [(2, .ptr 0 0), (3, .int .i64 1)] [.row [.str [], .str [], .bool false]] (by rfl) (by decide) (by simp -implicitDefEqProofs) (by simp -implicitDefEqProofs) ?_
    refine Run.ret0 rfl Try.func23 r23_ok trivial (by simp [r23]; rfl) ?_ (by simp)
    simp [writeV, writeM, hm]
  | true =>
  obtain ⟨m1, m2, m3, m4, m5, m6, m7, m8, m9⟩ := mayB_spec hm
  (repeat (first | refine Run.seq ?_ | refine Run.reg ?_ | refine Run.skip ?_ | refine Run.block ?_ | refine Run.endB ?_ | refine Run.opE rfl ?_ | (apply Run.op0 rfl; (· (simp -implicitDefEqProofs [hm]; exact ⟨rfl, rfl⟩))) | (apply Run.opA rfl; (· (simp -implicitDefEqProofs [hm]; done)); (· (simp -implicitDefEqProofs [hm]; exact ⟨rfl, rfl⟩))) | (apply Run.opN rfl; (· (simp -implicitDefEqProofs [hm]; done))) | (refine Run.condT ?_ ?_; (· (simp -implicitDefEqProofs [hm]; done))) | (refine Run.condF ?_ ?_; (· (simp -implicitDefEqProofs [hm]; done))) | refine Run.exit rfl ?_))
  refine Run.join [(1, .ptr 0 0), (2, .ptr 1 0), (4, .int .i64 (hasI x.has))] [.row (encS x), .row [.str [], .str [], .bool false]] ?_ ?_
  rotate_left
  · intro k hk
    cases hh : x.has with
    | true => (repeat (first | refine Run.seq ?_ | refine Run.reg ?_ | refine Run.skip ?_ | refine Run.block ?_ | refine Run.endB ?_ | refine Run.opE rfl ?_ | (apply Run.op0 rfl; (· (simp -implicitDefEqProofs [hh]; exact ⟨rfl, rfl⟩))) | (apply Run.opA rfl; (· (simp -implicitDefEqProofs [hh]; done)); (· (simp -implicitDefEqProofs [hh]; exact ⟨rfl, rfl⟩))) | (apply Run.opN rfl; (· (simp -implicitDefEqProofs [hh]; done))) | (refine Run.condT ?_ ?_; (· (simp -implicitDefEqProofs [hh]; done))) | (refine Run.condF ?_ ?_; (· (simp -implicitDefEqProofs [hh]; done))) | refine Run.exit rfl ?_)); refine Run.mv [0, 1] _ _ (by rfl) (by decide) (by simp [hasI, hh]) (by simp [encS, hh]) hk
    | false => (repeat (first | refine Run.seq ?_ | refine Run.reg ?_ | refine Run.skip ?_ | refine Run.block ?_ | refine Run.endB ?_ | refine Run.opE rfl ?_ | (apply Run.op0 rfl; (· (simp -implicitDefEqProofs [hh]; exact ⟨rfl, rfl⟩))) | (apply Run.opA rfl; (· (simp -implicitDefEqProofs [hh]; done)); (· (simp -implicitDefEqProofs [hh]; exact ⟨rfl, rfl⟩))) | (apply Run.opN rfl; (· (simp -implicitDefEqProofs [hh]; done))) | (refine Run.condT ?_ ?_; (· (simp -implicitDefEqProofs [hh]; done))) | (refine Run.condF ?_ ?_; (· (simp -implicitDefEqProofs [hh]; done))) | refine Run.exit rfl ?_)); refine Run.mv [0, 1] _ _ (by rfl) (by decide) (by simp [hasI, hh]) (by simp [encS, hh]) hk
  (repeat (first | refine Run.seq ?_ | refine Run.reg ?_ | refine Run.skip ?_ | refine Run.block ?_ | refine Run.endB ?_ | refine Run.opE rfl ?_ | (apply Run.op0 rfl; (· (simp -implicitDefEqProofs [encS]; exact ⟨rfl, rfl⟩))) | (apply Run.opA rfl; (· (simp -implicitDefEqProofs [encS]; done)); (· (simp -implicitDefEqProofs [encS]; exact ⟨rfl, rfl⟩))) | (apply Run.opN rfl; (· (simp -implicitDefEqProofs [encS]; done))) | (refine Run.condT ?_ ?_; (· (simp -implicitDefEqProofs [encS]; done))) | (refine Run.condF ?_ ?_; (· (simp -implicitDefEqProofs [encS]; done))) | refine Run.exit rfl ?_))
  refine Run.nilC 2 1 1 5 (by simp; rfl) (by simp) ?_
  refine Run.loopC [0, 1, 2, 5, 3, 6, 4] (fun (a : Nat × Bool × List UInt8) => ([(1, .ptr 0 0), (2, .ptr 1 0), (5, .ptr 2 0), (23, .sl 6 0 3 1 (some 3)), (24, .int .i64 3), (25, .int .i64 a.1)],
      [.row (encS x), .row [.str [], .str [], .bool false], .row (bldA 2 a.2.1 3 a.2.2.length), .arr (byteEls a.2.2) 1, .ty 2 68 (some 2), .ty 3 5 none, .arr ((numsS x).map encI) 1]))
    (fun a => a.1 ≤ 3 ∧ (a.1 = 3 → a.2.1 = true) ∧ a.2.2 = ((numsS x).take a.1).flatMap fun n => (vputM n).1) (fun a => 3 - a.1) (0, false, []) (by simp) (by rfl) (by decide) (by simp) (by simp [bldA, byteEls_nil, numsS, encI, encS, hasI]) ?_
  rintro ⟨k, u, l⟩ ⟨hk, hu, hl⟩ ih
  simp only at hk hu hl ih ⊢
  have h3 : (numsS x).length = 3 := rfl
  by_cases hlt : k < 3
  · have hlt' : (k : Int) < 3 := by omega
    have hw := wrap_small (n := (k : Int) + 1) (by omega) (by omega)
    obtain ⟨n, hn, -, hdrop, -⟩ := getL (l := numsS x) (i := k) (by omega)
    have hll : l.length ≤ 27 := by
      have : ∀ m : List Int, (m.flatMap fun n => (vputM n).1).length ≤ m.length * 9 := by
        intro m; induction m with
        | nil => simp
        | cons a m ihm => have := vputM_len a; simp only [List.flatMap_cons, List.length_append, List.length_cons]; omega
      rw [hl]; have := this ((numsS x).take k); have h4 : ((numsS x).take k).length ≤ 3 := by rw [List.length_take]; omega
      omega
    have hnl := vputM_len n
    (repeat (first | refine Run.seq ?_ | refine Run.reg ?_ | refine Run.skip ?_ | refine Run.block ?_ | refine Run.endB ?_ | refine Run.opE rfl ?_ | (apply Run.op0 rfl; (· (simp -implicitDefEqProofs [hlt', hn, encI]; exact ⟨rfl, rfl⟩))) | (apply Run.opA rfl; (· (simp -implicitDefEqProofs [hlt', hn, encI]; done)); (· (simp -implicitDefEqProofs [hlt', hn, encI]; exact ⟨rfl, rfl⟩))) | (apply Run.opN rfl; (· (simp -implicitDefEqProofs [hlt', hn, encI]; done))) | (refine Run.condT ?_ ?_; (· (simp -implicitDefEqProofs [hlt', hn, encI]; done))) | (refine Run.condF ?_ ?_; (· (simp -implicitDefEqProofs [hlt', hn, encI]; done))) | refine Run.exit rfl ?_))
    refine Run.opC rfl rfl rfl (vput_at n _) ?_
    rintro v h' ⟨rfl, rfl⟩
    (repeat (first | refine Run.seq ?_ | refine Run.reg ?_ | refine Run.skip ?_ | refine Run.block ?_ | refine Run.endB ?_ | refine Run.opE rfl ?_ | (apply Run.op0 rfl; (· (simp -implicitDefEqProofs; exact ⟨rfl, rfl⟩))) | (apply Run.opA rfl; (· (simp -implicitDefEqProofs; done)); (· (simp -implicitDefEqProofs; exact ⟨rfl, rfl⟩))) | (apply Run.opN rfl; (· (simp -implicitDefEqProofs; done))) | (refine Run.condT ?_ ?_; (· (simp -implicitDefEqProofs; done))) | (refine Run.condF ?_ ?_; (· (simp -implicitDefEqProofs; done))) | refine Run.exit rfl ?_))
    refine Run.opF [2, 3, 4, 5] (writeString_tri u l (vputM n).1 (by omega)) rfl (by simp -implicitDefEqProofs [bldH, bldA]) rfl (by simp -implicitDefEqProofs [bldH, bldA]) (by decide) (by rfl) (by simp -implicitDefEqProofs [bldH, bldA]) ?_
    rintro v0 Hs' ⟨rfl, rfl⟩
    refine Run.mv [0, 1, 2, 7, 4, 8, 6] [(1, .ptr 0 0), (2, .ptr 1 0), (5, .ptr 2 0), (23, .sl 6 0 3 1 (some 3)), (24, .int .i64 3), (25, .int .i64 k)] [.row (encS x), .row [.str [], .str [], .bool false], .row (bldA 2 true 3 (l ++ (vputM n).1).length), .arr (byteEls (l ++ (vputM n).1)) 1, .ty 2 68 (some 2), .ty 3 5 none, .arr ((numsS x).map encI) 1] (by rfl) (by decide) (by simp -implicitDefEqProofs [bldA]) (by simp -implicitDefEqProofs [bldA]) ?_
    (repeat (first | refine Run.seq ?_ | refine Run.reg ?_ | refine Run.skip ?_ | refine Run.block ?_ | refine Run.endB ?_ | refine Run.opE rfl ?_ | (apply Run.op0 rfl; (· (simp -implicitDefEqProofs; exact ⟨rfl, rfl⟩))) | (apply Run.opA rfl; (· (simp -implicitDefEqProofs; done)); (· (simp -implicitDefEqProofs; exact ⟨rfl, rfl⟩))) | (apply Run.opN rfl; (· (simp -implicitDefEqProofs; done))) | (refine Run.condT ?_ ?_; (· (simp -implicitDefEqProofs; done))) | (refine Run.condF ?_ ?_; (· (simp -implicitDefEqProofs; done))) | refine Run.exit rfl ?_))
    refine Run.mv [0, 1, 2, 3, 4, 5, 6] _ _ (by rfl) (by decide) (by simp -implicitDefEqProofs [hw, bldA]) (by simp -implicitDefEqProofs [hw, bldA]) (ih ((k + 1, true, l ++ (vputM n).1)) ?_ ?_)
    · refine ⟨by omega, fun _ => rfl, ?_⟩
      simp only
      rw [hl, List.take_add_one, hn]; simp
    · simp only; omega
  · have hlt' : ¬ (k : Int) < 3 := by omega
    have : k = 3 := by omega
    subst this
    have hu' := hu rfl
    subst hu'
    have hlv : l = valS x := by rw [hl]; rfl
    have hne : l ≠ [] := by
      rw [hlv]; simp only [valS, numsS, List.flatMap_cons]; intro h
      exact vputM_ne ⟨by omega, by omega⟩ (List.append_eq_nil_iff.1 h).1
    have hll : l.length ≤ 27 := by
      rw [hlv]; simp only [valS, numsS, List.flatMap_cons, List.flatMap_nil, List.length_append, List.length_nil]
      have h1 := vputM_len x.seq; have h2 := vputM_len x.err; have h3 := vputM_len (hasI x.has); omega
    have hkey : IntKind.u8.wrap (IntKind.i64.wrap (48 + x.client)) = ((UInt8.ofNat (48 + x.client).toNat).toNat : Int) := by
      obtain ⟨c, hc⟩ : ∃ c : Nat, 48 + x.client = c := ⟨(48 + x.client).toNat, by omega⟩
      rw [hc, wrap_small (by omega) (by omega), wrap_u8, UInt8.toNat_ofNat']; simp
    obtain ⟨kb, hkb⟩ : ∃ kb, kb = UInt8.ofNat (48 + x.client).toNat := ⟨_, rfl⟩
    rw [← hkb] at hkey
    have hfin : writeV x = .tup [.agg [.str [116, kb], .str l, .bool false], .int .i64 0] := by
      simp [writeV, writeM, hm, keyS, hlv, hkb]
    rw [hfin]
    (repeat (first | refine Run.seq ?_ | refine Run.reg ?_ | refine Run.skip ?_ | refine Run.block ?_ | refine Run.endB ?_ | refine Run.opE rfl ?_ | (apply Run.op0 rfl; (· (simp -implicitDefEqProofs; exact ⟨rfl, rfl⟩))) | (apply Run.opA rfl; (· (simp -implicitDefEqProofs; done)); (· (simp -implicitDefEqProofs; exact ⟨rfl, rfl⟩))) | (apply Run.opN rfl; (· (simp -implicitDefEqProofs; done))) | (refine Run.condT ?_ ?_; (· (simp -implicitDefEqProofs; done))) | (refine Run.condF ?_ ?_; (· (simp -implicitDefEqProofs; done))) | refine Run.exit rfl ?_))
    refine Run.drawn prog_mixed ?_
    show RunD _ c23d0 [0, 1, 2, 3, 4, 5, 6, 7, 8, 9] [] _ _ _
    refine RunD.flow [0, 1, 2, 3] (by kernel_rfl) (by decide +kernel) (by decide +kernel) (by decide) trivial ?_; (repeat (first | refine execQ_E rfl ?_ | (apply execQ_0 rfl; (· rfl); (· (simp -implicitDefEqProofs [encS, hkey]; exact ⟨rfl, rfl⟩))) | (apply execQ_A rfl; (· (simp -implicitDefEqProofs [encS, hkey]; done)); (· rfl); (· (simp -implicitDefEqProofs [encS, hkey]; exact ⟨rfl, rfl⟩))) | (apply execQ_N rfl; (· (simp -implicitDefEqProofs [encS, hkey]; done))))); intro hpo
    refine RunD.alt2 4 6 (by kernel_rfl) (by kernel_rfl) hpo ?_ ?_
    · (first | (apply AStep.o0 rfl; (· (simp -implicitDefEqProofs; exact ⟨rfl, rfl⟩))) | (apply AStep.A rfl; (· (simp -implicitDefEqProofs; done)); (· (simp -implicitDefEqProofs; exact ⟨rfl, rfl⟩))) | (apply AStep.N rfl; (· (simp -implicitDefEqProofs; done))))
      refine RunD.flow [5] (by kernel_rfl) (by decide +kernel) (by decide +kernel) (by decide) trivial ?_; (repeat (first | refine execQ_E rfl ?_ | (apply execQ_0 rfl; (· rfl); (· (simp -implicitDefEqProofs; exact ⟨rfl, rfl⟩))) | (apply execQ_A rfl; (· (simp -implicitDefEqProofs; done)); (· rfl); (· (simp -implicitDefEqProofs; exact ⟨rfl, rfl⟩))) | (apply execQ_N rfl; (· (simp -implicitDefEqProofs; done))))); intro hpo
      refine RunD.alt1 6 (by kernel_rfl) (by kernel_rfl) hpo ?_
      refine AStep.F [2, 3, 4, 5] (string_tri l hne (by omega)) rfl (by simp -implicitDefEqProofs [bldH, bldA]) rfl (by simp -implicitDefEqProofs [bldH, bldA]) (by decide) (by rfl) (by simp -implicitDefEqProofs [bldH, bldA]) ?_
      rintro v0 Hs' ⟨rfl, rfl⟩
      refine RunD.flow [7] (by kernel_rfl) (by decide +kernel) (by decide +kernel) (by decide) (by show PendOk _ c23d0 _ _ [5]; simp -implicitDefEqProofs [PendOk, c23d0, bytesOf]) ?_; (repeat (first | refine execQ_E rfl ?_ | (apply execQ_0 rfl; (· rfl); (· (simp -implicitDefEqProofs; exact ⟨rfl, rfl⟩))) | (apply execQ_A rfl; (· (simp -implicitDefEqProofs; done)); (· rfl); (· (simp -implicitDefEqProofs; exact ⟨rfl, rfl⟩))) | (apply execQ_N rfl; (· (simp -implicitDefEqProofs; done))))); intro hpo
      refine RunD.alt1 8 (by kernel_rfl) (by kernel_rfl) hpo ?_
      (first | (apply AStep.o0 rfl; (· (simp -implicitDefEqProofs; exact ⟨rfl, rfl⟩))) | (apply AStep.A rfl; (· (simp -implicitDefEqProofs; done)); (· (simp -implicitDefEqProofs; exact ⟨rfl, rfl⟩))) | (apply AStep.N rfl; (· (simp -implicitDefEqProofs; done))))
      refine RunD.flow [9] (by kernel_rfl) (by decide +kernel) (by decide +kernel) (by decide) trivial ?_; (repeat (first | refine execQ_E rfl ?_ | (apply execQ_0 rfl; (· rfl); (· (simp -implicitDefEqProofs; exact ⟨rfl, rfl⟩))) | (apply execQ_A rfl; (· (simp -implicitDefEqProofs; done)); (· rfl); (· (simp -implicitDefEqProofs; exact ⟨rfl, rfl⟩))) | (apply execQ_N rfl; (· (simp -implicitDefEqProofs; done))))); intro hpo
      refine RunD.fin (by kernel_rfl) hpo ?_
      refine Run.mv [1] [(2, .ptr 0 0), (3, .int .i64 0)] [.row [.str [116, kb], .str l, .bool false]] (by rfl) (by decide) (by simp -implicitDefEqProofs) (by simp -implicitDefEqProofs) ?_
      refine Run.ret0 rfl Try.func23 r23_ok trivial (by simp [r23]; rfl) (by simp) (by simp)
    · refine AStep.F [2, 3, 4, 5] (string_tri l hne (by omega)) rfl (by simp -implicitDefEqProofs [bldH, bldA]) rfl (by simp -implicitDefEqProofs [bldH, bldA]) (by decide) (by rfl) (by simp -implicitDefEqProofs [bldH, bldA]) ?_
      rintro v0 Hs' ⟨rfl, rfl⟩
      have hp : True := trivial
      refine RunD.alt1 4 (by kernel_rfl) (by kernel_rfl) (by show PendOk _ c23d0 _ _ [3, 2, 1, 0]; simp -implicitDefEqProofs [PendOk, c23d0, encS, hkey]) ?_
      (first | (apply AStep.o0 rfl; (· (simp -implicitDefEqProofs; exact ⟨rfl, rfl⟩))) | (apply AStep.A rfl; (· (simp -implicitDefEqProofs; done)); (· (simp -implicitDefEqProofs; exact ⟨rfl, rfl⟩))) | (apply AStep.N rfl; (· (simp -implicitDefEqProofs; done))))
      refine RunD.flow [5, 7] (by kernel_rfl) (by decide +kernel) (by decide +kernel) (by decide) trivial ?_; (repeat (first | refine execQ_E rfl ?_ | (apply execQ_0 rfl; (· rfl); (· (simp -implicitDefEqProofs; exact ⟨rfl, rfl⟩))) | (apply execQ_A rfl; (· (simp -implicitDefEqProofs; done)); (· rfl); (· (simp -implicitDefEqProofs; exact ⟨rfl, rfl⟩))) | (apply execQ_N rfl; (· (simp -implicitDefEqProofs; done))))); intro hpo
      refine RunD.alt1 8 (by kernel_rfl) (by kernel_rfl) hpo ?_
      (first | (apply AStep.o0 rfl; (· (simp -implicitDefEqProofs; exact ⟨rfl, rfl⟩))) | (apply AStep.A rfl; (· (simp -implicitDefEqProofs; done)); (· (simp -implicitDefEqProofs; exact ⟨rfl, rfl⟩))) | (apply AStep.N rfl; (· (simp -implicitDefEqProofs; done))))
      refine RunD.flow [9] (by kernel_rfl) (by decide +kernel) (by decide +kernel) (by decide) trivial ?_; (repeat (first | refine execQ_E rfl ?_ | (apply execQ_0 rfl; (· rfl); (· (simp -implicitDefEqProofs; exact ⟨rfl, rfl⟩))) | (apply execQ_A rfl; (· (simp -implicitDefEqProofs; done)); (· rfl); (· (simp -implicitDefEqProofs; exact ⟨rfl, rfl⟩))) | (apply execQ_N rfl; (· (simp -implicitDefEqProofs; done))))); intro hpo
      refine RunD.fin (by kernel_rfl) hpo ?_
      refine Run.mv [1] [(2, .ptr 0 0), (3, .int .i64 0)] [.row [.str [116, kb], .str l, .bool false]] (by rfl) (by decide) (by simp -implicitDefEqProofs) (by simp -implicitDefEqProofs) ?_
      refine Run.ret0 rfl Try.func23 r23_ok trivial (by simp [r23]; rfl) (by simp) (by simp)

theorem str_app_ok {a b : List UInt8} (h : a.length + b.length ≤ 100) : a.length + b.length ≤ 4611686018427387904 := by omega

theorem rwrite_tri (x : Seen) : Tri Try.prog 24 [.agg (encS x)] [] (fun v H => v = writeV x ∧ H = []) := by
  refine Tri.of_run' Try.func24 rfl c24_ok (by simp [Try.ntmps24]) ?_
  (repeat (first | refine Run.seq ?_ | refine Run.reg ?_ | refine Run.skip ?_ | refine Run.block ?_ | refine Run.endB ?_ | refine Run.opE rfl ?_ | (apply Run.op0 rfl; (· (simp -implicitDefEqProofs [encS]; exact ⟨rfl, rfl⟩))) | (apply Run.opA rfl; (· (simp -implicitDefEqProofs [encS]; done)); (· (simp -implicitDefEqProofs [encS]; exact ⟨rfl, rfl⟩))) | (apply Run.opN rfl; (· (simp -implicitDefEqProofs [encS]; done))) | (refine Run.condT ?_ ?_; (· (simp -implicitDefEqProofs [encS]; done))) | (refine Run.condF ?_ ?_; (· (simp -implicitDefEqProofs [encS]; done))) | refine Run.exit rfl ?_))
  refine Run.opC rfl rfl rfl (by simpa [encS] using rmay_at x _) ?_
  rintro v h' ⟨rfl, rfl⟩
  cases hm : mayB x with
  | false =>
    (repeat (first | refine Run.seq ?_ | refine Run.reg ?_ | refine Run.skip ?_ | refine Run.block ?_ | refine Run.endB ?_ | refine Run.opE rfl ?_ | (apply Run.op0 rfl; (· (simp -implicitDefEqProofs [hm]; exact ⟨rfl, rfl⟩))) | (apply Run.opA rfl; (· (simp -implicitDefEqProofs [hm]; done)); (· (simp -implicitDefEqProofs [hm]; exact ⟨rfl, rfl⟩))) | (apply Run.opN rfl; (· (simp -implicitDefEqProofs [hm]; done))) | (refine Run.condT ?_ ?_; (· (simp -implicitDefEqProofs [hm]; done))) | (refine Run.condF ?_ ?_; (· (simp -implicitDefEqProofs [hm]; done))) | refine Run.exit rfl ?_))
    refine Run.mv [1] [(2, .ptr 0 0), (3, .int .i64 1)] [.row [.str [], .str [], .bool false]] (by rfl) (by decide) (by simp -implicitDefEqProofs) (by simp -implicitDefEqProofs) ?_
    refine Run.ret0 rfl Try.func24 r24_ok trivial (by simp [r24]; rfl) ?_ (by simp)
    simp [writeV, writeM, hm]
  | true =>
  obtain ⟨m1, m2, m3, m4, m5, m6, m7, m8, m9⟩ := mayB_spec hm
  (repeat (first | refine Run.seq ?_ | refine Run.reg ?_ | refine Run.skip ?_ | refine Run.block ?_ | refine Run.endB ?_ | refine Run.opE rfl ?_ | (apply Run.op0 rfl; (· (simp -implicitDefEqProofs [hm]; exact ⟨rfl, rfl⟩))) | (apply Run.opA rfl; (· (simp -implicitDefEqProofs [hm]; done)); (· (simp -implicitDefEqProofs [hm]; exact ⟨rfl, rfl⟩))) | (apply Run.opN rfl; (· (simp -implicitDefEqProofs [hm]; done))) | (refine Run.condT ?_ ?_; (· (simp -implicitDefEqProofs [hm]; done))) | (refine Run.condF ?_ ?_; (· (simp -implicitDefEqProofs [hm]; done))) | refine Run.exit rfl ?_))
  refine Run.join [(1, .ptr 0 0), (2, .ptr 1 0), (4, .int .i64 (hasI x.has))] [.row (encS x), .row [.str [], .str [], .bool false]] ?_ ?_
  rotate_left
  · intro k hk
    cases hh : x.has with
    | true => (repeat (first | refine Run.seq ?_ | refine Run.reg ?_ | refine Run.skip ?_ | refine Run.block ?_ | refine Run.endB ?_ | refine Run.opE rfl ?_ | (apply Run.op0 rfl; (· (simp -implicitDefEqProofs [hh]; exact ⟨rfl, rfl⟩))) | (apply Run.opA rfl; (· (simp -implicitDefEqProofs [hh]; done)); (· (simp -implicitDefEqProofs [hh]; exact ⟨rfl, rfl⟩))) | (apply Run.opN rfl; (· (simp -implicitDefEqProofs [hh]; done))) | (refine Run.condT ?_ ?_; (· (simp -implicitDefEqProofs [hh]; done))) | (refine Run.condF ?_ ?_; (· (simp -implicitDefEqProofs [hh]; done))) | refine Run.exit rfl ?_)); refine Run.mv [0, 1] _ _ (by rfl) (by decide) (by simp [hasI, hh]) (by simp [encS, hh]) hk
    | false => (repeat (first | refine Run.seq ?_ | refine Run.reg ?_ | refine Run.skip ?_ | refine Run.block ?_ | refine Run.endB ?_ | refine Run.opE rfl ?_ | (apply Run.op0 rfl; (· (simp -implicitDefEqProofs [hh]; exact ⟨rfl, rfl⟩))) | (apply Run.opA rfl; (· (simp -implicitDefEqProofs [hh]; done)); (· (simp -implicitDefEqProofs [hh]; exact ⟨rfl, rfl⟩))) | (apply Run.opN rfl; (· (simp -implicitDefEqProofs [hh]; done))) | (refine Run.condT ?_ ?_; (· (simp -implicitDefEqProofs [hh]; done))) | (refine Run.condF ?_ ?_; (· (simp -implicitDefEqProofs [hh]; done))) | refine Run.exit rfl ?_)); refine Run.mv [0, 1] _ _ (by rfl) (by decide) (by simp [hasI, hh]) (by simp [encS, hh]) hk
  have hkey : IntKind.u8.wrap (IntKind.i64.wrap (48 + x.client)) = ((UInt8.ofNat (48 + x.client).toNat).toNat : Int) := by
    obtain ⟨c, hc⟩ : ∃ c : Nat, 48 + x.client = c := ⟨(48 + x.client).toNat, by omega⟩
    rw [hc, wrap_small (by omega) (by omega), wrap_u8, UInt8.toNat_ofNat']; simp
  obtain ⟨kb, hkb⟩ : ∃ kb, kb = UInt8.ofNat (48 + x.client).toNat := ⟨_, rfl⟩
  rw [← hkb] at hkey
  have hfin : writeV x = .tup [.agg [.str [116, kb], .str ((vputM x.seq).1 ++ (vputM x.err).1 ++ (vputM (hasI x.has)).1), .bool false], .int .i64 0] := by
    simp [writeV, writeM, hm, keyS, valS, numsS, hkb]
  rw [hfin]
  have l1 := vputM_len x.seq
  have l2 := vputM_len x.err
  have l3 := vputM_len (hasI x.has)
  have b1 : (vputM x.seq).1.length + (vputM x.err).1.length ≤ 4611686018427387904 := by omega
  have b2 : (vputM x.seq).1.length + (vputM x.err).1.length + (vputM (hasI x.has)).1.length ≤ 4611686018427387904 := by omega
  (repeat (first | refine Run.seq ?_ | refine Run.reg ?_ | refine Run.skip ?_ | refine Run.block ?_ | refine Run.endB ?_ | refine Run.opE rfl ?_ | (apply Run.op0 rfl; (· (simp -implicitDefEqProofs; exact ⟨rfl, rfl⟩))) | (apply Run.opA rfl; (· (simp -implicitDefEqProofs; done)); (· (simp -implicitDefEqProofs; exact ⟨rfl, rfl⟩))) | (apply Run.opN rfl; (· (simp -implicitDefEqProofs; done))) | (refine Run.condT ?_ ?_; (· (simp -implicitDefEqProofs; done))) | (refine Run.condF ?_ ?_; (· (simp -implicitDefEqProofs; done))) | refine Run.exit rfl ?_))
  refine Run.drawn prog_mixed ?_
  show RunD _ c24d0 [0, 1, 2, 3, 4, 5, 6, 7, 8, 9, 10, 11, 12, 13, 14, 15, 16, 17, 18, 19] [] _ _ _
  refine RunD.flow [0, 1, 2, 3, 6, 7, 8, 9, 10, 11, 12, 13, 14, 15, 16] (by kernel_rfl) (by decide +kernel) (by decide +kernel) (by decide) trivial ?_
  (repeat (first | refine execQ_E rfl ?_ | (apply execQ_0 rfl; (· rfl); (· (simp -implicitDefEqProofs [encS, hkey]; exact ⟨rfl, rfl⟩))) | (apply execQ_A rfl; (· (simp -implicitDefEqProofs [encS, hkey]; done)); (· rfl); (· (simp -implicitDefEqProofs [encS, hkey]; exact ⟨rfl, rfl⟩))) | (apply execQ_N rfl; (· (simp -implicitDefEqProofs [encS, hkey]; done)))))
  refine execQ_C rfl rfl rfl (number_at x.seq _) ?_
  (repeat (first | refine execQ_E rfl ?_ | (apply execQ_0 rfl; (· rfl); (· (simp -implicitDefEqProofs [encS]; exact ⟨rfl, rfl⟩))) | (apply execQ_A rfl; (· (simp -implicitDefEqProofs [encS]; done)); (· rfl); (· (simp -implicitDefEqProofs [encS]; exact ⟨rfl, rfl⟩))) | (apply execQ_N rfl; (· (simp -implicitDefEqProofs [encS]; done)))))
  refine execQ_C rfl rfl rfl (number_at x.err _) ?_
  (repeat (first | refine execQ_E rfl ?_ | (apply execQ_0 rfl; (· rfl); (· (simp -implicitDefEqProofs [b1]; exact ⟨rfl, rfl⟩))) | (apply execQ_A rfl; (· (simp -implicitDefEqProofs [b1]; done)); (· rfl); (· (simp -implicitDefEqProofs [b1]; exact ⟨rfl, rfl⟩))) | (apply execQ_N rfl; (· (simp -implicitDefEqProofs [b1]; done)))))
  refine execQ_C rfl rfl rfl (number_at (hasI x.has) _) ?_
  (repeat (first | refine execQ_E rfl ?_ | (apply execQ_0 rfl; (· rfl); (· (simp -implicitDefEqProofs [b2]; exact ⟨rfl, rfl⟩))) | (apply execQ_A rfl; (· (simp -implicitDefEqProofs [b2]; done)); (· rfl); (· (simp -implicitDefEqProofs [b2]; exact ⟨rfl, rfl⟩))) | (apply execQ_N rfl; (· (simp -implicitDefEqProofs [b2]; done)))))
  intro hpo
  refine RunD.alt1 4 (by kernel_rfl) (by kernel_rfl) hpo ?_
  (first | (apply AStep.o0 rfl; (· (simp -implicitDefEqProofs; exact ⟨rfl, rfl⟩))) | (apply AStep.A rfl; (· (simp -implicitDefEqProofs; done)); (· (simp -implicitDefEqProofs; exact ⟨rfl, rfl⟩))) | (apply AStep.N rfl; (· (simp -implicitDefEqProofs; done))))
  refine RunD.flow [5, 17] (by kernel_rfl) (by decide +kernel) (by decide +kernel) (by decide) (by
    show PendOk _ c24d0 _ _ [16, 15, 14, 13, 12, 11, 10, 9, 8, 7, 6]
    (repeat (first | exact PendOk.nil | (refine PendOk.op rfl rfl rfl ?_ ?_; (· (simp -implicitDefEqProofs [b1, b2]; done))) | (refine PendOk.op rfl rfl ?_ ?_ ?_; (· (simp -implicitDefEqProofs [b1, b2]; done)); (· (simp -implicitDefEqProofs [b1, b2]; done))) | (refine PendOk.skip rfl rfl ?_ ?_; (· (simp -implicitDefEqProofs [b1, b2]; done)))))
    refine PendOk.call rfl rfl rfl rfl (number_at (hasI x.has) _) ?_
    (repeat (first | exact PendOk.nil | (refine PendOk.op rfl rfl rfl ?_ ?_; (· (simp -implicitDefEqProofs [encS, b1]; done))) | (refine PendOk.op rfl rfl ?_ ?_ ?_; (· (simp -implicitDefEqProofs [encS, b1]; done)); (· (simp -implicitDefEqProofs [encS, b1]; done))) | (refine PendOk.skip rfl rfl ?_ ?_; (· (simp -implicitDefEqProofs [encS, b1]; done)))))
    refine PendOk.call rfl rfl rfl rfl (number_at x.err _) ?_
    (repeat (first | exact PendOk.nil | (refine PendOk.op rfl rfl rfl ?_ ?_; (· (simp -implicitDefEqProofs [encS, b1]; done))) | (refine PendOk.op rfl rfl ?_ ?_ ?_; (· (simp -implicitDefEqProofs [encS, b1]; done)); (· (simp -implicitDefEqProofs [encS, b1]; done))) | (refine PendOk.skip rfl rfl ?_ ?_; (· (simp -implicitDefEqProofs [encS, b1]; done)))))
    refine PendOk.call rfl rfl rfl rfl (number_at x.seq _) ?_
    (repeat (first | exact PendOk.nil | (refine PendOk.op rfl rfl rfl ?_ ?_; (· (simp -implicitDefEqProofs [encS]; done))) | (refine PendOk.op rfl rfl ?_ ?_ ?_; (· (simp -implicitDefEqProofs [encS]; done)); (· (simp -implicitDefEqProofs [encS]; done))) | (refine PendOk.skip rfl rfl ?_ ?_; (· (simp -implicitDefEqProofs [encS]; done)))))) ?_; (repeat (first | refine execQ_E rfl ?_ | (apply execQ_0 rfl; (· rfl); (· (simp -implicitDefEqProofs; exact ⟨rfl, rfl⟩))) | (apply execQ_A rfl; (· (simp -implicitDefEqProofs; done)); (· rfl); (· (simp -implicitDefEqProofs; exact ⟨rfl, rfl⟩))) | (apply execQ_N rfl; (· (simp -implicitDefEqProofs; done))))); intro hpo
  refine RunD.alt1 18 (by kernel_rfl) (by kernel_rfl) hpo ?_
  (first | (apply AStep.o0 rfl; (· (simp -implicitDefEqProofs; exact ⟨rfl, rfl⟩))) | (apply AStep.A rfl; (· (simp -implicitDefEqProofs; done)); (· (simp -implicitDefEqProofs; exact ⟨rfl, rfl⟩))) | (apply AStep.N rfl; (· (simp -implicitDefEqProofs; done))))
  refine RunD.flow [19] (by kernel_rfl) (by decide +kernel) (by decide +kernel) (by decide) trivial ?_; (repeat (first | refine execQ_E rfl ?_ | (apply execQ_0 rfl; (· rfl); (· (simp -implicitDefEqProofs; exact ⟨rfl, rfl⟩))) | (apply execQ_A rfl; (· (simp -implicitDefEqProofs; done)); (· rfl); (· (simp -implicitDefEqProofs; exact ⟨rfl, rfl⟩))) | (apply execQ_N rfl; (· (simp -implicitDefEqProofs; done))))); intro hpo
  refine RunD.fin (by kernel_rfl) hpo ?_
  refine Run.mv [1] [(2, .ptr 0 0), (3, .int .i64 0)] [.row [.str [116, kb], .str ((vputM x.seq).1 ++ (vputM x.err).1 ++ (vputM (hasI x.has)).1), .bool false]] (by rfl) (by decide) (by simp -implicitDefEqProofs) (by simp -implicitDefEqProofs) ?_
  refine Run.ret0 rfl Try.func24 r24_ok trivial (by simp [r24]; rfl) (by simp) (by simp)

end Go.Proofs.Yticecideodkcmaa
