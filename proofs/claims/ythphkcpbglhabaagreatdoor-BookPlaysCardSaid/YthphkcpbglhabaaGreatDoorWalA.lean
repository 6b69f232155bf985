/-
  Layer 06, part A: the sum of bytes (package crc).
-/
import Derived.Test.YthphkcpbglhabaaGreatDoorFsK
namespace Go.Proofs.YthphkcpbglhabaaGreatDoor
open Sx Go
set_option maxRecDepth 100000
set_option linter.unusedSimpArgs false
set_option linter.unusedVariables false
set_option linter.unnecessarySimpa false
attribute [local simp] stepV condR boundsC appendG appendO copyV srcC guardB isCall opStep Opd.ev put readAt aBin aUn args0 V.celled V.ones V.one V.cells putAt bounds bound1 elemsOf srcOf appendV fillAt fillEl V.pures V.pure unwind evs ARes.ev mkRes V.ren V.renL O.ren eqCells eq1 aEq aMM hasTy hasTyN okTy mmGo Known HLe OLe VsLe.refl VLe.refl VLe.cap Stay VsLe V.frz V.frzL O.frz fr clearV rn KnownR Objs OLeO ObjsE nm back setAll ren_ite take_map_len List.take_of_length_le
attribute [local simp ↓] upd_app tl_cons tl_nil

def crcNot (c : Int) : Int := IntKind.u32.wrap ((BitVec.ofInt IntKind.u32.bits (if IntKind.u32.signed then -1 else IntKind.u32.max) ^^^ BitVec.ofInt IntKind.u32.bits c).toNat : Int)
def crcBit (c : Int) : Int := if iAnd .u32 c 1 = 1 then iXor .u32 (iShr .u32 c 1) 2197175160 else iShr .u32 c 1
def crcBits : Nat → Int → Int
  | 0, c => c
  | j + 1, c => crcBit (crcBits j c)
def crcByte (c : Int) (b : UInt8) : Int := crcBits 8 (iXor .u32 c (IntKind.u32.wrap (b.toNat : Int)))
def crcStart (n : Int) : Int := crcNot (IntKind.u32.wrap (iAnd .i64 n 4294967295))
def crcEnd (c : Int) : Int := IntKind.i64.wrap (crcNot c)
def crcMore (n : Int) (s : Bs) : Int := crcEnd (s.foldl crcByte (crcStart n))

theorem more_tri (n : Int) (s : Bs) (hl : s.length ≤ 4611686018427387904) : Tri Tryz.prog 184 [.int .i64 n, .str s] [] (fun v H => v = .int .i64 (crcMore n s) ∧ H = []) := by
  refine Tri.of_run' Tryz.func184 rfl c184_ok (by simp [Tryz.ntmps184]) ?_
  (repeat (first | refine Run.adm rfl ?_ | refine Run.seq ?_ | ((first | apply Run.opS rfl | apply Run.condS); (· (simp -implicitDefEqProofs; first | exact ⟨rfl, rfl⟩ | exact rfl)))))
  refine Run.loopC [] (fun (i : Nat) => ([(1, .str s), (5, .int .u32 ((s.take i).foldl crcByte (crcStart n))), (13, .int .i64 s.length), (14, .int .i64 i)], [])) (fun i => i ≤ s.length) (fun i => s.length - i) 0 (by simp) (by rfl) (by decide) (by simp [crcStart, crcNot]) (by simp) ?_
  rintro i hi ih
  by_cases hlt : i < s.length
  · obtain ⟨x, hx, hxi, -, -⟩ := getL hlt
    have hlt' : (i : Int) < s.length := by omega
    have hw := wrap_small (n := (i : Int) + 1) (by omega) (by omega)
    have hstep : (s.take (i + 1)).foldl crcByte (crcStart n) = crcByte ((s.take i).foldl crcByte (crcStart n)) x := by
      rw [List.take_add_one, hx]; simp [List.foldl_append]
    generalize (s.take i).foldl crcByte (crcStart n) = c at *
    (repeat (first | refine Run.adm rfl ?_ | refine Run.seq ?_ | ((first | apply Run.opS rfl | apply Run.condS); (· (simp -implicitDefEqProofs [hlt, hlt', hx, hxi]; first | exact ⟨rfl, rfl⟩ | exact rfl)))))
    refine Run.loopC [] (fun (j : Nat) => ([(1, .str s), (5, .int .u32 (crcBits j (iXor .u32 c (IntKind.u32.wrap (x.toNat : Int))))), (13, .int .i64 s.length), (14, .int .i64 i), (23, .int .i64 j)], [])) (fun j => j ≤ 8) (fun j => 8 - j) 0 (by simp) (by rfl) (by decide) (by simp [crcBits]) (by simp) ?_
    rintro j hj jh
    by_cases hlj : j < 8
    · have hlj' : (j : Int) < 8 := by omega
      have hwj := wrap_small (n := (j : Int) + 1) (by omega) (by omega)
      by_cases hb : iAnd .u32 (crcBits j (iXor .u32 c (IntKind.u32.wrap (x.toNat : Int)))) 1 = 1
      · (repeat (first | refine Run.adm rfl ?_ | refine Run.seq ?_ | ((first | apply Run.opS rfl | apply Run.condS); (· (simp -implicitDefEqProofs [hlj, hlj', hb]; first | exact ⟨rfl, rfl⟩ | exact rfl)))))
        refine Run.mv [] _ _ (by rfl) (by decide) (by simp [hwj, crcBits, crcBit, hb]) (by simp) (jh (j + 1) ?_ ?_)
        · omega
        · omega
      · (repeat (first | refine Run.adm rfl ?_ | refine Run.seq ?_ | ((first | apply Run.opS rfl | apply Run.condS); (· (simp -implicitDefEqProofs [hlj, hlj', hb]; first | exact ⟨rfl, rfl⟩ | exact rfl)))))
        refine Run.mv [] _ _ (by rfl) (by decide) (by simp [hwj, crcBits, crcBit, hb]) (by simp) (jh (j + 1) ?_ ?_)
        · omega
        · omega
    · have : j = 8 := by omega
      subst this
      (repeat (first | refine Run.adm rfl ?_ | refine Run.seq ?_ | ((first | apply Run.opS rfl | apply Run.condS); (· (simp -implicitDefEqProofs; first | exact ⟨rfl, rfl⟩ | exact rfl)))))
      refine Run.mv [] _ _ (by rfl) (by decide) (by simp -implicitDefEqProofs [hw, hstep, crcByte]) (by simp -implicitDefEqProofs [hw, hstep, crcByte]) (ih (i + 1) ?_ ?_)
      · omega
      · omega
  · have : i = s.length := by omega
    subst this
    (repeat (first | refine Run.adm rfl ?_ | refine Run.seq ?_ | ((first | apply Run.opS rfl | apply Run.condS); (· (simp -implicitDefEqProofs; first | exact ⟨rfl, rfl⟩ | exact rfl)))))
    refine Run.retI Tryz.func184 r184_ok trivial (by simp -implicitDefEqProofs [r184, crcMore, crcEnd, crcNot]; rfl) (by simp [crcMore, crcEnd, crcNot]) ?_ (by simp -implicitDefEqProofs [crcMore, crcEnd, crcNot]) (by simp -implicitDefEqProofs [crcMore, crcEnd, crcNot])
    simp [crcMore, crcEnd, crcNot]
theorem more_at (n : Int) (s : Bs) (hl : s.length ≤ 4611686018427387904) (H : List O) : Tri Tryz.prog 184 [.int .i64 n, .str s] H (fun v H' => v = .int .i64 (crcMore n s) ∧ H' = H) := (more_tri n s hl).at rfl rfl H
theorem sum_tri (s : Bs) (hl : s.length ≤ 4611686018427387904) : Tri Tryz.prog 154 [.str s] [] (fun v H => v = .int .i64 (crcMore 0 s) ∧ H = []) := by
  refine Tri.of_run' Tryz.func154 rfl c154_ok (by simp [Tryz.ntmps154]) ?_
  (repeat (first | refine Run.adm rfl ?_ | refine Run.seq ?_ | ((first | apply Run.opS rfl | apply Run.condS); (· (simp -implicitDefEqProofs; first | exact ⟨rfl, rfl⟩ | exact rfl)))))
  refine Run.opC rfl rfl rfl (more_at 0 s hl _) ?_
  rintro v h' ⟨rfl, rfl⟩
  (repeat (first | refine Run.adm rfl ?_ | refine Run.seq ?_ | ((first | apply Run.opS rfl | apply Run.condS); (· (simp -implicitDefEqProofs; first | exact ⟨rfl, rfl⟩ | exact rfl)))))
  refine Run.retI Tryz.func154 r154_ok trivial (by simp -implicitDefEqProofs [r154]; rfl) (by simp ) ?_ (by simp -implicitDefEqProofs ) (by simp -implicitDefEqProofs )
  simp

/-- a sum's bytes -/
def crcAt (n : Int) (k : Nat) : Int := IntKind.u8.wrap (iShr .i64 n (8 * (k : Int)))
def crcBytes (n : Int) : Bs := [UInt8.ofNat (crcAt n 0).toNat, UInt8.ofNat (crcAt n 1).toNat, UInt8.ofNat (crcAt n 2).toNat, UInt8.ofNat (crcAt n 3).toNat]
theorem crcBytes_len (n) : (crcBytes n).length = 4 := rfl
def crcEls (n : Int) : Nat → List V
  | 0 => [.int .u8 0, .int .u8 0, .int .u8 0, .int .u8 0]
  | 1 => [.int .u8 (crcAt n 0), .int .u8 0, .int .u8 0, .int .u8 0]
  | 2 => [.int .u8 (crcAt n 0), .int .u8 (crcAt n 1), .int .u8 0, .int .u8 0]
  | 3 => [.int .u8 (crcAt n 0), .int .u8 (crcAt n 1), .int .u8 (crcAt n 2), .int .u8 0]
  | _ => [.int .u8 (crcAt n 0), .int .u8 (crcAt n 1), .int .u8 (crcAt n 2), .int .u8 (crcAt n 3)]
theorem bytes_tri (n : Int) : Tri Tryz.prog 153 [.int .i64 n] [] (fun v H => v = .str (crcBytes n) ∧ H = []) := by
  refine Tri.of_run' Tryz.func153 rfl c153_ok (by simp [Tryz.ntmps153]) ?_
  (repeat (first | refine Run.adm rfl ?_ | refine Run.seq ?_ | ((first | apply Run.opS rfl | apply Run.condS); (· (simp -implicitDefEqProofs; first | exact ⟨rfl, rfl⟩ | exact rfl)))))
  refine Run.loopC [0] (fun (i : Nat) => ([(0, .int .i64 n), (3, .ptr 0 0), (5, .int .i64 i)], [.row (crcEls n i)])) (fun i => i ≤ 4) (fun i => 4 - i) 0 (by simp) (by rfl) (by decide) (by simp) (by simp [crcEls]) ?_
  rintro i hi ih
  have w0 : IntKind.i64.wrap 0 = 0 := by decide
  have w1 : IntKind.i64.wrap 1 = 1 := by decide
  have w2 : IntKind.i64.wrap 2 = 2 := by decide
  have w3 : IntKind.i64.wrap 3 = 3 := by decide
  have w4 : IntKind.i64.wrap 4 = 4 := by decide
  have w8 : IntKind.i64.wrap 8 = 8 := by decide
  have w16 : IntKind.i64.wrap 16 = 16 := by decide
  have w24 : IntKind.i64.wrap 24 = 24 := by decide
  match i, hi with
  | 0, _ =>
    (repeat (first | refine Run.adm rfl ?_ | refine Run.seq ?_ | ((first | apply Run.opS rfl | apply Run.condS); (· (simp -implicitDefEqProofs [crcEls, w0]; first | exact ⟨rfl, rfl⟩ | exact rfl)))))
    refine Run.mv [0] _ _ (by rfl) (by decide) (by simp -implicitDefEqProofs [crcEls, crcAt, w1]) (by simp -implicitDefEqProofs [crcEls, crcAt, w1]) (ih (1) ?_ ?_)
    · omega
    · omega
  | 1, _ =>
    (repeat (first | refine Run.adm rfl ?_ | refine Run.seq ?_ | ((first | apply Run.opS rfl | apply Run.condS); (· (simp -implicitDefEqProofs [crcEls, w8]; first | exact ⟨rfl, rfl⟩ | exact rfl)))))
    refine Run.mv [0] _ _ (by rfl) (by decide) (by simp -implicitDefEqProofs [crcEls, crcAt, w2]) (by simp -implicitDefEqProofs [crcEls, crcAt, w2]) (ih (2) ?_ ?_)
    · omega
    · omega
  | 2, _ =>
    (repeat (first | refine Run.adm rfl ?_ | refine Run.seq ?_ | ((first | apply Run.opS rfl | apply Run.condS); (· (simp -implicitDefEqProofs [crcEls, w16]; first | exact ⟨rfl, rfl⟩ | exact rfl)))))
    refine Run.mv [0] _ _ (by rfl) (by decide) (by simp -implicitDefEqProofs [crcEls, crcAt, w3]) (by simp -implicitDefEqProofs [crcEls, crcAt, w3]) (ih (3) ?_ ?_)
    · omega
    · omega
  | 3, _ =>
    (repeat (first | refine Run.adm rfl ?_ | refine Run.seq ?_ | ((first | apply Run.opS rfl | apply Run.condS); (· (simp -implicitDefEqProofs [crcEls, w24]; first | exact ⟨rfl, rfl⟩ | exact rfl)))))
    refine Run.mv [0] _ _ (by rfl) (by decide) (by simp -implicitDefEqProofs [crcEls, crcAt, w4]) (by simp -implicitDefEqProofs [crcEls, crcAt, w4]) (ih (4) ?_ ?_)
    · omega
    · omega
  | 4, _ =>
    (repeat (first | refine Run.adm rfl ?_ | refine Run.seq ?_ | ((first | apply Run.opS rfl | apply Run.condS); (· (simp -implicitDefEqProofs [crcEls, chunk, bytesOf]; first | exact ⟨rfl, rfl⟩ | exact rfl)))))
    refine Run.ret0 rfl Tryz.func153 r153_ok trivial (by simp [r153]; rfl) ?_ (by simp)
    exact ⟨by simp [crcBytes], rfl⟩
theorem sum_at (s : Bs) (hl : s.length ≤ 4611686018427387904) (H : List O) : Tri Tryz.prog 154 [.str s] H (fun v H' => v = .int .i64 (crcMore 0 s) ∧ H' = H) := (sum_tri s hl).at rfl rfl H
theorem bytes_at (n : Int) (H : List O) : Tri Tryz.prog 153 [.int .i64 n] H (fun v H' => v = .str (crcBytes n) ∧ H' = H) := (bytes_tri n).at rfl rfl H

/-- a text with its sum behind -/
def sealB (s : Bs) : Bs := s ++ crcBytes (crcMore 0 s)
def checkB (s : Bs) : Bool := decide (4 ≤ s.length) && decide (s.drop (s.length - 4) = crcBytes (crcMore 0 (s.take (s.length - 4))))
theorem sealB_len (s) : (sealB s).length = s.length + 4 := by simp [sealB, crcBytes_len]
theorem check_seal (s : Bs) : checkB (sealB s) = true := by
  have h : (sealB s).length - 4 = s.length := by rw [sealB_len]; omega
  have h4 : 4 ≤ (sealB s).length := by rw [sealB_len]; omega
  simp only [checkB, h, h4, decide_true, Bool.true_and, decide_eq_true_eq]
  simp [sealB]
theorem seal_tri (s : Bs) (hl : s.length ≤ 70368744177664) : Tri Tryz.prog 112 [.str s] [] (fun v H => v = .str (sealB s) ∧ H = []) := by
  refine Tri.of_run' Tryz.func112 rfl c112_ok (by simp [Tryz.ntmps112]) ?_
  (repeat (first | refine Run.adm rfl ?_ | refine Run.seq ?_ | ((first | apply Run.opS rfl | apply Run.condS); (· (simp -implicitDefEqProofs; first | exact ⟨rfl, rfl⟩ | exact rfl)))))
  refine Run.opC rfl rfl rfl (sum_at s (by omega) _) ?_
  rintro v h' ⟨rfl, rfl⟩
  (repeat (first | refine Run.adm rfl ?_ | refine Run.seq ?_ | ((first | apply Run.opS rfl | apply Run.condS); (· (simp -implicitDefEqProofs; first | exact ⟨rfl, rfl⟩ | exact rfl)))))
  refine Run.opC rfl rfl rfl (bytes_at _ _) ?_
  rintro v h' ⟨rfl, rfl⟩
  have h4 : s.length + (crcBytes (crcMore 0 s)).length ≤ 4611686018427387904 := by rw [crcBytes_len]; omega
  (repeat (first | refine Run.adm rfl ?_ | refine Run.seq ?_ | ((first | apply Run.opS rfl | apply Run.condS); (· (simp -implicitDefEqProofs [h4]; first | exact ⟨rfl, rfl⟩ | exact rfl)))))
  refine Run.retI Tryz.func112 r112_ok trivial (by simp -implicitDefEqProofs [r112]; rfl) (by simp ) ?_ (by simp -implicitDefEqProofs ) (by simp -implicitDefEqProofs )
  simp [sealB]
theorem check_tri (s : Bs) (hl : s.length ≤ 70368744177664) : Tri Tryz.prog 140 [.str s] [] (fun v H => v = .bool (checkB s) ∧ H = []) := by
  refine Tri.of_run' Tryz.func140 rfl c140_ok (by simp [Tryz.ntmps140]) ?_
  have hw := wrap_small (n := (s.length : Int) - 4) (by omega) (by omega)
  by_cases h4 : 4 ≤ s.length
  · have h4' : (0 : Int) ≤ (s.length : Int) - 4 := by omega
    have hn : ((s.length : Int) - 4) = ((s.length - 4 : Nat) : Int) := by omega
    have hle : s.length - 4 ≤ s.length := by omega
    (repeat (first | refine Run.adm rfl ?_ | refine Run.seq ?_ | ((first | apply Run.opS rfl | apply Run.condS); (· (simp -implicitDefEqProofs [hw]; first | exact ⟨rfl, rfl⟩ | exact rfl)))))
    refine Run.qchain prog_mixed 13 (by kernel_rfl) ?_
    (repeat (first | refine execQ_E rfl ?_ | (apply execQ_S rfl; (· (simp -implicitDefEqProofs [hw, h4', h4, hn, hle]; exact ⟨rfl, rfl⟩)))))
    refine execQ_C rfl (by simp) rfl (sum_at _ (by simp only [List.length_take]; omega) _) ?_
    (repeat (first | refine execQ_E rfl ?_ | (apply execQ_S rfl; (· (simp -implicitDefEqProofs; exact ⟨rfl, rfl⟩)))))
    refine execQ_C rfl (by simp) rfl (bytes_at _ _) ?_
    (repeat (first | refine execQ_E rfl ?_ | (apply execQ_S rfl; (· (simp -implicitDefEqProofs; exact ⟨rfl, rfl⟩)))))
    (repeat (first | refine SeqR.E rfl ?_ | (apply SeqR.o0 rfl; (· (simp -implicitDefEqProofs; exact ⟨rfl, rfl⟩))) | (apply SeqR.A rfl; (· (simp -implicitDefEqProofs; done)); (· (simp -implicitDefEqProofs; exact ⟨rfl, rfl⟩))) | (apply SeqR.N rfl; (· (simp -implicitDefEqProofs; done)))))
    (repeat (first | refine Run.adm rfl ?_ | refine Run.seq ?_ | ((first | apply Run.opS rfl | apply Run.condS); (· (simp -implicitDefEqProofs; first | exact ⟨rfl, rfl⟩ | exact rfl)))))
    refine Run.retI Tryz.func140 r140_ok trivial (by simp -implicitDefEqProofs [r140]; rfl) (by simp ) ?_ (by simp -implicitDefEqProofs ) (by simp -implicitDefEqProofs )
    simp [checkB, h4]
  · have h4' : ¬ (0 : Int) ≤ (s.length : Int) - 4 := by omega
    have h5' : ¬ (4 : Int) ≤ (s.length : Int) := by omega
    (repeat (first | refine Run.adm rfl ?_ | refine Run.seq ?_ | ((first | apply Run.opS rfl | apply Run.condS); (· (simp -implicitDefEqProofs [hw]; first | exact ⟨rfl, rfl⟩ | exact rfl)))))
    refine Run.qchain prog_mixed 13 (by kernel_rfl) ?_
    (repeat (first | refine execQ_E rfl ?_ | (apply execQ_S rfl; (· (simp -implicitDefEqProofs [hw, h4', h5']; exact ⟨rfl, rfl⟩)))))
    (repeat (first | refine SeqR.E rfl ?_ | (apply SeqR.o0 rfl; (· (simp -implicitDefEqProofs; exact ⟨rfl, rfl⟩))) | (apply SeqR.A rfl; (· (simp -implicitDefEqProofs; done)); (· (simp -implicitDefEqProofs; exact ⟨rfl, rfl⟩))) | (apply SeqR.N rfl; (· (simp -implicitDefEqProofs; done)))))
    (repeat (first | refine Run.adm rfl ?_ | refine Run.seq ?_ | ((first | apply Run.opS rfl | apply Run.condS); (· (simp -implicitDefEqProofs; first | exact ⟨rfl, rfl⟩ | exact rfl)))))
    refine Run.retI Tryz.func140 r140_ok trivial (by simp -implicitDefEqProofs [r140]; rfl) (by simp ) ?_ (by simp -implicitDefEqProofs ) (by simp -implicitDefEqProofs )
    simp [checkB, h4]
theorem seal_at (s : Bs) (hl : s.length ≤ 70368744177664) (H : List O) : Tri Tryz.prog 112 [.str s] H (fun v H' => v = .str (sealB s) ∧ H' = H) := (seal_tri s hl).at rfl rfl H
theorem check_at (s : Bs) (hl : s.length ≤ 70368744177664) (H : List O) : Tri Tryz.prog 140 [.str s] H (fun v H' => v = .bool (checkB s) ∧ H' = H) := (check_tri s hl).at rfl rfl H

end Go.Proofs.YthphkcpbglhabaaGreatDoor
