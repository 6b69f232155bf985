/-
  Layer 05, part M: FsNobody: a disk that nobody made.
-/
import Derived.Test.YtoofeikddclclaaFsDec
namespace Go.Proofs.Ytoofeikddclclaa
open Sx Go
set_option maxRecDepth 100000
set_option linter.unusedSimpArgs false
set_option linter.unusedVariables false
set_option linter.unnecessarySimpa false
attribute [local simp] stepV condR boundsC appendG appendO copyV srcC guardB isCall opStep Opd.ev put readAt aBin aUn args0 V.celled V.ones V.one V.cells putAt bounds bound1 elemsOf srcOf appendV fillAt fillEl V.pures V.pure unwind evs ARes.ev mkRes V.ren V.renL O.ren eqCells eq1 aEq aMM hasTy hasTyN okTy mmGo Known HLe OLe VsLe.refl VLe.refl VLe.cap Stay VsLe V.frz V.frzL O.frz fr clearV rn KnownR Objs OLeO ObjsE nm back setAll ren_ite take_map_len List.take_of_length_le
attribute [local simp ↓] upd_app tl_cons tl_nil
attribute [local simp] encS_ren encS_ones encS_len encS_take KnownS VLe.refl

/-- no disk, or an empty one -/
def Nob (X : List O) (v : V) : Prop := v = .nilp ∨ ∃ d, v = .ptr d 0 ∧ X[d]? = some (.row [.nilm, .int .i64 0, .bool false])
theorem Nob.keep {X Y v} (h : Nob X v) (hk : Kept X Y []) : Nob Y v := by
  rcases h with h | ⟨d, h1, h2⟩
  · exact .inl h
  · exact .inr ⟨d, h1, hk.get h2 (by simp)⟩
theorem Nob.app {X v} (h : Nob X v) (L : List O) : Nob (X ++ L) v := h.keep ((Kept.refl X []).app L)

theorem may_nob (X : List O) {v : V} (hv : Nob X v) (x : V) : Tri Try.prog 25 [v, x] X (fun r H => r = .bool false ∧ H = X) := by
  rcases hv with rfl | ⟨d, rfl, hd⟩
  · refine Tri.of_run' Try.func25 rfl c25_ok (by simp [Try.ntmps25]) ?_
    (repeat (first | refine Run.adm rfl ?_ | refine Run.seq ?_ | (apply Run.opS rfl; (· (simp -implicitDefEqProofs; exact ⟨rfl, rfl⟩))) | (apply Run.condS; (· (simp -implicitDefEqProofs; exact rfl)))))
    refine Run.retS Try.func25 r25_ok trivial (by simp [r25]; rfl) ?_
    exact ⟨by simp, rfl⟩
  · refine Tri.of_run' Try.func25 rfl c25_ok (by simp [Try.ntmps25]) ?_
    (repeat (first | refine Run.adm rfl ?_ | refine Run.seq ?_ | (apply Run.opS rfl; (· (simp -implicitDefEqProofs [hd]; exact ⟨rfl, rfl⟩))) | (apply Run.condS; (· (simp -implicitDefEqProofs [hd]; exact rfl)))))
    refine Run.retS Try.func25 r25_ok trivial (by simp [r25]; rfl) ?_
    exact ⟨by simp, rfl⟩
theorem doing_nob (X : List O) {v : V} (hv : Nob X v) (x : V) : Tri Try.prog 23 [v, x] X (fun r H => r = .int .i64 1 ∧ H = X) := by
  refine Tri.of_run' Try.func23 rfl c23_ok (by simp [Try.ntmps23]) ?_
  (repeat (first | refine Run.adm rfl ?_ | refine Run.seq ?_ | (apply Run.opS rfl; (· (simp -implicitDefEqProofs; exact ⟨rfl, rfl⟩))) | (apply Run.condS; (· (simp -implicitDefEqProofs; exact rfl)))))
  refine Run.opC rfl rfl rfl (may_nob X hv x) ?_
  rintro r H ⟨rfl, rfl⟩
  (repeat (first | refine Run.adm rfl ?_ | refine Run.seq ?_ | (apply Run.opS rfl; (· (simp -implicitDefEqProofs; exact ⟨rfl, rfl⟩))) | (apply Run.condS; (· (simp -implicitDefEqProofs; exact rfl)))))
  refine Run.retS Try.func23 r23_ok trivial (by simp [r23]; rfl) ?_
  exact ⟨by simp, rfl⟩
theorem find_nob (X : List O) {v : V} (hv : Nob X v) (s : Bs) : Tri Try.prog 24 [v, .str s, .nils] X (fun r H => r = .tup [.nilp, .int .i64 1] ∧ Kept X H []) := by
  refine Tri.of_run' Try.func24 rfl c24_ok (by simp [Try.ntmps24]) ?_
  (repeat (first | refine Run.adm rfl ?_ | refine Run.seq ?_ | (apply Run.opS rfl; (· (simp -implicitDefEqProofs; exact ⟨rfl, rfl⟩))) | (apply Run.condS; (· (simp -implicitDefEqProofs; exact rfl)))))
  refine Run.opC rfl rfl rfl (doing_nob _ (hv.keep ((Kept.refl X []).app _)) _) ?_
  rintro r H ⟨rfl, rfl⟩
  (repeat (first | refine Run.adm rfl ?_ | refine Run.seq ?_ | (apply Run.opS rfl; (· (simp -implicitDefEqProofs; exact ⟨rfl, rfl⟩))) | (apply Run.condS; (· (simp -implicitDefEqProofs; exact rfl)))))
  refine Run.retS Try.func24 r24_ok trivial (by simp [r24]; rfl) ?_
  exact ⟨by simp, (Kept.refl X []).app _⟩
theorem find2_nob (X : List O) {v : V} (hv : Nob X v) (s to : Bs) {id : Nat} (ho : X[id]? = some (.arr [[.str to]] 1)) (hid : ∀ d, v = .ptr d 0 → d ≠ id) :
    Tri Try.prog 24 [v, .str s, .sl id 0 1 1 (some 1)] X (fun r H => r = .tup [.nilp, .int .i64 1] ∧ Kept X H [id]) := by
  refine Tri.of_run' Try.func24 rfl c24_ok (by simp [Try.ntmps24]) ?_
  have hlt := lt_of_get ho
  (repeat (first | refine Run.adm rfl ?_ | refine Run.seq ?_ | (apply Run.opS rfl; (· (simp -implicitDefEqProofs [getA ho]; exact ⟨rfl, rfl⟩))) | (apply Run.condS; (· (simp -implicitDefEqProofs [getA ho]; exact rfl)))))
  have hk : Kept X ((X ++ [O.arr [[V.str s]] 1]).set id O.gone ++ [O.arr [[V.str to], [V.str s]] 1]) [id] := (((Kept.refl X [id]).app _).set _ _ (.inl (by simp))).app _
  have hv' : Nob ((X ++ [O.arr [[V.str s]] 1]).set id O.gone ++ [O.arr [[V.str to], [V.str s]] 1]) v := by
    rcases hv with h | ⟨d, h1, h2⟩
    · exact .inl h
    · exact .inr ⟨d, h1, hk.get h2 (by simpa using hid d h1)⟩
  refine Run.opC rfl rfl rfl (doing_nob _ hv' _) ?_
  rintro r H ⟨rfl, rfl⟩
  (repeat (first | refine Run.adm rfl ?_ | refine Run.seq ?_ | (apply Run.opS rfl; (· (simp -implicitDefEqProofs; exact ⟨rfl, rfl⟩))) | (apply Run.condS; (· (simp -implicitDefEqProofs; exact rfl)))))
  refine Run.retS Try.func24 r24_ok trivial (by simp [r24]; rfl) ?_
  exact ⟨by simp, hk⟩
theorem look_nob (X : List O) {v : V} (hv : Nob X v) (s : Bs) : Tri Try.prog 26 [v, .str s] X (fun r H => r = .tup [.nilp, .int .i64 1] ∧ Kept X H []) := by
  refine Tri.of_run' Try.func26 rfl c26_ok (by simp [Try.ntmps26]) ?_
  (repeat (first | refine Run.adm rfl ?_ | refine Run.seq ?_ | (apply Run.opS rfl; (· (simp -implicitDefEqProofs; exact ⟨rfl, rfl⟩))) | (apply Run.condS; (· (simp -implicitDefEqProofs; exact rfl)))))
  refine Run.opC rfl rfl rfl (may_nob _ (hv.app _) _) ?_
  rintro r H ⟨rfl, rfl⟩
  (repeat (first | refine Run.adm rfl ?_ | refine Run.seq ?_ | (apply Run.opS rfl; (· (simp -implicitDefEqProofs; exact ⟨rfl, rfl⟩))) | (apply Run.condS; (· (simp -implicitDefEqProofs; exact rfl)))))
  refine Run.retS Try.func26 r26_ok trivial (by simp [r26]; rfl) ?_
  exact ⟨by simp, (Kept.refl X []).app _⟩
theorem read_nob (X : List O) {v : V} (hv : Nob X v) (s : Bs) : Tri Try.prog 14 [v, .str s] X (fun r H => r = .tup [.str [], .int .i64 1] ∧ Kept X H []) := by
  refine Tri.of_run' Try.func14 rfl c14_ok (by simp [Try.ntmps14]) ?_
  (repeat (first | refine Run.adm rfl ?_ | refine Run.seq ?_ | (apply Run.opS rfl; (· (simp -implicitDefEqProofs; exact ⟨rfl, rfl⟩))) | (apply Run.condS; (· (simp -implicitDefEqProofs; exact rfl)))))
  refine Run.opC rfl rfl rfl (look_nob _ hv s) ?_
  rintro r H ⟨rfl, hH⟩
  (repeat (first | refine Run.adm rfl ?_ | refine Run.seq ?_ | (apply Run.opS rfl; (· (simp -implicitDefEqProofs; exact ⟨rfl, rfl⟩))) | (apply Run.condS; (· (simp -implicitDefEqProofs; exact rfl)))))
  refine Run.retS Try.func14 r14_ok trivial (by simp [r14]; rfl) ?_
  exact ⟨by simp, hH⟩
theorem sure_nob (X : List O) {v : V} (hv : Nob X v) (s : Bs) : Tri Try.prog 15 [v, .str s] X (fun r H => r = .tup [.int .i64 0, .int .i64 1] ∧ Kept X H []) := by
  refine Tri.of_run' Try.func15 rfl c15_ok (by simp [Try.ntmps15]) ?_
  (repeat (first | refine Run.adm rfl ?_ | refine Run.seq ?_ | (apply Run.opS rfl; (· (simp -implicitDefEqProofs; exact ⟨rfl, rfl⟩))) | (apply Run.condS; (· (simp -implicitDefEqProofs; exact rfl)))))
  refine Run.opC rfl rfl rfl (look_nob _ hv s) ?_
  rintro r H ⟨rfl, hH⟩
  (repeat (first | refine Run.adm rfl ?_ | refine Run.seq ?_ | (apply Run.opS rfl; (· (simp -implicitDefEqProofs; exact ⟨rfl, rfl⟩))) | (apply Run.condS; (· (simp -implicitDefEqProofs; exact rfl)))))
  refine Run.retS Try.func15 r15_ok trivial (by simp [r15]; rfl) ?_
  exact ⟨by simp, hH⟩
theorem make_nob (X : List O) {v : V} (hv : Nob X v) (s : Bs) : Tri Try.prog 10 [v, .str s] X (fun r H => r = .int .i64 1 ∧ Kept X H []) := by
  refine Tri.of_run' Try.func10 rfl c10_ok (by simp [Try.ntmps10]) ?_
  (repeat (first | refine Run.adm rfl ?_ | refine Run.seq ?_ | (apply Run.opS rfl; (· (simp -implicitDefEqProofs; exact ⟨rfl, rfl⟩))) | (apply Run.condS; (· (simp -implicitDefEqProofs; exact rfl)))))
  refine Run.opC rfl rfl rfl (doing_nob _ (hv.app _) _) ?_
  rintro r H ⟨rfl, rfl⟩
  (repeat (first | refine Run.adm rfl ?_ | refine Run.seq ?_ | (apply Run.opS rfl; (· (simp -implicitDefEqProofs; exact ⟨rfl, rfl⟩))) | (apply Run.condS; (· (simp -implicitDefEqProofs; exact rfl)))))
  refine Run.retS Try.func10 r10_ok trivial (by simp [r10]; rfl) ?_
  exact ⟨by simp, (Kept.refl X []).app _⟩
theorem append_nob (X : List O) {v : V} (hv : Nob X v) (s t : Bs) : Tri Try.prog 11 [v, .str s, .str t] X (fun r H => r = .int .i64 1 ∧ Kept X H []) := by
  refine Tri.of_run' Try.func11 rfl c11_ok (by simp [Try.ntmps11]) ?_
  (repeat (first | refine Run.adm rfl ?_ | refine Run.seq ?_ | (apply Run.opS rfl; (· (simp -implicitDefEqProofs; exact ⟨rfl, rfl⟩))) | (apply Run.condS; (· (simp -implicitDefEqProofs; exact rfl)))))
  refine Run.opC rfl rfl rfl (find_nob _ hv s) ?_
  rintro r H ⟨rfl, hH⟩
  (repeat (first | refine Run.adm rfl ?_ | refine Run.seq ?_ | (apply Run.opS rfl; (· (simp -implicitDefEqProofs; exact ⟨rfl, rfl⟩))) | (apply Run.condS; (· (simp -implicitDefEqProofs; exact rfl)))))
  refine Run.retS Try.func11 r11_ok trivial (by simp [r11]; rfl) ?_
  exact ⟨by simp, hH⟩
theorem sync_nob (X : List O) {v : V} (hv : Nob X v) (s : Bs) : Tri Try.prog 12 [v, .str s] X (fun r H => r = .int .i64 1 ∧ Kept X H []) := by
  refine Tri.of_run' Try.func12 rfl c12_ok (by simp [Try.ntmps12]) ?_
  (repeat (first | refine Run.adm rfl ?_ | refine Run.seq ?_ | (apply Run.opS rfl; (· (simp -implicitDefEqProofs; exact ⟨rfl, rfl⟩))) | (apply Run.condS; (· (simp -implicitDefEqProofs; exact rfl)))))
  refine Run.opC rfl rfl rfl (find_nob _ hv s) ?_
  rintro r H ⟨rfl, hH⟩
  (repeat (first | refine Run.adm rfl ?_ | refine Run.seq ?_ | (apply Run.opS rfl; (· (simp -implicitDefEqProofs; exact ⟨rfl, rfl⟩))) | (apply Run.condS; (· (simp -implicitDefEqProofs; exact rfl)))))
  refine Run.retS Try.func12 r12_ok trivial (by simp [r12]; rfl) ?_
  exact ⟨by simp, hH⟩
theorem remove_nob (X : List O) {v : V} (hv : Nob X v) (s : Bs) : Tri Try.prog 22 [v, .str s] X (fun r H => r = .int .i64 1 ∧ Kept X H []) := by
  refine Tri.of_run' Try.func22 rfl c22_ok (by simp [Try.ntmps22]) ?_
  (repeat (first | refine Run.adm rfl ?_ | refine Run.seq ?_ | (apply Run.opS rfl; (· (simp -implicitDefEqProofs; exact ⟨rfl, rfl⟩))) | (apply Run.condS; (· (simp -implicitDefEqProofs; exact rfl)))))
  refine Run.opC rfl rfl rfl (find_nob _ hv s) ?_
  rintro r H ⟨rfl, hH⟩
  (repeat (first | refine Run.adm rfl ?_ | refine Run.seq ?_ | (apply Run.opS rfl; (· (simp -implicitDefEqProofs; exact ⟨rfl, rfl⟩))) | (apply Run.condS; (· (simp -implicitDefEqProofs; exact rfl)))))
  refine Run.retS Try.func22 r22_ok trivial (by simp [r22]; rfl) ?_
  exact ⟨by simp, hH⟩
theorem rename_nob (X : List O) {v : V} (hv : Nob X v) (hlt : ∀ d, v = .ptr d 0 → d < X.length) (s to : Bs) : Tri Try.prog 20 [v, .str s, .str to] X (fun r H => r = .int .i64 1 ∧ Kept X H []) := by
  refine Tri.of_run' Try.func20 rfl c20_ok (by simp [Try.ntmps20]) ?_
  (repeat (first | refine Run.adm rfl ?_ | refine Run.seq ?_ | (apply Run.opS rfl; (· (simp -implicitDefEqProofs; exact ⟨rfl, rfl⟩))) | (apply Run.condS; (· (simp -implicitDefEqProofs; exact rfl)))))
  refine Run.opC rfl rfl rfl (find2_nob _ (hv.app _) s to (id := X.length) (by simp) (fun d h => Nat.ne_of_lt (hlt d h))) ?_
  rintro r H ⟨rfl, hH⟩
  have hk : Kept X H [] := ⟨by have := hH.1; simp only [List.length_append] at this; omega, fun i hi _ => by
    rw [hH.2 i (by simp; omega) (by simp; omega), List.getElem?_append_left hi]⟩
  (repeat (first | refine Run.adm rfl ?_ | refine Run.seq ?_ | (apply Run.opS rfl; (· (simp -implicitDefEqProofs; exact ⟨rfl, rfl⟩))) | (apply Run.condS; (· (simp -implicitDefEqProofs; exact rfl)))))
  refine Run.retS Try.func20 r20_ok trivial (by simp [r20]; rfl) ?_
  exact ⟨by simp, hk⟩
theorem names_nob (X : List O) {v : V} (hv : Nob X v) : Tri Try.prog 18 [v] X (fun r H => r = .nils ∧ H = X) := by
  refine Tri.of_run' Try.func18 rfl c18_ok (by simp [Try.ntmps18]) ?_
  (repeat (first | refine Run.adm rfl ?_ | refine Run.seq ?_ | (apply Run.opS rfl; (· (simp -implicitDefEqProofs; exact ⟨rfl, rfl⟩))) | (apply Run.condS; (· (simp -implicitDefEqProofs; exact rfl)))))
  refine Run.opC rfl rfl rfl (may_nob _ hv _) ?_
  rintro r H ⟨rfl, rfl⟩
  (repeat (first | refine Run.adm rfl ?_ | refine Run.seq ?_ | (apply Run.opS rfl; (· (simp -implicitDefEqProofs; exact ⟨rfl, rfl⟩))) | (apply Run.condS; (· (simp -implicitDefEqProofs; exact rfl)))))
  refine Run.retS Try.func18 r18_ok trivial (by simp [r18]; rfl) ?_
  exact ⟨by simp, rfl⟩
theorem fuse_nob (X : List O) {v : V} (hv : Nob X v) (n : Int) : Tri Try.prog 16 [v, .int .i64 n] X (fun r H => r = .int .i64 1 ∧ H = X) := by
  refine Tri.of_run' Try.func16 rfl c16_ok (by simp [Try.ntmps16]) ?_
  (repeat (first | refine Run.adm rfl ?_ | refine Run.seq ?_ | (apply Run.opS rfl; (· (simp -implicitDefEqProofs; exact ⟨rfl, rfl⟩))) | (apply Run.condS; (· (simp -implicitDefEqProofs; exact rfl)))))
  refine Run.opC rfl rfl rfl (may_nob _ hv _) ?_
  rintro r H ⟨rfl, rfl⟩
  (repeat (first | refine Run.adm rfl ?_ | refine Run.seq ?_ | (apply Run.opS rfl; (· (simp -implicitDefEqProofs; exact ⟨rfl, rfl⟩))) | (apply Run.condS; (· (simp -implicitDefEqProofs; exact rfl)))))
  refine Run.retS Try.func16 r16_ok trivial (by simp [r16]; rfl) ?_
  exact ⟨by simp, rfl⟩
theorem off_nob (X : List O) {v : V} (hv : Nob X v) : Tri Try.prog 17 [v] X (fun r H => r = .bool false ∧ H = X) := by
  refine Tri.of_run' Try.func17 rfl c17_ok (by simp [Try.ntmps17]) ?_
  (repeat (first | refine Run.adm rfl ?_ | refine Run.seq ?_ | (apply Run.opS rfl; (· (simp -implicitDefEqProofs; exact ⟨rfl, rfl⟩))) | (apply Run.condS; (· (simp -implicitDefEqProofs; exact rfl)))))
  refine Run.opC rfl rfl rfl (may_nob _ hv _) ?_
  rintro r H ⟨rfl, rfl⟩
  (repeat (first | refine Run.adm rfl ?_ | refine Run.seq ?_ | (apply Run.opS rfl; (· (simp -implicitDefEqProofs; exact ⟨rfl, rfl⟩))) | (apply Run.condS; (· (simp -implicitDefEqProofs; exact rfl)))))
  refine Run.retS Try.func17 r17_ok trivial (by simp [r17]; rfl) ?_
  exact ⟨by simp, rfl⟩
theorem crash_nob (X : List O) {v : V} (hv : Nob X v) (x : V) : Tri Try.prog 13 [v, x] X (fun r H => r = .int .i64 1 ∧ H = X) := by
  refine Tri.of_run' Try.func13 rfl c13_ok (by simp [Try.ntmps13]) ?_
  (repeat (first | refine Run.adm rfl ?_ | refine Run.seq ?_ | (apply Run.opS rfl; (· (simp -implicitDefEqProofs; exact ⟨rfl, rfl⟩))) | (apply Run.condS; (· (simp -implicitDefEqProofs; exact rfl)))))
  refine Run.opC rfl rfl rfl (may_nob _ hv _) ?_
  rintro r H ⟨rfl, rfl⟩
  (repeat (first | refine Run.adm rfl ?_ | refine Run.seq ?_ | (apply Run.opS rfl; (· (simp -implicitDefEqProofs; exact ⟨rfl, rfl⟩))) | (apply Run.condS; (· (simp -implicitDefEqProofs; exact rfl)))))
  refine Run.retS Try.func13 r13_ok trivial (by simp [r13]; rfl) ?_
  exact ⟨by simp, rfl⟩

theorem nobody_law (a b : Bs) (n : Int) : Tri Try.prog 7 [.str a, .str b, .int .i64 n] [] (fun v H => v = .bool true ∧ H = []) := by
  refine Tri.of_run' Try.func7 rfl c7_ok (by simp [Try.ntmps7]) ?_
  have hfin : ∀ {k t h}, AtEnd k → t 6 = .bool true → Run ⟨Try.prog, 7, Try.f7.ntmps, [], fun v H => v = .bool true ∧ H = []⟩ ⟨k, t, h⟩ := by
    intro k t h hk h2
    refine Run.ret0 rfl Try.func7 r7_ok hk (by simp [r7]; rfl) ?_ (by simp [h2])
    exact ⟨by simp [h2], rfl⟩
  (repeat (first | refine Run.adm rfl ?_ | refine Run.seq ?_ | (apply Run.opS rfl; (· (simp -implicitDefEqProofs; exact ⟨rfl, rfl⟩))) | (apply Run.condS; (· (simp -implicitDefEqProofs; exact rfl)))))
  obtain ⟨X0, hX0⟩ : ∃ X0, X0 = [O.row [V.nilm, V.int IntKind.i64 0, V.bool false], O.row [V.nilp, V.ptr 0 0]] := ⟨_, rfl⟩
  have b0 : X0[0]? = some (.row [.nilm, .int .i64 0, .bool false]) := by rw [hX0]; rfl
  have b1 : X0[1]? = some (.row [.nilp, .ptr 0 0]) := by rw [hX0]; rfl
  refine run_to [(0, .str a), (1, .str b), (2, .int .i64 n), (7, .sl 1 0 2 1 (some 2)), (8, .int .i64 (0 : Nat))] (fun Z => Kept X0 Z []) (by simp) (by rw [← hX0]; exact Kept.refl _ _) ?_
  intro Z0 hZ0
  refine Run.loopS (fun (x : Nat × List O) => ([(0, .str a), (1, .str b), (2, .int .i64 n), (7, .sl 1 0 2 1 (some 2)), (8, .int .i64 x.1)], x.2)) (fun x => x.1 ≤ 2 ∧ Kept X0 x.2 []) (fun x => 2 - x.1) ?_ (0, Z0) ⟨by omega, hZ0⟩
  rintro ⟨i, Z⟩ ⟨hi, hk⟩ ih
  simp only at *
  rcases (by omega : i = 0 ∨ i = 1 ∨ i = 2) with rfl | rfl | rfl
  · have hv : ∀ {Z}, Kept X0 Z [] → Nob Z V.nilp := fun hk => .inl rfl
    have hr : ∀ {Z}, Kept X0 Z [] → Z[1]? = some (.row [.nilp, .ptr 0 0]) := fun hk => hk.get b1 (by simp)
    have kt : ∀ {Z W}, Kept X0 Z [] → Kept Z W [] → Kept X0 W [] := fun h k => (h.trans k).mono (by simp)
    have r0 := hr hk
    (repeat (first | refine Run.adm rfl ?_ | refine Run.seq ?_ | (apply Run.opS rfl; (· (simp -implicitDefEqProofs [r0]; exact ⟨rfl, rfl⟩))) | (apply Run.condS; (· (simp -implicitDefEqProofs [r0]; exact rfl)))))
    refine Run.opC rfl (by simp) rfl (read_nob _ (hv hk) a) ?_
    rintro v Z1 ⟨rfl, h1⟩
    have k1 := kt hk h1
    have r1 := hr k1
    (repeat (first | refine Run.adm rfl ?_ | refine Run.seq ?_ | (apply Run.opS rfl; (· (simp -implicitDefEqProofs [r1]; exact ⟨rfl, rfl⟩))) | (apply Run.condS; (· (simp -implicitDefEqProofs [r1]; exact rfl)))))
    refine Run.opC rfl (by simp) rfl (sure_nob _ (hv k1) a) ?_
    rintro v Z2 ⟨rfl, h2⟩
    have k2 := kt k1 h2
    have r2 := hr k2
    (repeat (first | refine Run.adm rfl ?_ | refine Run.seq ?_ | (apply Run.opS rfl; (· (simp -implicitDefEqProofs [r2]; exact ⟨rfl, rfl⟩))) | (apply Run.condS; (· (simp -implicitDefEqProofs [r2]; exact rfl)))))
    refine Run.opC rfl (by simp) rfl (make_nob _ (hv k2) a) ?_
    rintro v Z3 ⟨rfl, h3⟩
    have k3 := kt k2 h3
    have r3 := hr k3
    (repeat (first | refine Run.adm rfl ?_ | refine Run.seq ?_ | (apply Run.opS rfl; (· (simp -implicitDefEqProofs [r3]; exact ⟨rfl, rfl⟩))) | (apply Run.condS; (· (simp -implicitDefEqProofs [r3]; exact rfl)))))
    refine Run.opC rfl (by simp) rfl (append_nob _ (hv k3) a b) ?_
    rintro v Z4 ⟨rfl, h4⟩
    have k4 := kt k3 h4
    have r4 := hr k4
    (repeat (first | refine Run.adm rfl ?_ | refine Run.seq ?_ | (apply Run.opS rfl; (· (simp -implicitDefEqProofs [r4]; exact ⟨rfl, rfl⟩))) | (apply Run.condS; (· (simp -implicitDefEqProofs [r4]; exact rfl)))))
    refine Run.opC rfl (by simp) rfl (sync_nob _ (hv k4) a) ?_
    rintro v Z5 ⟨rfl, h5⟩
    have k5 := kt k4 h5
    have r5 := hr k5
    (repeat (first | refine Run.adm rfl ?_ | refine Run.seq ?_ | (apply Run.opS rfl; (· (simp -implicitDefEqProofs [r5]; exact ⟨rfl, rfl⟩))) | (apply Run.condS; (· (simp -implicitDefEqProofs [r5]; exact rfl)))))
    refine Run.opC rfl (by simp) rfl (rename_nob _ (hv k5) (fun d h => by cases h) a b) ?_
    rintro v Z6 ⟨rfl, h6⟩
    have k6 := kt k5 h6
    have r6 := hr k6
    (repeat (first | refine Run.adm rfl ?_ | refine Run.seq ?_ | (apply Run.opS rfl; (· (simp -implicitDefEqProofs [r6]; exact ⟨rfl, rfl⟩))) | (apply Run.condS; (· (simp -implicitDefEqProofs [r6]; exact rfl)))))
    refine Run.opC rfl (by simp) rfl (remove_nob _ (hv k6) a) ?_
    rintro v Z7 ⟨rfl, h7⟩
    have k7 := kt k6 h7
    have r7 := hr k7
    (repeat (first | refine Run.adm rfl ?_ | refine Run.seq ?_ | (apply Run.opS rfl; (· (simp -implicitDefEqProofs [r7]; exact ⟨rfl, rfl⟩))) | (apply Run.condS; (· (simp -implicitDefEqProofs [r7]; exact rfl)))))
    refine Run.opC rfl (by simp) rfl (names_nob _ (hv k7)) ?_
    rintro v W ⟨rfl, hW⟩
    rw [hW]
    clear hW
    (repeat (first | refine Run.adm rfl ?_ | refine Run.seq ?_ | (apply Run.opS rfl; (· (simp -implicitDefEqProofs [r7]; exact ⟨rfl, rfl⟩))) | (apply Run.condS; (· (simp -implicitDefEqProofs [r7]; exact rfl)))))
    refine Run.opC rfl (by simp) rfl (fuse_nob _ (hv k7) n) ?_
    rintro v W ⟨rfl, hW⟩
    rw [hW]
    clear hW
    (repeat (first | refine Run.adm rfl ?_ | refine Run.seq ?_ | (apply Run.opS rfl; (· (simp -implicitDefEqProofs [r7]; exact ⟨rfl, rfl⟩))) | (apply Run.condS; (· (simp -implicitDefEqProofs [r7]; exact rfl)))))
    refine Run.opC rfl (by simp) rfl (off_nob _ (hv k7)) ?_
    rintro v W ⟨rfl, hW⟩
    rw [hW]
    clear hW
    (repeat (first | refine Run.adm rfl ?_ | refine Run.seq ?_ | (apply Run.opS rfl; (· (simp -implicitDefEqProofs [r7]; exact ⟨rfl, rfl⟩))) | (apply Run.condS; (· (simp -implicitDefEqProofs [r7]; exact rfl)))))
    refine Run.opC rfl (by simp) rfl (crash_nob _ (hv k7) _) ?_
    rintro v W ⟨rfl, hW⟩
    rw [hW]
    clear hW
    (repeat (first | refine Run.adm rfl ?_ | refine Run.seq ?_ | (apply Run.opS rfl; (· (simp -implicitDefEqProofs [r7]; exact ⟨rfl, rfl⟩))) | (apply Run.condS; (· (simp -implicitDefEqProofs [r7]; exact rfl)))))
    refine Run.sl _ ?_ (ih (1, _) ⟨by simp only; omega, k7⟩ (by simp only; omega))
    simp [show IntKind.i64.wrap 1 = 1 from by decide]
  · have hv : ∀ {Z}, Kept X0 Z [] → Nob Z (V.ptr 0 0) := fun hk => .inr ⟨0, rfl, hk.get b0 (by simp)⟩
    have hr : ∀ {Z}, Kept X0 Z [] → Z[1]? = some (.row [.nilp, .ptr 0 0]) := fun hk => hk.get b1 (by simp)
    have kt : ∀ {Z W}, Kept X0 Z [] → Kept Z W [] → Kept X0 W [] := fun h k => (h.trans k).mono (by simp)
    have r0 := hr hk
    (repeat (first | refine Run.adm rfl ?_ | refine Run.seq ?_ | (apply Run.opS rfl; (· (simp -implicitDefEqProofs [r0]; exact ⟨rfl, rfl⟩))) | (apply Run.condS; (· (simp -implicitDefEqProofs [r0]; exact rfl)))))
    refine Run.opC rfl (by simp) rfl (read_nob _ (hv hk) a) ?_
    rintro v Z1 ⟨rfl, h1⟩
    have k1 := kt hk h1
    have r1 := hr k1
    (repeat (first | refine Run.adm rfl ?_ | refine Run.seq ?_ | (apply Run.opS rfl; (· (simp -implicitDefEqProofs [r1]; exact ⟨rfl, rfl⟩))) | (apply Run.condS; (· (simp -implicitDefEqProofs [r1]; exact rfl)))))
    refine Run.opC rfl (by simp) rfl (sure_nob _ (hv k1) a) ?_
    rintro v Z2 ⟨rfl, h2⟩
    have k2 := kt k1 h2
    have r2 := hr k2
    (repeat (first | refine Run.adm rfl ?_ | refine Run.seq ?_ | (apply Run.opS rfl; (· (simp -implicitDefEqProofs [r2]; exact ⟨rfl, rfl⟩))) | (apply Run.condS; (· (simp -implicitDefEqProofs [r2]; exact rfl)))))
    refine Run.opC rfl (by simp) rfl (make_nob _ (hv k2) a) ?_
    rintro v Z3 ⟨rfl, h3⟩
    have k3 := kt k2 h3
    have r3 := hr k3
    (repeat (first | refine Run.adm rfl ?_ | refine Run.seq ?_ | (apply Run.opS rfl; (· (simp -implicitDefEqProofs [r3]; exact ⟨rfl, rfl⟩))) | (apply Run.condS; (· (simp -implicitDefEqProofs [r3]; exact rfl)))))
    refine Run.opC rfl (by simp) rfl (append_nob _ (hv k3) a b) ?_
    rintro v Z4 ⟨rfl, h4⟩
    have k4 := kt k3 h4
    have r4 := hr k4
    (repeat (first | refine Run.adm rfl ?_ | refine Run.seq ?_ | (apply Run.opS rfl; (· (simp -implicitDefEqProofs [r4]; exact ⟨rfl, rfl⟩))) | (apply Run.condS; (· (simp -implicitDefEqProofs [r4]; exact rfl)))))
    refine Run.opC rfl (by simp) rfl (sync_nob _ (hv k4) a) ?_
    rintro v Z5 ⟨rfl, h5⟩
    have k5 := kt k4 h5
    have r5 := hr k5
    (repeat (first | refine Run.adm rfl ?_ | refine Run.seq ?_ | (apply Run.opS rfl; (· (simp -implicitDefEqProofs [r5]; exact ⟨rfl, rfl⟩))) | (apply Run.condS; (· (simp -implicitDefEqProofs [r5]; exact rfl)))))
    refine Run.opC rfl (by simp) rfl (rename_nob _ (hv k5) (fun d h => by cases h; exact lt_of_get (k5.get b0 (by simp))) a b) ?_
    rintro v Z6 ⟨rfl, h6⟩
    have k6 := kt k5 h6
    have r6 := hr k6
    (repeat (first | refine Run.adm rfl ?_ | refine Run.seq ?_ | (apply Run.opS rfl; (· (simp -implicitDefEqProofs [r6]; exact ⟨rfl, rfl⟩))) | (apply Run.condS; (· (simp -implicitDefEqProofs [r6]; exact rfl)))))
    refine Run.opC rfl (by simp) rfl (remove_nob _ (hv k6) a) ?_
    rintro v Z7 ⟨rfl, h7⟩
    have k7 := kt k6 h7
    have r7 := hr k7
    (repeat (first | refine Run.adm rfl ?_ | refine Run.seq ?_ | (apply Run.opS rfl; (· (simp -implicitDefEqProofs [r7]; exact ⟨rfl, rfl⟩))) | (apply Run.condS; (· (simp -implicitDefEqProofs [r7]; exact rfl)))))
    refine Run.opC rfl (by simp) rfl (names_nob _ (hv k7)) ?_
    rintro v W ⟨rfl, hW⟩
    rw [hW]
    clear hW
    (repeat (first | refine Run.adm rfl ?_ | refine Run.seq ?_ | (apply Run.opS rfl; (· (simp -implicitDefEqProofs [r7]; exact ⟨rfl, rfl⟩))) | (apply Run.condS; (· (simp -implicitDefEqProofs [r7]; exact rfl)))))
    refine Run.opC rfl (by simp) rfl (fuse_nob _ (hv k7) n) ?_
    rintro v W ⟨rfl, hW⟩
    rw [hW]
    clear hW
    (repeat (first | refine Run.adm rfl ?_ | refine Run.seq ?_ | (apply Run.opS rfl; (· (simp -implicitDefEqProofs [r7]; exact ⟨rfl, rfl⟩))) | (apply Run.condS; (· (simp -implicitDefEqProofs [r7]; exact rfl)))))
    refine Run.opC rfl (by simp) rfl (off_nob _ (hv k7)) ?_
    rintro v W ⟨rfl, hW⟩
    rw [hW]
    clear hW
    (repeat (first | refine Run.adm rfl ?_ | refine Run.seq ?_ | (apply Run.opS rfl; (· (simp -implicitDefEqProofs [r7]; exact ⟨rfl, rfl⟩))) | (apply Run.condS; (· (simp -implicitDefEqProofs [r7]; exact rfl)))))
    refine Run.opC rfl (by simp) rfl (crash_nob _ (hv k7) _) ?_
    rintro v W ⟨rfl, hW⟩
    rw [hW]
    clear hW
    (repeat (first | refine Run.adm rfl ?_ | refine Run.seq ?_ | (apply Run.opS rfl; (· (simp -implicitDefEqProofs [r7]; exact ⟨rfl, rfl⟩))) | (apply Run.condS; (· (simp -implicitDefEqProofs [r7]; exact rfl)))))
    refine Run.sl _ ?_ (ih (2, _) ⟨by simp only; omega, k7⟩ (by simp only; omega))
    simp [show IntKind.i64.wrap 2 = 2 from by decide]
  · (repeat (first | refine Run.adm rfl ?_ | refine Run.seq ?_ | (apply Run.opS rfl; (· (simp -implicitDefEqProofs; exact ⟨rfl, rfl⟩))) | (apply Run.condS; (· (simp -implicitDefEqProofs; exact rfl)))))
    refine Run.opC rfl rfl rfl (awake_at _) ?_
    rintro v H ⟨rfl, hH⟩
    (repeat (first | refine Run.adm rfl ?_ | refine Run.seq ?_ | (apply Run.opS rfl; (· (simp -implicitDefEqProofs; exact ⟨rfl, rfl⟩))) | (apply Run.condS; (· (simp -implicitDefEqProofs; exact rfl)))))
    exact hfin trivial (by simp)

end Go.Proofs.Ytoofeikddclclaa
