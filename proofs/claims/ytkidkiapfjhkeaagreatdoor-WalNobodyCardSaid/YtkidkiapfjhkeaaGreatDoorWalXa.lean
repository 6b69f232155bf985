/-
  Layer 06, part Xa: the names of a log's files, of any number; a disk that nobody made.
-/
import Derived.Test.YtkidkiapfjhkeaaGreatDoorPadA
namespace Go.Proofs.YtkidkiapfjhkeaaGreatDoor
open Sx Go Go.RowKit Go.Shelf
set_option maxRecDepth 100000
set_option linter.unusedSimpArgs false
set_option linter.unusedVariables false
set_option linter.unnecessarySimpa false
attribute [local simp] stepV condR boundsC appendG appendO copyV srcC guardB isCall opStep Opd.ev put readAt aBin aUn args0 V.celled V.ones V.one V.cells putAt bounds bound1 elemsOf srcOf appendV fillAt fillEl V.pures V.pure unwind evs ARes.ev mkRes V.ren V.renL O.ren eqCells eq1 aEq aMM hasTy hasTyN okTy mmGo Known HLe OLe VsLe.refl VLe.refl VLe.cap Stay VsLe V.frz V.frzL O.frz fr clearV rn KnownR Objs OLeO ObjsE nm back setAll ren_ite take_map_len List.take_of_length_le
attribute [local simp ↓] upd_app tl_cons tl_nil
attribute [local simp] encS_ren encS_ones encS_len encS_take KnownS VLe.refl

theorem gl_tab {c : Ctx} {w : World} {H : List O} (hh : HRel c w H) : Lib.TabIs Tryz.prog w "internal/strconv.uint64pow10" .u64 Lib.pow10Tab := by
  have h1 : c.ro 2 = some (Lib.pow10Tab.map fun z => Value.int .u64 z).toArray := hh.glob 2 _ rfl
  obtain ⟨elem, fr, h2⟩ := hh.ro _ _ h1
  have hg : Tryz.prog.globalNamed "internal/strconv.uint64pow10" = some 2 := by kernel_rfl
  unfold Lib.TabIs World.var?
  rw [hg]
  simp only [Option.bind_some, h2]
theorem grow_below (w : World) (k : Nat) (os : Array Obj) : Below w.heap.size w (Sort.grow (w.drewN k) os) := by
  refine ⟨rfl, rfl, rfl, ?_, fun i hi => ?_⟩
  · simp [Sort.grow, World.drewN]
  · simp only [Sort.grow, World.drewN]
    rw [Array.getElem?_append_left hi]
theorem itoaG_at (i : Nat) (hi : i ≤ 9223372036854775807) (H : List O) : Tri Tryz.prog 54 [.int .i64 i] H (fun v H' => v = .str (Lib.decDigits i) ∧ H' = H) := by
  refine ⟨⟨Tryz.f54, Tryz.func54, by kernel_rfl, by kernel_rfl⟩, fun c w cargs hh hv => ?_⟩
  have hsz : cargs.size = 1 := by rw [← hv.1]; rfl
  have ha := (hv.2 0 (by simp) (by omega)).int_inv
  rw [args1 hsz, ha]
  refine Calls.mono (Any.strconv_Itoa Tryz.itoa54 i (by omega) (by omega) w (gl_tab hh)) ?_
  rintro e w' ⟨rfl, k, os, rfl⟩
  obtain ⟨g1, g2⟩ := hh.below (grow_below w k os)
  rw [Lib.itoa_nonneg]
  exact ⟨_, H, c, _, ⟨rfl, rfl⟩, rfl, .str .., g1, g2⟩

/-- the name of a log's file, of any number -/
def logG (i : Nat) : Bs := [108, 111, 103, 45] ++ padK 8 i
theorem lnameG_tri (i : Nat) (hi : i < 100000000) : Tri Tryz.prog 29 [.int .i64 i] [] (fun v H => v = .str (logG i) ∧ H = []) := by
  obtain ⟨hd, hp⟩ := pad_dec 7 i (by simpa using hi)
  refine Tri.of_run' Tryz.func29 rfl c29_ok (by simp [Tryz.ntmps29]) ?_
  (repeat (first | refine Run.adm rfl ?_ | refine Run.seq ?_ | ((first | apply Run.opS rfl | apply Run.condS); (· (simp -implicitDefEqProofs; first | exact ⟨rfl, rfl⟩ | exact rfl)))))
  refine Run.opC rfl rfl rfl (itoaG_at i (by omega) _) ?_
  rintro v h' ⟨rfl, rfl⟩
  have hw := wrap_small (n := ((8 - (Lib.decDigits i).length : Nat) : Int)) (by omega) (by omega)
  have hn : 8 - ((Lib.decDigits i).length : Int) = ((8 - (Lib.decDigits i).length : Nat) : Int) := by omega
  have hr : (Lib.repeatL [48] (8 - (Lib.decDigits i).length)).length = 8 - (Lib.decDigits i).length := by rw [Lib.repeatL_length]; simp
  (repeat (first | refine Run.adm rfl ?_ | refine Run.seq ?_ | ((first | apply Run.opS rfl | apply Run.condS); (· (simp -implicitDefEqProofs [hw, hn]; first | exact ⟨rfl, rfl⟩ | exact rfl)))))
  refine Run.opC rfl rfl rfl (repeat_at [48] (8 - (Lib.decDigits i).length) (by simp only [List.length_cons, List.length_nil]; omega) (by omega) _) ?_
  rintro v h' ⟨rfl, rfl⟩
  have hln : logG i = [108, 111, 103, 45] ++ Lib.repeatL [48] (8 - (Lib.decDigits i).length) ++ Lib.decDigits i := by rw [List.append_assoc, hp]; rfl
  generalize Lib.repeatL [48] (8 - (Lib.decDigits i).length) = R at *
  generalize Lib.decDigits i = G at *
  have h3 : 4 + R.length ≤ 4611686018427387904 := by omega
  have h1 : R.length + 4 ≤ 4611686018427387904 := by omega
  have h4 : R.length + 4 + G.length ≤ 4611686018427387904 := by omega
  (repeat (first | refine Run.adm rfl ?_ | refine Run.seq ?_ | ((first | apply Run.opS rfl | apply Run.condS); (· (simp -implicitDefEqProofs [h1, h3, h4]; first | exact ⟨rfl, rfl⟩ | exact rfl)))))
  refine Run.retI Tryz.func29 r29_ok trivial (by simp -implicitDefEqProofs [r29]; rfl) (by simp ) ?_ (by simp -implicitDefEqProofs ) (by simp -implicitDefEqProofs )
  simp [hln]
theorem lnameG_at (i : Nat) (hi : i < 100000000) (H : List O) : Tri Tryz.prog 29 [.int .i64 i] H (fun v H' => v = .str (logG i) ∧ H' = H) := (lnameG_tri i hi).at rfl rfl H
theorem ok_dig : ∀ n, n < 256 → 48 ≤ n → n ≤ 57 → okB (UInt8.ofNat n) = true := by decide +kernel
theorem logG_ok (i : Nat) : (logG i).all okB = true := by
  rw [List.all_eq_true]
  intro b hb
  rcases List.mem_append.1 hb with hb | hb
  · simp only [List.mem_cons, List.not_mem_nil, or_false] at hb
    rcases hb with rfl | rfl | rfl | rfl <;> decide
  · obtain ⟨h1, h2⟩ := padK_dig 8 i b hb
    have := ok_dig b.toNat b.toNat_lt h1 h2
    rwa [UInt8.ofNat_toNat] at this
theorem logG_len (i : Nat) : (logG i).length = 12 := by simp [logG, padK_len]
theorem logG_may (i : Nat) : mayN (logG i) = true := mayN_of _ (logG_ok i) (fun e => by have := logG_len i; rw [e] at this; simp at this) (by rw [logG_len]; decide)

/-- no disk, or an empty one -/
def Nob (X : List O) (v : V) : Prop := v = .nilp ∨ ∃ d, v = .ptr d 0 ∧ X[d]? = some (.row [.nilm, .int .i64 0, .bool false])
theorem Nob.keep {X Y v} (h : Nob X v) (hk : Kept X Y []) : Nob Y v := by
  rcases h with h | ⟨d, h1, h2⟩
  · exact .inl h
  · exact .inr ⟨d, h1, hk.get h2 (by simp)⟩
theorem Nob.app {X v} (h : Nob X v) (L : List O) : Nob (X ++ L) v := h.keep ((Kept.refl X []).app L)

theorem may_nob (X : List O) {v : V} (hv : Nob X v) (x : V) : Tri Tryz.prog 38 [v, x] X (fun r H => r = .bool false ∧ H = X) := by
  rcases hv with rfl | ⟨d, rfl, hd⟩
  · refine Tri.of_run' Tryz.func38 rfl c38_ok (by simp [Tryz.ntmps38]) ?_
    (repeat (first | refine Run.adm rfl ?_ | refine Run.seq ?_ | ((first | apply Run.opS rfl | apply Run.condS); (· (simp -implicitDefEqProofs; first | exact ⟨rfl, rfl⟩ | exact rfl)))))
    refine Run.retS Tryz.func38 r38_ok trivial (by simp [r38]; rfl) ?_
    exact ⟨by simp, rfl⟩
  · refine Tri.of_run' Tryz.func38 rfl c38_ok (by simp [Tryz.ntmps38]) ?_
    (repeat (first | refine Run.adm rfl ?_ | refine Run.seq ?_ | ((first | apply Run.opS rfl | apply Run.condS); (· (simp -implicitDefEqProofs [hd]; first | exact ⟨rfl, rfl⟩ | exact rfl)))))
    refine Run.retS Tryz.func38 r38_ok trivial (by simp [r38]; rfl) ?_
    exact ⟨by simp, rfl⟩
theorem look_nob (X : List O) {v : V} (hv : Nob X v) (s : Bs) : Tri Tryz.prog 56 [v, .str s] X (fun r H => r = .tup [.nilp, .int .i64 1] ∧ Kept X H []) := by
  refine Tri.of_run' Tryz.func56 rfl c56_ok (by simp [Tryz.ntmps56]) ?_
  (repeat (first | refine Run.adm rfl ?_ | refine Run.seq ?_ | ((first | apply Run.opS rfl | apply Run.condS); (· (simp -implicitDefEqProofs; first | exact ⟨rfl, rfl⟩ | exact rfl)))))
  refine Run.opC rfl rfl rfl (may_nob _ (hv.app _) _) ?_
  rintro r H ⟨rfl, rfl⟩
  (repeat (first | refine Run.adm rfl ?_ | refine Run.seq ?_ | ((first | apply Run.opS rfl | apply Run.condS); (· (simp -implicitDefEqProofs; first | exact ⟨rfl, rfl⟩ | exact rfl)))))
  refine Run.retS Tryz.func56 r56_ok trivial (by simp [r56]; rfl) ?_
  exact ⟨by simp, (Kept.refl X []).app _⟩
theorem sure_nob (X : List O) {v : V} (hv : Nob X v) (s : Bs) : Tri Tryz.prog 51 [v, .str s] X (fun r H => r = .tup [.int .i64 0, .int .i64 1] ∧ Kept X H []) := by
  refine Tri.of_run' Tryz.func51 rfl c51_ok (by simp [Tryz.ntmps51]) ?_
  (repeat (first | refine Run.adm rfl ?_ | refine Run.seq ?_ | ((first | apply Run.opS rfl | apply Run.condS); (· (simp -implicitDefEqProofs; first | exact ⟨rfl, rfl⟩ | exact rfl)))))
  refine Run.opC rfl rfl rfl (look_nob _ hv s) ?_
  rintro r H ⟨rfl, hH⟩
  (repeat (first | refine Run.adm rfl ?_ | refine Run.seq ?_ | ((first | apply Run.opS rfl | apply Run.condS); (· (simp -implicitDefEqProofs; first | exact ⟨rfl, rfl⟩ | exact rfl)))))
  refine Run.retS Tryz.func51 r51_ok trivial (by simp [r51]; rfl) ?_
  exact ⟨by simp, hH⟩
theorem made_nob (X : List O) {v : V} (hv : Nob X v) : Tri Tryz.prog 25 [v] X (fun r H => r = .bool false ∧ Kept X H []) := by
  refine Tri.of_run' Tryz.func25 rfl c25_ok (by simp [Tryz.ntmps25]) ?_
  (repeat (first | refine Run.adm rfl ?_ | refine Run.seq ?_ | ((first | apply Run.opS rfl | apply Run.condS); (· (simp -implicitDefEqProofs; first | exact ⟨rfl, rfl⟩ | exact rfl)))))
  refine Run.opC rfl rfl rfl (sure_nob X hv [97]) ?_
  rintro r H ⟨rfl, hH⟩
  (repeat (first | refine Run.adm rfl ?_ | refine Run.seq ?_ | ((first | apply Run.opS rfl | apply Run.condS); (· (simp -implicitDefEqProofs; first | exact ⟨rfl, rfl⟩ | exact rfl)))))
  refine Run.retS Tryz.func25 r25_ok trivial (by simp [r25]; rfl) ?_
  exact ⟨by simp, hH⟩
theorem open_nob (X : List O) {v : V} (hv : Nob X v) (h1 : v.celled = true) (n : Int) : Tri Tryz.prog 9 [v, .int .i64 n] X (fun r H => r = .tup [.nilp, .int .i64 1] ∧ Kept X H []) := by
  rcases hv with rfl | ⟨d, rfl, hd⟩
  · refine Tri.of_run' Tryz.func9 rfl c9_ok (by simp [Tryz.ntmps9]) ?_
    (repeat (first | refine Run.adm rfl ?_ | refine Run.seq ?_ | ((first | apply Run.opS rfl | apply Run.condS); (· (simp -implicitDefEqProofs; first | exact ⟨rfl, rfl⟩ | exact rfl)))))
    refine Run.opC rfl rfl rfl (made_nob _ (.inl rfl)) ?_
    rintro r H ⟨rfl, hH⟩
    (repeat (first | refine Run.adm rfl ?_ | refine Run.seq ?_ | ((first | apply Run.opS rfl | apply Run.condS); (· (simp -implicitDefEqProofs; first | exact ⟨rfl, rfl⟩ | exact rfl)))))
    refine Run.retS Tryz.func9 r9_ok trivial (by simp [r9]; rfl) ?_
    exact ⟨by simp, ((Kept.refl X []).app _).trans hH⟩
  · refine Tri.of_run' Tryz.func9 rfl c9_ok (by simp [Tryz.ntmps9]) ?_
    (repeat (first | refine Run.adm rfl ?_ | refine Run.seq ?_ | ((first | apply Run.opS rfl | apply Run.condS); (· (simp -implicitDefEqProofs; first | exact ⟨rfl, rfl⟩ | exact rfl)))))
    refine Run.opC rfl rfl rfl (made_nob _ (.inr ⟨d, rfl, getA hd _⟩)) ?_
    rintro r H ⟨rfl, hH⟩
    (repeat (first | refine Run.adm rfl ?_ | refine Run.seq ?_ | ((first | apply Run.opS rfl | apply Run.condS); (· (simp -implicitDefEqProofs; first | exact ⟨rfl, rfl⟩ | exact rfl)))))
    refine Run.retS Tryz.func9 r9_ok trivial (by simp [r9]; rfl) ?_
    exact ⟨by simp, ((Kept.refl X []).app _).trans hH⟩

/-- no log, or an empty one -/
def NobL (X : List O) (v : V) : Prop := v = .nilp ∨ ∃ d, v = .ptr d 0 ∧ X[d]? = some (.row [.nilp, .nils, .int .i64 0])
theorem NobL.keep {X Y v} (h : NobL X v) (hk : Kept X Y []) : NobL Y v := by
  rcases h with h | ⟨d, h1, h2⟩
  · exact .inl h
  · exact .inr ⟨d, h1, hk.get h2 (by simp)⟩
theorem given_nob (X : List O) {v : V} (hv : NobL X v) : Tri Tryz.prog 34 [v] X (fun r H => r = .bool false ∧ H = X) := by
  rcases hv with rfl | ⟨d, rfl, hd⟩
  · refine Tri.of_run' Tryz.func34 rfl c34_ok (by simp [Tryz.ntmps34]) ?_
    (repeat (first | refine Run.adm rfl ?_ | refine Run.seq ?_ | ((first | apply Run.opS rfl | apply Run.condS); (· (simp -implicitDefEqProofs; first | exact ⟨rfl, rfl⟩ | exact rfl)))))
    refine Run.retS Tryz.func34 r34_ok trivial (by simp [r34]; rfl) ?_
    exact ⟨by simp, rfl⟩
  · refine Tri.of_run' Tryz.func34 rfl c34_ok (by simp [Tryz.ntmps34]) ?_
    (repeat (first | refine Run.adm rfl ?_ | refine Run.seq ?_ | ((first | apply Run.opS rfl | apply Run.condS); (· (simp -implicitDefEqProofs [hd]; first | exact ⟨rfl, rfl⟩ | exact rfl)))))
    refine Run.retS Tryz.func34 r34_ok trivial (by simp [r34]; rfl) ?_
    exact ⟨by simp, rfl⟩
theorem flush_nob (X : List O) {v : V} (hv : NobL X v) : Tri Tryz.prog 12 [v] X (fun r H => r = .int .i64 1 ∧ H = X) := by
  refine Tri.of_run' Tryz.func12 rfl c12_ok (by simp [Tryz.ntmps12]) ?_
  (repeat (first | refine Run.adm rfl ?_ | refine Run.seq ?_ | ((first | apply Run.opS rfl | apply Run.condS); (· (simp -implicitDefEqProofs; first | exact ⟨rfl, rfl⟩ | exact rfl)))))
  refine Run.opC rfl rfl rfl (given_nob X hv) ?_
  rintro r H ⟨rfl, rfl⟩
  (repeat (first | refine Run.adm rfl ?_ | refine Run.seq ?_ | ((first | apply Run.opS rfl | apply Run.condS); (· (simp -implicitDefEqProofs; first | exact ⟨rfl, rfl⟩ | exact rfl)))))
  refine Run.retS Tryz.func12 r12_ok trivial (by simp [r12]; rfl) ?_
  exact ⟨by simp, rfl⟩
theorem roll_nob (X : List O) {v : V} (hv : NobL X v) : Tri Tryz.prog 13 [v] X (fun r H => r = .tup [.int .i64 0, .int .i64 1] ∧ H = X) := by
  refine Tri.of_run' Tryz.func13 rfl c13_ok (by simp [Tryz.ntmps13]) ?_
  (repeat (first | refine Run.adm rfl ?_ | refine Run.seq ?_ | ((first | apply Run.opS rfl | apply Run.condS); (· (simp -implicitDefEqProofs; first | exact ⟨rfl, rfl⟩ | exact rfl)))))
  refine Run.opC rfl rfl rfl (flush_nob X hv) ?_
  rintro r H ⟨rfl, rfl⟩
  (repeat (first | refine Run.adm rfl ?_ | refine Run.seq ?_ | ((first | apply Run.opS rfl | apply Run.condS); (· (simp -implicitDefEqProofs; first | exact ⟨rfl, rfl⟩ | exact rfl)))))
  refine Run.retS Tryz.func13 r13_ok trivial (by simp [r13]; rfl) ?_
  exact ⟨by simp, rfl⟩
theorem add_nob (X : List O) {v : V} (hv : NobL X v) (s : Bs) : Tri Tryz.prog 11 [v, .str s] X (fun r H => r = .int .i64 1 ∧ H = X) := by
  refine Tri.of_run' Tryz.func11 rfl c11_ok (by simp [Tryz.ntmps11]) ?_
  (repeat (first | refine Run.adm rfl ?_ | refine Run.seq ?_ | ((first | apply Run.opS rfl | apply Run.condS); (· (simp -implicitDefEqProofs; first | exact ⟨rfl, rfl⟩ | exact rfl)))))
  refine Run.opC rfl rfl rfl (given_nob X hv) ?_
  rintro r H ⟨rfl, rfl⟩
  (repeat (first | refine Run.adm rfl ?_ | refine Run.seq ?_ | ((first | apply Run.opS rfl | apply Run.condS); (· (simp -implicitDefEqProofs; first | exact ⟨rfl, rfl⟩ | exact rfl)))))
  refine Run.retS Tryz.func11 r11_ok trivial (by simp [r11]; rfl) ?_
  exact ⟨by simp, rfl⟩
theorem all_nob (X : List O) {v : V} (hv : NobL X v) : Tri Tryz.prog 15 [v] X (fun r H => r = .nils ∧ H = X) := by
  refine Tri.of_run' Tryz.func15 rfl c15_ok (by simp [Tryz.ntmps15]) ?_
  (repeat (first | refine Run.adm rfl ?_ | refine Run.seq ?_ | ((first | apply Run.opS rfl | apply Run.condS); (· (simp -implicitDefEqProofs; first | exact ⟨rfl, rfl⟩ | exact rfl)))))
  refine Run.opC rfl rfl rfl (given_nob X hv) ?_
  rintro r H ⟨rfl, rfl⟩
  (repeat (first | refine Run.adm rfl ?_ | refine Run.seq ?_ | ((first | apply Run.opS rfl | apply Run.condS); (· (simp -implicitDefEqProofs; first | exact ⟨rfl, rfl⟩ | exact rfl)))))
  refine Run.retS Tryz.func15 r15_ok trivial (by simp [r15]; rfl) ?_
  exact ⟨by simp, rfl⟩
theorem last_nob (X : List O) {v : V} (hv : NobL X v) : Tri Tryz.prog 19 [v] X (fun r H => r = .int .i64 0 ∧ H = X) := by
  refine Tri.of_run' Tryz.func19 rfl c19_ok (by simp [Tryz.ntmps19]) ?_
  (repeat (first | refine Run.adm rfl ?_ | refine Run.seq ?_ | ((first | apply Run.opS rfl | apply Run.condS); (· (simp -implicitDefEqProofs; first | exact ⟨rfl, rfl⟩ | exact rfl)))))
  refine Run.opC rfl rfl rfl (given_nob X hv) ?_
  rintro r H ⟨rfl, rfl⟩
  (repeat (first | refine Run.adm rfl ?_ | refine Run.seq ?_ | ((first | apply Run.opS rfl | apply Run.condS); (· (simp -implicitDefEqProofs; first | exact ⟨rfl, rfl⟩ | exact rfl)))))
  refine Run.retS Tryz.func19 r19_ok trivial (by simp [r19]; rfl) ?_
  exact ⟨by simp, rfl⟩
theorem drop_nob (X : List O) {v : V} (hv : NobL X v) (n : Int) : Tri Tryz.prog 20 [v, .int .i64 n] X (fun r H => r = .int .i64 1 ∧ Kept X H []) := by
  rcases hv with rfl | ⟨d, rfl, hd⟩
  · refine Tri.of_run' Tryz.func20 rfl c20_ok (by simp [Tryz.ntmps20]) ?_
    (repeat (first | refine Run.adm rfl ?_ | refine Run.seq ?_ | ((first | apply Run.opS rfl | apply Run.condS); (· (simp -implicitDefEqProofs; first | exact ⟨rfl, rfl⟩ | exact rfl)))))
    refine Run.quiet prog_mixed (by kernel_rfl) ?_
    (repeat (first | refine execQ_E rfl ?_ | (apply execQ_S rfl; (· (simp -implicitDefEqProofs; exact ⟨rfl, rfl⟩)))))
    refine execQ_C rfl rfl rfl (given_nob _ (.inl rfl)) ?_
    (repeat (first | refine execQ_E rfl ?_ | (apply execQ_S rfl; (· (simp -implicitDefEqProofs; exact ⟨rfl, rfl⟩)))))
    (repeat (first | refine Run.adm rfl ?_ | refine Run.seq ?_ | ((first | apply Run.opS rfl | apply Run.condS); (· (simp -implicitDefEqProofs; first | exact ⟨rfl, rfl⟩ | exact rfl)))))
    refine Run.retS Tryz.func20 r20_ok trivial (by simp [r20]; rfl) ?_
    exact ⟨by simp, (Kept.refl X []).app _⟩
  · refine Tri.of_run' Tryz.func20 rfl c20_ok (by simp [Tryz.ntmps20]) ?_
    (repeat (first | refine Run.adm rfl ?_ | refine Run.seq ?_ | ((first | apply Run.opS rfl | apply Run.condS); (· (simp -implicitDefEqProofs; first | exact ⟨rfl, rfl⟩ | exact rfl)))))
    refine Run.quiet prog_mixed (by kernel_rfl) ?_
    (repeat (first | refine execQ_E rfl ?_ | (apply execQ_S rfl; (· (simp -implicitDefEqProofs; exact ⟨rfl, rfl⟩)))))
    refine execQ_C rfl rfl rfl (given_nob _ (.inr ⟨d, rfl, getA hd _⟩)) ?_
    (repeat (first | refine execQ_E rfl ?_ | (apply execQ_S rfl; (· (simp -implicitDefEqProofs; exact ⟨rfl, rfl⟩)))))
    (repeat (first | refine Run.adm rfl ?_ | refine Run.seq ?_ | ((first | apply Run.opS rfl | apply Run.condS); (· (simp -implicitDefEqProofs; first | exact ⟨rfl, rfl⟩ | exact rfl)))))
    refine Run.retS Tryz.func20 r20_ok trivial (by simp [r20]; rfl) ?_
    exact ⟨by simp, (Kept.refl X []).app _⟩

end Go.Proofs.YtkidkiapfjhkeaaGreatDoor
