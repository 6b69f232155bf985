/-
  Layer 05, part P: FsSurvives.
-/
import Derived.Test.YtoofeikddclclaaFsDec
namespace Go.Proofs.Ytoofeikddclclaa
open Sx Go
set_option maxRecDepth 100000
set_option linter.unusedSimpArgs false
set_option linter.unusedVariables false
set_option linter.unnecessarySimpa false
attribute [local simp] stepV condR boundsC appendG appendO copyV srcC guardB isCall opStep Opd.ev put readAt aBin aUn args0 V.celled V.ones V.one V.cells putAt bounds bound1 elemsOf srcOf appendV fillAt fillEl V.pures V.pure unwind evs ARes.ev mkRes V.ren V.renL O.ren eqCells eq1 aEq aMM hasTy hasTyN okTy mmGo Known HLe OLe VsLe.refl VLe.refl VLe.cap Stay VsLe V.frz V.frzL O.frz fr clearV rn KnownR Objs OLeO ObjsE nm back setAll ren_ite take_map_len List.take_of_length_le
attribute [local simp ↓] upd_app tl_cons tl_nil
attribute [local simp] encS_ren encS_ones encS_len encS_take KnownS VLe.refl

theorem may_b : mayN [98] = true := mayN_of _ (by decide) (by decide) (by decide)
theorem may_c : mayN [99] = true := mayN_of _ (by decide) (by decide) (by decide)
def nm3 : List Bs := [[97], [98], [99]]
def svD (a b c : Bs) (x y z : Nat) : Dk := ⟨[⟨[97], a, x⟩, ⟨[98], b, y⟩, ⟨[99], c, z⟩], -1, false⟩
def sv0 (i : Nat) : Dk := ⟨(nm3.take i).map (fun n => ⟨n, [], 0⟩), -1, false⟩

theorem sv0_make : ∀ {i : Nat} {x : Bs}, nm3[i]? = some x → makeD (sv0 i) x = (0, sv0 (i + 1)) := by
  intro i x h
  match i with
  | 0 => simp [nm3] at h; subst h; simp [makeD, sv0, nm3, doI, Dk.did, may_a, fileOf]
  | 1 => simp [nm3] at h; subst h; simp [makeD, sv0, nm3, doI, Dk.did, may_b, fileOf]
  | 2 => simp [nm3] at h; subst h; simp [makeD, sv0, nm3, doI, Dk.did, may_c, fileOf]
  | i + 3 => simp [nm3] at h
theorem Own.sub {X L L' d D Y} (h : Own X L d D Y) (hs : ∀ i ∈ L', i ∈ L) : Own X L' d D Y := by
  obtain ⟨F, h1, h2, h3, h4⟩ := h
  exact ⟨F, h1, h2, h3, fun i hi => h4 i (hs i hi)⟩

theorem sv_app0 {a b c t : Bs} {x y z : Nat} (h : ¬ 4194304 - a.length < t.length) : appendD (svD a b c x y z) [97] t = (0, svD (a ++ t) b c x y z) := by
  simp [appendD, svD, doI, Dk.did, may_a, fileOf, updF, h]
theorem sv_syn0 {a b c : Bs} {x y z : Nat} : syncD (svD a b c x y z) [97] = (0, svD a b c a.length y z) := by
  simp [syncD, svD, doI, Dk.did, may_a, fileOf, updF]
theorem sv_app1 {a b c t : Bs} {x y z : Nat} (h : ¬ 4194304 - b.length < t.length) : appendD (svD a b c x y z) [98] t = (0, svD a (b ++ t) c x y z) := by
  simp [appendD, svD, doI, Dk.did, may_b, fileOf, updF, h]
theorem sv_syn1 {a b c : Bs} {x y z : Nat} : syncD (svD a b c x y z) [98] = (0, svD a b c x b.length z) := by
  simp [syncD, svD, doI, Dk.did, may_b, fileOf, updF]
theorem sv_app2 {a b c t : Bs} {x y z : Nat} (h : ¬ 4194304 - c.length < t.length) : appendD (svD a b c x y z) [99] t = (0, svD a b (c ++ t) x y z) := by
  simp [appendD, svD, doI, Dk.did, may_c, fileOf, updF, h]
theorem sv_syn2 {a b c : Bs} {x y z : Nat} : syncD (svD a b c x y z) [99] = (0, svD a b c x y c.length) := by
  simp [syncD, svD, doI, Dk.did, may_c, fileOf, updF]
/-- what each file holds, and what is sure of it -/
structure S6 where
  a : Bs
  b : Bs
  c : Bs
  sa : Bs
  sb : Bs
  sc : Bs
def S6.dk (s : S6) : Dk := svD s.a s.b s.c s.sa.length s.sb.length s.sc.length
def S6.ok (s : S6) (n : Nat) : Prop := s.a.length ≤ n ∧ s.b.length ≤ n ∧ s.c.length ≤ n ∧ s.sa.length ≤ s.a.length ∧ s.sb.length ≤ s.b.length ∧ s.sc.length ≤ s.c.length

set_option maxHeartbeats 4000000 in
theorem survives_law (texts : List Bs) (syncs : Int) (keep : List Int) : Tri Try.prog 3 [.vs (texts.map encS) 1, .int .i64 syncs, .vs (keep.map encN) 1] [] (fun v H => v = .bool true ∧ H = []) := by
  refine Tri.of_run' Try.func3 rfl c3_ok (by simp [Try.ntmps3]) ?_
  have hfin : ∀ {k t h}, AtEnd k → t 6 = .bool true → Run ⟨Try.prog, 3, Try.f3.ntmps, [], fun v H => v = .bool true ∧ H = []⟩ ⟨k, t, h⟩ := by
    intro k t h hk h2
    refine Run.ret0 rfl Try.func3 r3_ok hk (by simp [r3]; rfl) ?_ (by simp [h2])
    exact ⟨by simp [h2], rfl⟩
  (repeat (first | refine Run.adm rfl ?_ | refine Run.seq ?_ | (apply Run.opS rfl; (· (simp -implicitDefEqProofs; exact ⟨rfl, rfl⟩))) | (apply Run.condS; (· (simp -implicitDefEqProofs; exact rfl)))))
  refine Run.opC rfl rfl rfl (new_own _) ?_
  rintro v Y ⟨d, rfl, h0⟩
  by_cases c1 : 30 < texts.length
  · have c1' : (30 : Int) < texts.length := by omega
    (repeat (first | refine Run.adm rfl ?_ | refine Run.seq ?_ | (apply Run.opS rfl; (· (simp -implicitDefEqProofs [c1, c1']; exact ⟨rfl, rfl⟩))) | (apply Run.condS; (· (simp -implicitDefEqProofs [c1, c1']; exact rfl)))))
    refine Run.opC rfl (by simp) rfl (awake_at _) ?_
    rintro v H ⟨rfl, hH⟩
    (repeat (first | refine Run.adm rfl ?_ | refine Run.seq ?_ | (apply Run.opS rfl; (· (simp -implicitDefEqProofs; exact ⟨rfl, rfl⟩))) | (apply Run.condS; (· (simp -implicitDefEqProofs; exact rfl)))))
    exact hfin trivial (by simp)
  have c1' : ¬ (30 : Int) < texts.length := by omega
  by_cases c2 : 10 < keep.length
  · have c2' : (10 : Int) < keep.length := by omega
    (repeat (first | refine Run.adm rfl ?_ | refine Run.seq ?_ | (apply Run.opS rfl; (· (simp -implicitDefEqProofs [c1, c1', c2, c2']; exact ⟨rfl, rfl⟩))) | (apply Run.condS; (· (simp -implicitDefEqProofs [c1, c1', c2, c2']; exact rfl)))))
    refine Run.opC rfl (by simp) rfl (awake_at _) ?_
    rintro v H ⟨rfl, hH⟩
    (repeat (first | refine Run.adm rfl ?_ | refine Run.seq ?_ | (apply Run.opS rfl; (· (simp -implicitDefEqProofs; exact ⟨rfl, rfl⟩))) | (apply Run.condS; (· (simp -implicitDefEqProofs; exact rfl)))))
    exact hfin trivial (by simp)
  have c2' : ¬ (10 : Int) < keep.length := by omega
  (repeat (first | refine Run.adm rfl ?_ | refine Run.seq ?_ | (apply Run.opS rfl; (· (simp -implicitDefEqProofs [c1, c1', c2, c2']; exact ⟨rfl, rfl⟩))) | (apply Run.condS; (· (simp -implicitDefEqProofs [c1, c1', c2, c2']; exact rfl)))))
  have hnb : (nm3.map encS).length = 3 := rfl
  refine Run.frzS Y.length (es := nm3.map encS) (sz := 1) (by simp [nm3, encS]) ?_
  refine run_to [(0, .vs (texts.map encS) 1), (1, .int .i64 syncs), (2, .vs (keep.map encN) 1), (7, .ptr d 0), (8, .vs (nm3.map encS) 1), (9, .ptr (Y.length + 1) 0), (10, .ptr (Y.length + 2) 0), (11, .int .i64 (0 : Nat))]
    (fun Z => Own [] [Y.length + 1, Y.length + 2] d (sv0 0) Z ∧ Z[Y.length + 1]? = some (.row [.str [], .str [], .str []]) ∧ Z[Y.length + 2]? = some (.row [.str [], .str [], .str []])) (by simp [nm3]) ?_ ?_
  · have hm := ((Own.more h0 [.arr (nm3.map encS) 1, .row [.str [], .str [], .str []], .row [.str [], .str [], .str []]] [Y.length, Y.length + 1, Y.length + 2] (by intro i hi; simp at hi; simp; omega)).put (i := Y.length) (by simp) .gone).sub (L' := [Y.length + 1, Y.length + 2]) (by intro i hi; simp at hi; simp; omega)
    refine ⟨by simpa [nm3, encS, sv0] using hm, ?_, ?_⟩
    · rw [setN (by omega)]; simp
    · rw [setN (by omega)]; simp
  rintro Z0 ⟨hZ0, hs0, ha0⟩
  have he : Y.length + 1 ≠ Y.length + 2 := by omega
  generalize Y.length + 1 = e1 at *
  generalize Y.length + 2 = e2 at *
  refine Run.loopS (fun (x : Nat × List O) => ([(0, .vs (texts.map encS) 1), (1, .int .i64 syncs), (2, .vs (keep.map encN) 1), (7, .ptr d 0), (8, .vs (nm3.map encS) 1), (9, .ptr e1 0), (10, .ptr e2 0), (11, .int .i64 x.1)], x.2))
    (fun x => x.1 ≤ 3 ∧ Own [] [e1, e2] d (sv0 x.1) x.2 ∧ x.2[e1]? = some (.row [.str [], .str [], .str []]) ∧ x.2[e2]? = some (.row [.str [], .str [], .str []])) (fun x => 3 - x.1) ?_ (0, Z0) ⟨by omega, hZ0, hs0, ha0⟩
  rintro ⟨i, Z⟩ ⟨hi, hZ, hs, ha⟩ ih
  simp only at *
  by_cases hlt : i < 3
  · obtain ⟨x, hx, hxi, -, -⟩ := getL (l := nm3) (i := i) (by simp [nm3]; omega)
    have hlt' : (i : Int) < 3 := by omega
    have hw := wrap_small (n := (i : Int) + 1) (by omega) (by omega)
    (repeat (first | refine Run.adm rfl ?_ | refine Run.seq ?_ | (apply Run.opS rfl; (· (simp -implicitDefEqProofs [hlt, hlt', hx, encS]; exact ⟨rfl, rfl⟩))) | (apply Run.condS; (· (simp -implicitDefEqProofs [hlt, hlt', hx, encS]; exact rfl)))))
    refine Run.opC rfl rfl rfl (make_own hZ x) ?_
    rintro v Z1 ⟨rfl, hZ1, hst⟩
    rw [sv0_make hx] at hZ1 ⊢
    (repeat (first | refine Run.adm rfl ?_ | refine Run.seq ?_ | (apply Run.opS rfl; (· (simp -implicitDefEqProofs; exact ⟨rfl, rfl⟩))) | (apply Run.condS; (· (simp -implicitDefEqProofs; exact rfl)))))
    refine Run.sl _ ?_ (ih (i + 1, Z1) ⟨by simp only; omega, hZ1, by rw [hst e1 (by simp)]; exact hs, by rw [hst e2 (by simp)]; exact ha⟩ (by simp only; omega))
    simp [hw]
  have : i = 3 := by omega
  subst this
  have hsv : sv0 3 = svD [] [] [] 0 0 0 := rfl
  rw [hsv] at hZ
  clear ih
  (repeat (first | refine Run.adm rfl ?_ | refine Run.seq ?_ | (apply Run.opS rfl; (· (simp -implicitDefEqProofs; exact ⟨rfl, rfl⟩))) | (apply Run.condS; (· (simp -implicitDefEqProofs; exact rfl)))))
  refine Run.sl [(0, .vs (texts.map encS) 1), (1, .int .i64 syncs), (2, .vs (keep.map encN) 1), (7, .ptr d 0), (8, .vs (nm3.map encS) 1), (9, .ptr e1 0), (10, .ptr e2 0), (12, .int .i64 (0 : Nat))] (by simp) ?_
  refine Run.loopS (fun (x : Nat × S6 × List O) => ([(0, .vs (texts.map encS) 1), (1, .int .i64 syncs), (2, .vs (keep.map encN) 1), (7, .ptr d 0), (8, .vs (nm3.map encS) 1), (9, .ptr e1 0), (10, .ptr e2 0), (12, .int .i64 x.1)], x.2.2))
    (fun x => x.1 ≤ texts.length ∧ x.2.1.ok (40 * x.1) ∧ Own [] [e1, e2] d x.2.1.dk x.2.2 ∧ x.2.2[e1]? = some (.row [.str x.2.1.sa, .str x.2.1.sb, .str x.2.1.sc]) ∧ x.2.2[e2]? = some (.row [.str x.2.1.a, .str x.2.1.b, .str x.2.1.c])) (fun x => texts.length - x.1) ?_ (0, ⟨[], [], [], [], [], []⟩, Z) ⟨Nat.zero_le _, ⟨Nat.zero_le _, Nat.zero_le _, Nat.zero_le _, Nat.zero_le _, Nat.zero_le _, Nat.zero_le _⟩, hZ, hs, ha⟩
  rintro ⟨i, ⟨a, b, c, sa, sb, sc⟩, Z⟩ ⟨hi, hok, hZ, hs, ha⟩ ih
  simp only [S6.ok, S6.dk] at hi hok hZ hs ha ih
  obtain ⟨o1, o2, o3, o4, o5, o6⟩ := hok
  simp only
  by_cases hlt : i < texts.length
  · obtain ⟨x, hx, hxi, -, -⟩ := getL hlt
    have hlt' : (i : Int) < texts.length := by omega
    have hw := wrap_small (n := (i : Int) + 1) (by omega) (by omega)
    have hr0 : (i : Int).tmod 3 = ((i % 3 : Nat) : Int) := rfl
    have hr1 : (i : Int) % 3 = ((i % 3 : Nat) : Int) := by simp
    have hr2 : i % 3 < 3 := Nat.mod_lt _ (by omega)
    by_cases hbig : 40 < x.length
    · have hbig' : (40 : Int) < x.length := by omega
      (repeat (first | refine Run.adm rfl ?_ | refine Run.seq ?_ | (apply Run.opS rfl; (· (simp -implicitDefEqProofs [hlt, hlt', hx, hxi, encS, hbig, hbig']; exact ⟨rfl, rfl⟩))) | (apply Run.condS; (· (simp -implicitDefEqProofs [hlt, hlt', hx, hxi, encS, hbig, hbig']; exact rfl)))))
      refine Run.opC rfl rfl rfl (awake_at _) ?_
      rintro v H ⟨rfl, hH⟩
      (repeat (first | refine Run.adm rfl ?_ | refine Run.seq ?_ | (apply Run.opS rfl; (· (simp -implicitDefEqProofs; exact ⟨rfl, rfl⟩))) | (apply Run.condS; (· (simp -implicitDefEqProofs; exact rfl)))))
      exact hfin trivial (by simp)
    have hbig' : ¬ (40 : Int) < x.length := by omega
    rcases (by omega : i % 3 = 0 ∨ i % 3 = 1 ∨ i % 3 = 2) with hr | hr | hr
    · rw [hr] at hr0 hr1
      (repeat (first | refine Run.adm rfl ?_ | refine Run.seq ?_ | (apply Run.opS rfl; (· (simp -implicitDefEqProofs [hlt, hlt', hx, hxi, encS, hbig, hbig', hr0, hr1]; exact ⟨rfl, rfl⟩))) | (apply Run.condS; (· (simp -implicitDefEqProofs [hlt, hlt', hx, hxi, encS, hbig, hbig', hr0, hr1]; exact rfl)))))
      refine Run.qchain prog_mixed 9 (by kernel_rfl) ?_
      (repeat (first | refine execQ_E rfl ?_ | (apply execQ_S rfl; (· (simp -implicitDefEqProofs [hlt, hlt', hx, hxi, encS, nm3]; exact ⟨rfl, rfl⟩)))))
      have e3 : appendD (svD a b c sa.length sb.length sc.length) [97] x = (0, svD (a ++ x) b c sa.length sb.length sc.length) := by
        exact sv_app0 (by omega)
      have hap := append_own hZ [97] x (by omega)
      rw [e3] at hap
      refine SeqR.C rfl rfl rfl hap ?_
      rintro v Z1 ⟨rfl, hZ1, hst⟩
      have hs1 := (hst e1 (by simp)).trans hs
      have ha1 := (hst e2 (by simp)).trans ha
      clear hst
      (repeat (first | refine SeqR.E rfl ?_ | (apply SeqR.o0 rfl; (· (simp -implicitDefEqProofs; exact ⟨rfl, rfl⟩))) | (apply SeqR.A rfl; (· (simp -implicitDefEqProofs; done)); (· (simp -implicitDefEqProofs; exact ⟨rfl, rfl⟩))) | (apply SeqR.N rfl; (· (simp -implicitDefEqProofs; done)))))
      (repeat (first | refine Run.adm rfl ?_ | refine Run.seq ?_ | (apply Run.opS rfl; (· (simp -implicitDefEqProofs; exact ⟨rfl, rfl⟩))) | (apply Run.condS; (· (simp -implicitDefEqProofs; exact rfl)))))
      have hsum : a.length + x.length ≤ 4611686018427387904 := by omega
      refine Run.qchain prog_mixed 10 (by kernel_rfl) ?_
      (repeat (first | refine execQ_E rfl ?_ | (apply execQ_S rfl; (· (simp -implicitDefEqProofs [hlt, hlt', hx, hxi, encS, ha1, hsum]; exact ⟨rfl, rfl⟩)))))
      (repeat (first | refine SeqR.E rfl ?_ | (apply SeqR.o0 rfl; (· (simp -implicitDefEqProofs [ha1]; exact ⟨rfl, rfl⟩))) | (apply SeqR.A rfl; (· (simp -implicitDefEqProofs [ha1]; done)); (· (simp -implicitDefEqProofs [ha1]; exact ⟨rfl, rfl⟩))) | (apply SeqR.N rfl; (· (simp -implicitDefEqProofs [ha1]; done)))))
      refine run_to [(0, .vs (texts.map encS) 1), (1, .int .i64 syncs), (2, .vs (keep.map encN) 1), (7, .ptr d 0), (8, .vs (nm3.map encS) 1), (9, .ptr e1 0), (10, .ptr e2 0), (12, .int .i64 i), (13, .int .i64 0)]
        (fun Z => Own [] [e1, e2] d (svD (a ++ x) b c sa.length sb.length sc.length) Z ∧ Z[e1]? = some (.row [.str sa, .str sb, .str sc]) ∧ Z[e2]? = some (.row [.str (a ++ x), .str b, .str c])) (by simp) ⟨hZ1.put (by simp) _, by rw [setN (Ne.symm he)]; exact hs1, setG ha1 _⟩ ?_
      rintro Z2 ⟨hZ2, hs2, ha2⟩
      by_cases hb : iAnd .i64 (iShr .i64 syncs i) 1 = 1
      · (repeat (first | refine Run.adm rfl ?_ | refine Run.seq ?_ | (apply Run.opS rfl; (· (simp -implicitDefEqProofs [hb, nm3, encS]; exact ⟨rfl, rfl⟩))) | (apply Run.condS; (· (simp -implicitDefEqProofs [hb, nm3, encS]; exact rfl)))))
        refine Run.opC rfl rfl rfl (sync_own hZ2 [97]) ?_
        have e4 : syncD (svD (a ++ x) b c sa.length sb.length sc.length) [97] = (0, svD (a ++ x) b c (a ++ x).length sb.length sc.length) := by exact sv_syn0
        rw [e4]
        rintro v Z3 ⟨rfl, hZ3, hst⟩
        have hs3 := (hst e1 (by simp)).trans hs2
        have ha3 := (hst e2 (by simp)).trans ha2
        clear hst
        (repeat (first | refine Run.adm rfl ?_ | refine Run.seq ?_ | (apply Run.opS rfl; (· (simp -implicitDefEqProofs [hs3, ha3]; exact ⟨rfl, rfl⟩))) | (apply Run.condS; (· (simp -implicitDefEqProofs [hs3, ha3]; exact rfl)))))
        refine Run.sl _ ?_ (ih (i + 1, ⟨a ++ x, b, c, a ++ x, sb, sc⟩, Z3.set e1 (.row [.str (a ++ x), .str sb, .str sc])) ⟨by omega, by simp only [List.length_append]; omega, hZ3.put (by simp) _, setG hs3 _, by rw [setN he]; exact ha3⟩ (by simp only; omega))
        simp [hw]
      · (repeat (first | refine Run.adm rfl ?_ | refine Run.seq ?_ | (apply Run.opS rfl; (· (simp -implicitDefEqProofs [hb]; exact ⟨rfl, rfl⟩))) | (apply Run.condS; (· (simp -implicitDefEqProofs [hb]; exact rfl)))))
        refine Run.sl _ ?_ (ih (i + 1, ⟨a ++ x, b, c, sa, sb, sc⟩, Z2) ⟨by omega, by simp only [List.length_append]; omega, hZ2, hs2, ha2⟩ (by simp only; omega))
        simp [hw]
    · rw [hr] at hr0 hr1
      (repeat (first | refine Run.adm rfl ?_ | refine Run.seq ?_ | (apply Run.opS rfl; (· (simp -implicitDefEqProofs [hlt, hlt', hx, hxi, encS, hbig, hbig', hr0, hr1]; exact ⟨rfl, rfl⟩))) | (apply Run.condS; (· (simp -implicitDefEqProofs [hlt, hlt', hx, hxi, encS, hbig, hbig', hr0, hr1]; exact rfl)))))
      refine Run.qchain prog_mixed 9 (by kernel_rfl) ?_
      (repeat (first | refine execQ_E rfl ?_ | (apply execQ_S rfl; (· (simp -implicitDefEqProofs [hlt, hlt', hx, hxi, encS, nm3]; exact ⟨rfl, rfl⟩)))))
      have e3 : appendD (svD a b c sa.length sb.length sc.length) [98] x = (0, svD a (b ++ x) c sa.length sb.length sc.length) := by
        exact sv_app1 (by omega)
      have hap := append_own hZ [98] x (by omega)
      rw [e3] at hap
      refine SeqR.C rfl rfl rfl hap ?_
      rintro v Z1 ⟨rfl, hZ1, hst⟩
      have hs1 := (hst e1 (by simp)).trans hs
      have ha1 := (hst e2 (by simp)).trans ha
      clear hst
      (repeat (first | refine SeqR.E rfl ?_ | (apply SeqR.o0 rfl; (· (simp -implicitDefEqProofs; exact ⟨rfl, rfl⟩))) | (apply SeqR.A rfl; (· (simp -implicitDefEqProofs; done)); (· (simp -implicitDefEqProofs; exact ⟨rfl, rfl⟩))) | (apply SeqR.N rfl; (· (simp -implicitDefEqProofs; done)))))
      (repeat (first | refine Run.adm rfl ?_ | refine Run.seq ?_ | (apply Run.opS rfl; (· (simp -implicitDefEqProofs; exact ⟨rfl, rfl⟩))) | (apply Run.condS; (· (simp -implicitDefEqProofs; exact rfl)))))
      have hsum : b.length + x.length ≤ 4611686018427387904 := by omega
      refine Run.qchain prog_mixed 10 (by kernel_rfl) ?_
      (repeat (first | refine execQ_E rfl ?_ | (apply execQ_S rfl; (· (simp -implicitDefEqProofs [hlt, hlt', hx, hxi, encS, ha1, hsum]; exact ⟨rfl, rfl⟩)))))
      (repeat (first | refine SeqR.E rfl ?_ | (apply SeqR.o0 rfl; (· (simp -implicitDefEqProofs [ha1]; exact ⟨rfl, rfl⟩))) | (apply SeqR.A rfl; (· (simp -implicitDefEqProofs [ha1]; done)); (· (simp -implicitDefEqProofs [ha1]; exact ⟨rfl, rfl⟩))) | (apply SeqR.N rfl; (· (simp -implicitDefEqProofs [ha1]; done)))))
      refine run_to [(0, .vs (texts.map encS) 1), (1, .int .i64 syncs), (2, .vs (keep.map encN) 1), (7, .ptr d 0), (8, .vs (nm3.map encS) 1), (9, .ptr e1 0), (10, .ptr e2 0), (12, .int .i64 i), (13, .int .i64 1)]
        (fun Z => Own [] [e1, e2] d (svD a (b ++ x) c sa.length sb.length sc.length) Z ∧ Z[e1]? = some (.row [.str sa, .str sb, .str sc]) ∧ Z[e2]? = some (.row [.str a, .str (b ++ x), .str c])) (by simp) ⟨hZ1.put (by simp) _, by rw [setN (Ne.symm he)]; exact hs1, setG ha1 _⟩ ?_
      rintro Z2 ⟨hZ2, hs2, ha2⟩
      by_cases hb : iAnd .i64 (iShr .i64 syncs i) 1 = 1
      · (repeat (first | refine Run.adm rfl ?_ | refine Run.seq ?_ | (apply Run.opS rfl; (· (simp -implicitDefEqProofs [hb, nm3, encS]; exact ⟨rfl, rfl⟩))) | (apply Run.condS; (· (simp -implicitDefEqProofs [hb, nm3, encS]; exact rfl)))))
        refine Run.opC rfl rfl rfl (sync_own hZ2 [98]) ?_
        have e4 : syncD (svD a (b ++ x) c sa.length sb.length sc.length) [98] = (0, svD a (b ++ x) c sa.length (b ++ x).length sc.length) := by exact sv_syn1
        rw [e4]
        rintro v Z3 ⟨rfl, hZ3, hst⟩
        have hs3 := (hst e1 (by simp)).trans hs2
        have ha3 := (hst e2 (by simp)).trans ha2
        clear hst
        (repeat (first | refine Run.adm rfl ?_ | refine Run.seq ?_ | (apply Run.opS rfl; (· (simp -implicitDefEqProofs [hs3, ha3]; exact ⟨rfl, rfl⟩))) | (apply Run.condS; (· (simp -implicitDefEqProofs [hs3, ha3]; exact rfl)))))
        refine Run.sl _ ?_ (ih (i + 1, ⟨a, b ++ x, c, sa, b ++ x, sc⟩, Z3.set e1 (.row [.str sa, .str (b ++ x), .str sc])) ⟨by omega, by simp only [List.length_append]; omega, hZ3.put (by simp) _, setG hs3 _, by rw [setN he]; exact ha3⟩ (by simp only; omega))
        simp [hw]
      · (repeat (first | refine Run.adm rfl ?_ | refine Run.seq ?_ | (apply Run.opS rfl; (· (simp -implicitDefEqProofs [hb]; exact ⟨rfl, rfl⟩))) | (apply Run.condS; (· (simp -implicitDefEqProofs [hb]; exact rfl)))))
        refine Run.sl _ ?_ (ih (i + 1, ⟨a, b ++ x, c, sa, sb, sc⟩, Z2) ⟨by omega, by simp only [List.length_append]; omega, hZ2, hs2, ha2⟩ (by simp only; omega))
        simp [hw]
    · rw [hr] at hr0 hr1
      (repeat (first | refine Run.adm rfl ?_ | refine Run.seq ?_ | (apply Run.opS rfl; (· (simp -implicitDefEqProofs [hlt, hlt', hx, hxi, encS, hbig, hbig', hr0, hr1]; exact ⟨rfl, rfl⟩))) | (apply Run.condS; (· (simp -implicitDefEqProofs [hlt, hlt', hx, hxi, encS, hbig, hbig', hr0, hr1]; exact rfl)))))
      refine Run.qchain prog_mixed 9 (by kernel_rfl) ?_
      (repeat (first | refine execQ_E rfl ?_ | (apply execQ_S rfl; (· (simp -implicitDefEqProofs [hlt, hlt', hx, hxi, encS, nm3]; exact ⟨rfl, rfl⟩)))))
      have e3 : appendD (svD a b c sa.length sb.length sc.length) [99] x = (0, svD a b (c ++ x) sa.length sb.length sc.length) := by
        exact sv_app2 (by omega)
      have hap := append_own hZ [99] x (by omega)
      rw [e3] at hap
      refine SeqR.C rfl rfl rfl hap ?_
      rintro v Z1 ⟨rfl, hZ1, hst⟩
      have hs1 := (hst e1 (by simp)).trans hs
      have ha1 := (hst e2 (by simp)).trans ha
      clear hst
      (repeat (first | refine SeqR.E rfl ?_ | (apply SeqR.o0 rfl; (· (simp -implicitDefEqProofs; exact ⟨rfl, rfl⟩))) | (apply SeqR.A rfl; (· (simp -implicitDefEqProofs; done)); (· (simp -implicitDefEqProofs; exact ⟨rfl, rfl⟩))) | (apply SeqR.N rfl; (· (simp -implicitDefEqProofs; done)))))
      (repeat (first | refine Run.adm rfl ?_ | refine Run.seq ?_ | (apply Run.opS rfl; (· (simp -implicitDefEqProofs; exact ⟨rfl, rfl⟩))) | (apply Run.condS; (· (simp -implicitDefEqProofs; exact rfl)))))
      have hsum : c.length + x.length ≤ 4611686018427387904 := by omega
      refine Run.qchain prog_mixed 10 (by kernel_rfl) ?_
      (repeat (first | refine execQ_E rfl ?_ | (apply execQ_S rfl; (· (simp -implicitDefEqProofs [hlt, hlt', hx, hxi, encS, ha1, hsum]; exact ⟨rfl, rfl⟩)))))
      (repeat (first | refine SeqR.E rfl ?_ | (apply SeqR.o0 rfl; (· (simp -implicitDefEqProofs [ha1]; exact ⟨rfl, rfl⟩))) | (apply SeqR.A rfl; (· (simp -implicitDefEqProofs [ha1]; done)); (· (simp -implicitDefEqProofs [ha1]; exact ⟨rfl, rfl⟩))) | (apply SeqR.N rfl; (· (simp -implicitDefEqProofs [ha1]; done)))))
      refine run_to [(0, .vs (texts.map encS) 1), (1, .int .i64 syncs), (2, .vs (keep.map encN) 1), (7, .ptr d 0), (8, .vs (nm3.map encS) 1), (9, .ptr e1 0), (10, .ptr e2 0), (12, .int .i64 i), (13, .int .i64 2)]
        (fun Z => Own [] [e1, e2] d (svD a b (c ++ x) sa.length sb.length sc.length) Z ∧ Z[e1]? = some (.row [.str sa, .str sb, .str sc]) ∧ Z[e2]? = some (.row [.str a, .str b, .str (c ++ x)])) (by simp) ⟨hZ1.put (by simp) _, by rw [setN (Ne.symm he)]; exact hs1, setG ha1 _⟩ ?_
      rintro Z2 ⟨hZ2, hs2, ha2⟩
      by_cases hb : iAnd .i64 (iShr .i64 syncs i) 1 = 1
      · (repeat (first | refine Run.adm rfl ?_ | refine Run.seq ?_ | (apply Run.opS rfl; (· (simp -implicitDefEqProofs [hb, nm3, encS]; exact ⟨rfl, rfl⟩))) | (apply Run.condS; (· (simp -implicitDefEqProofs [hb, nm3, encS]; exact rfl)))))
        refine Run.opC rfl rfl rfl (sync_own hZ2 [99]) ?_
        have e4 : syncD (svD a b (c ++ x) sa.length sb.length sc.length) [99] = (0, svD a b (c ++ x) sa.length sb.length (c ++ x).length) := by exact sv_syn2
        rw [e4]
        rintro v Z3 ⟨rfl, hZ3, hst⟩
        have hs3 := (hst e1 (by simp)).trans hs2
        have ha3 := (hst e2 (by simp)).trans ha2
        clear hst
        (repeat (first | refine Run.adm rfl ?_ | refine Run.seq ?_ | (apply Run.opS rfl; (· (simp -implicitDefEqProofs [hs3, ha3]; exact ⟨rfl, rfl⟩))) | (apply Run.condS; (· (simp -implicitDefEqProofs [hs3, ha3]; exact rfl)))))
        refine Run.sl _ ?_ (ih (i + 1, ⟨a, b, c ++ x, sa, sb, c ++ x⟩, Z3.set e1 (.row [.str sa, .str sb, .str (c ++ x)])) ⟨by omega, by simp only [List.length_append]; omega, hZ3.put (by simp) _, setG hs3 _, by rw [setN he]; exact ha3⟩ (by simp only; omega))
        simp [hw]
      · (repeat (first | refine Run.adm rfl ?_ | refine Run.seq ?_ | (apply Run.opS rfl; (· (simp -implicitDefEqProofs [hb]; exact ⟨rfl, rfl⟩))) | (apply Run.condS; (· (simp -implicitDefEqProofs [hb]; exact rfl)))))
        refine Run.sl _ ?_ (ih (i + 1, ⟨a, b, c ++ x, sa, sb, sc⟩, Z2) ⟨by omega, by simp only [List.length_append]; omega, hZ2, hs2, ha2⟩ (by simp only; omega))
        simp [hw]
  have : i = texts.length := by omega
  subst this
  clear ih
  (repeat (first | refine Run.adm rfl ?_ | refine Run.seq ?_ | (apply Run.opS rfl; (· (simp -implicitDefEqProofs; exact ⟨rfl, rfl⟩))) | (apply Run.condS; (· (simp -implicitDefEqProofs; exact rfl)))))
  refine Run.opC rfl rfl rfl (crash_own hZ (by intro f hf; simp [svD] at hf; rcases hf with rfl | rfl | rfl <;> simp) keep (by omega)) ?_
  rintro v Z1 ⟨rfl, nf, -, hZ1, hst⟩
  have hs1 := (hst e1 (by simp)).trans hs
  have ha1 := (hst e2 (by simp)).trans ha
  clear hst hs ha hZ
  obtain ⟨q0, hq0⟩ : ∃ q0, q0 = cutLen (nf [97]) ⟨[97], a, sa.length⟩ := ⟨_, rfl⟩
  obtain ⟨q1, hq1⟩ : ∃ q1, q1 = cutLen (nf [98]) ⟨[98], b, sb.length⟩ := ⟨_, rfl⟩
  obtain ⟨q2, hq2⟩ : ∃ q2, q2 = cutLen (nf [99]) ⟨[99], c, sc.length⟩ := ⟨_, rfl⟩
  have hcut : ((svD a b c sa.length sb.length sc.length).files.map fun f => cutF (nf f.name) f) = [⟨[97], a.take q0, q0⟩, ⟨[98], b.take q1, q1⟩, ⟨[99], c.take q2, q2⟩] := by
    rw [hq0, hq1, hq2]; rfl
  rw [hcut] at hZ1
  have g0 : sa.length ≤ q0 ∧ q0 ≤ a.length := by rw [hq0]; simp only [cutLen]; omega
  have g1 : sb.length ≤ q1 ∧ q1 ≤ b.length := by rw [hq1]; simp only [cutLen]; omega
  have g2 : sc.length ≤ q2 ∧ q2 ≤ c.length := by rw [hq2]; simp only [cutLen]; omega
  clear hcut hq0 hq1 hq2
  obtain ⟨D, hD⟩ : ∃ D : Dk, D = ⟨[⟨[97], a.take q0, q0⟩, ⟨[98], b.take q1, q1⟩, ⟨[99], c.take q2, q2⟩], -1, false⟩ := ⟨_, rfl⟩
  rw [← hD] at hZ1
  (repeat (first | refine Run.adm rfl ?_ | refine Run.seq ?_ | (apply Run.opS rfl; (· (simp -implicitDefEqProofs; exact ⟨rfl, rfl⟩))) | (apply Run.condS; (· (simp -implicitDefEqProofs; exact rfl)))))
  refine Run.sl [(7, .ptr d 0), (8, .vs (nm3.map encS) 1), (9, .ptr e1 0), (10, .ptr e2 0), (14, .int .i64 (0 : Nat))] (by simp) ?_
  refine Run.loopS (fun (x : Nat × List O) => ([(7, .ptr d 0), (8, .vs (nm3.map encS) 1), (9, .ptr e1 0), (10, .ptr e2 0), (14, .int .i64 x.1)], x.2))
    (fun x => x.1 ≤ 3 ∧ Own [] [e1, e2] d D x.2 ∧ x.2[e1]? = some (.row [.str sa, .str sb, .str sc]) ∧ x.2[e2]? = some (.row [.str a, .str b, .str c])) (fun x => 3 - x.1) ?_ (0, Z1) ⟨by omega, hZ1, hs1, ha1⟩
  clear hZ1 hs1 ha1
  rintro ⟨i, Z⟩ ⟨hi, hZ, hs, ha⟩ ih
  simp only at *
  by_cases hlt : i < 3
  · obtain ⟨x, S, A, q, hx, hsx, hax, hg, hrd, hsu⟩ : ∃ (x S A : Bs) (q : Nat), nm3[i]? = some x ∧ ([sa, sb, sc] : List Bs)[i]? = some S ∧ ([a, b, c] : List Bs)[i]? = some A ∧ (S.length ≤ q ∧ q ≤ A.length) ∧ readD D x = (A.take q, 0) ∧ sureD D x = ((q : Int), 0) := by
      match i, hlt with
      | 0, _ => exact ⟨[97], sa, a, q0, rfl, rfl, rfl, g0, by simp [hD, readD, lookE, may_a, fileOf], by simp [hD, sureD, lookE, may_a, fileOf]⟩
      | 1, _ => exact ⟨[98], sb, b, q1, rfl, rfl, rfl, g1, by simp [hD, readD, lookE, may_b, fileOf], by simp [hD, sureD, lookE, may_b, fileOf]⟩
      | 2, _ => exact ⟨[99], sc, c, q2, rfl, rfl, rfl, g2, by simp [hD, readD, lookE, may_c, fileOf], by simp [hD, sureD, lookE, may_c, fileOf]⟩
    have hlt' : (i : Int) < 3 := by omega
    have hw := wrap_small (n := (i : Int) + 1) (by omega) (by omega)
    (repeat (first | refine Run.adm rfl ?_ | refine Run.seq ?_ | (apply Run.opS rfl; (· (simp -implicitDefEqProofs [hlt, hlt', hx, encS]; exact ⟨rfl, rfl⟩))) | (apply Run.condS; (· (simp -implicitDefEqProofs [hlt, hlt', hx, encS]; exact rfl)))))
    refine Run.opC rfl rfl rfl (read_own hZ x) ?_
    rintro v Z1 ⟨rfl, hZ1, hst⟩
    have hs1 := (hst e1 (by simp)).trans hs
    have ha1 := (hst e2 (by simp)).trans ha
    clear hst hs ha hZ
    rw [hrd]
    (repeat (first | refine Run.adm rfl ?_ | refine Run.seq ?_ | (apply Run.opS rfl; (· (simp -implicitDefEqProofs [hlt, hlt', hx, encS]; exact ⟨rfl, rfl⟩))) | (apply Run.condS; (· (simp -implicitDefEqProofs [hlt, hlt', hx, encS]; exact rfl)))))
    refine Run.opC rfl rfl rfl (sure_own hZ1 x) ?_
    rintro v Z2 ⟨rfl, hZ2, hst⟩
    have hs2 := (hst e1 (by simp)).trans hs1
    have ha2 := (hst e2 (by simp)).trans ha1
    clear hst hs1 ha1 hZ1
    rw [hsu]
    have hlen : (A.take q).length = q := by simp only [List.length_take]; omega
    have hsx' : ([V.str sa, V.str sb, V.str sc] : List V)[i]? = some (.str S) := by
      have := congrArg (Option.map V.str) hsx
      rw [← List.getElem?_map] at this; exact this
    have hax' : ([V.str a, V.str b, V.str c] : List V)[i]? = some (.str A) := by
      have := congrArg (Option.map V.str) hax
      rw [← List.getElem?_map] at this; exact this
    have hsxi : ([V.str sa, V.str sb, V.str sc] : List V)[i]'(by simp; omega) = .str S := Option.some.inj ((List.getElem?_eq_getElem (by simp; omega)).symm.trans hsx')
    have haxi : ([V.str a, V.str b, V.str c] : List V)[i]'(by simp; omega) = .str A := Option.some.inj ((List.getElem?_eq_getElem (by simp; omega)).symm.trans hax')
    have z1 : ¬ q < S.length := by omega
    have z2 : ¬ A.length < q := by omega
    have z1' : ¬ (q : Int) < S.length := by omega
    have z2' : ¬ (A.length : Int) < q := by omega
    have z3 : q ≤ A.length := by omega
    have z3' : (q : Int) ≤ A.length := by omega
    (repeat (first | refine Run.adm rfl ?_ | refine Run.seq ?_ | (apply Run.opS rfl; (· (simp -implicitDefEqProofs [hlt, hlt', hs2, ha2, hsx', hax', hsxi, haxi, hlen, z1, z2, z1', z2', z3, z3']; exact ⟨rfl, rfl⟩))) | (apply Run.condS; (· (simp -implicitDefEqProofs [hlt, hlt', hs2, ha2, hsx', hax', hsxi, haxi, hlen, z1, z2, z1', z2', z3, z3']; exact rfl)))))
    refine Run.sl _ ?_ (ih (i + 1, Z2) ⟨by simp only; omega, hZ2, hs2, ha2⟩ (by simp only; omega))
    simp [hw]
  · have : i = 3 := by omega
    subst this
    (repeat (first | refine Run.adm rfl ?_ | refine Run.seq ?_ | (apply Run.opS rfl; (· (simp -implicitDefEqProofs; exact ⟨rfl, rfl⟩))) | (apply Run.condS; (· (simp -implicitDefEqProofs; exact rfl)))))
    refine Run.opC rfl rfl rfl (awake_at _) ?_
    rintro v H ⟨rfl, hH⟩
    (repeat (first | refine Run.adm rfl ?_ | refine Run.seq ?_ | (apply Run.opS rfl; (· (simp -implicitDefEqProofs; exact ⟨rfl, rfl⟩))) | (apply Run.condS; (· (simp -implicitDefEqProofs; exact rfl)))))
    exact hfin trivial (by simp)

end Go.Proofs.Ytoofeikddclclaa
