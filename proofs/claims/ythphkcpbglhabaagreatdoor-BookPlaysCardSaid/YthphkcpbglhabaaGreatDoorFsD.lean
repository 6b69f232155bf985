/-
  Layer 05, part D: looking, reading, sureness; a new disk; the fuse.
-/
import Derived.Test.YthphkcpbglhabaaGreatDoorFsC
namespace Go.Proofs.YthphkcpbglhabaaGreatDoor
open Sx Go
set_option maxRecDepth 100000
set_option linter.unusedSimpArgs false
set_option linter.unusedVariables false
set_option linter.unnecessarySimpa false
attribute [local simp] stepV condR boundsC appendG appendO copyV srcC guardB isCall opStep Opd.ev put readAt aBin aUn args0 V.celled V.ones V.one V.cells putAt bounds bound1 elemsOf srcOf appendV fillAt fillEl V.pures V.pure unwind evs ARes.ev mkRes V.ren V.renL O.ren eqCells eq1 aEq aMM hasTy hasTyN okTy mmGo Known HLe OLe VsLe.refl VLe.refl VLe.cap Stay VsLe V.frz V.frzL O.frz fr clearV rn KnownR Objs OLeO ObjsE nm back setAll ren_ite take_map_len List.take_of_length_le
attribute [local simp ↓] upd_app tl_cons tl_nil
attribute [local simp] encS_ren encS_ones encS_len encS_take KnownS VLe.refl

def syncD (D : Dk) (name : Bs) : Int × Dk :=
  if (doI (mayN name) D.fu D.off).1 = 0 then (match fileOf D.files name with
    | some _ => (0, ⟨updF D.files name (fun f => ⟨f.name, f.bytes, f.bytes.length⟩), (D.did (mayN name)).fu, (D.did (mayN name)).off⟩)
    | none => (3, D.did (mayN name))) else ((doI (mayN name) D.fu D.off).1, D.did (mayN name))

theorem sync_tri (X : List O) {d : Nat} {D : Dk} {F : List Nat} (hD : IsD X d D F) (name : Bs) :
    Tri Tryz.prog 134 [.ptr d 0, .str name] X (fun v Y => v = .int .i64 (syncD D name).1 ∧ After X d F (syncD D name).2 Y) := by
  obtain ⟨m, l, hat, hfs, rfl⟩ := hD
  refine Tri.of_run' Tryz.func134 rfl c134_ok (by simp [Tryz.ntmps134]) ?_
  have hft := find_tri X hat name
  (repeat (first | refine Run.adm rfl ?_ | refine Run.seq ?_ | ((first | apply Run.opS rfl | apply Run.condS); (· (simp -implicitDefEqProofs; first | exact ⟨rfl, rfl⟩ | exact rfl)))))
  refine Run.opC rfl rfl rfl hft ?_
  rintro v Y ⟨rfl, hY, hk⟩
  have hk' : Kept X Y (foot d m l) := hk.mono (by simp [foot])
  have hfo := fileOf_find l name
  rw [hfs] at hfo
  have hend : ∀ n D', syncD D name = (n, D') → ∀ {Z}, After X d (foot d m l) D' Z → ∀ {k t}, AtEnd k → t 4 = .int .i64 n → Run ⟨Tryz.prog, 134, Tryz.f134.ntmps, X, fun v Y => v = .int .i64 (syncD D name).1 ∧ After X d (foot d m l) (syncD D name).2 Y⟩ ⟨k, t, Z⟩ := by
    intro n D' he Z hZ k t hk h4
    refine Run.sl [(4, .int .i64 n)] (by simp [h4]) ?_
    refine Run.retS Tryz.func134 r134_ok hk (by simp [r134]; rfl) ?_
    rw [he]
    exact ⟨by simp, hZ⟩
  by_cases h0 : (doI (mayN name) D.fu D.off).1 = 0
  rotate_left
  · (repeat (first | refine Run.adm rfl ?_ | refine Run.seq ?_ | ((first | apply Run.opS rfl | apply Run.condS); (· (simp -implicitDefEqProofs [findR, h0]; first | exact ⟨rfl, rfl⟩ | exact rfl)))))
    exact hend (doI (mayN name) D.fu D.off).1 (D.did (mayN name)) (by simp [syncD, h0]) ⟨_, ⟨m, l, hY, hfs, rfl⟩, hk', Grown.refl _ _⟩ trivial (by simp)
  cases hf : findF l name with
  | none =>
    rw [hf] at hfo
    (repeat (first | refine Run.adm rfl ?_ | refine Run.seq ?_ | ((first | apply Run.opS rfl | apply Run.condS); (· (simp -implicitDefEqProofs [findR, h0, hf]; first | exact ⟨rfl, rfl⟩ | exact rfl)))))
    exact hend 3 (D.did (mayN name)) (by simp [syncD, h0, hfo]) ⟨_, ⟨m, l, hY, hfs, rfl⟩, hk', Grown.refl _ _⟩ trivial (by simp)
  | some q =>
    rw [hf] at hfo
    obtain ⟨A, B, rfl, hqn, -⟩ := find_split hf
    obtain ⟨f1, f2⟩ := hY.file q (by simp)
    obtain ⟨b1, b2⟩ := hY.ok q (by simp)
    obtain ⟨n1, n2, n3, n4, n5⟩ := hY.ne.2 q (by simp)
    (repeat (first | refine Run.adm rfl ?_ | refine Run.seq ?_ | ((first | apply Run.opS rfl | apply Run.condS); (· (simp -implicitDefEqProofs [findR, h0, hf, f1]; first | exact ⟨rfl, rfl⟩ | exact rfl)))))
    refine hend 0 ⟨updF D.files q.f.name (fun f => ⟨f.name, f.bytes, f.bytes.length⟩), (D.did (mayN name)).fu, (D.did (mayN name)).off⟩ (by simp [syncD, h0, hfo, hqn]) (after_upd hfs hY hk (fun f => ⟨f.name, f.bytes, f.bytes.length⟩) rfl (a' := q.a) (setG f1 _) ?_ (.inl rfl) ((Kept.refl Y _).set _ _ (.inl (by simp))) ?_) trivial (by simp)
    · rw [setN n5]; exact f2
    · simp only; omega

/-- what looking comes to -/
def lookR (l : List FP) (name : Bs) (off : Bool) : V × Int := if mayN name = true then (if off = true then (.nilp, 50) else (match findF l name with | some q => (.ptr q.p 0, 0) | none => (.nilp, 3))) else (.nilp, 1)
theorem look_tri (X : List O) {d m : Nat} {l : List FP} {fu : Int} {off : Bool} (hd : DiskAt X d m l fu off) (name : Bs) :
    Tri Tryz.prog 89 [.ptr d 0, .str name] X (fun v Y => v = .tup [(lookR l name off).1, .int .i64 (lookR l name off).2] ∧ Kept X Y []) := by
  refine Tri.of_run' Tryz.func89 rfl c89_ok (by simp [Tryz.ntmps89]) ?_
  (repeat (first | refine Run.adm rfl ?_ | refine Run.seq ?_ | ((first | apply Run.opS rfl | apply Run.condS); (· (simp -implicitDefEqProofs; first | exact ⟨rfl, rfl⟩ | exact rfl)))))
  refine Run.frzS X.length (es := [[.str name]]) (sz := 1) (by simp) ?_
  refine run_to [(0, .ptr d 0), (1, .str name), (8, .ptr d 0), (10, .vs ([name].map encS) 1)] (fun Y => Kept X Y []) (by simp [encS]) (((Kept.refl X []).app _).set _ _ (.inr (by omega))) ?_
  intro Y hY
  have hdY := hY.get hd.row (by simp)
  have hmY := hY.get hd.map (by simp)
  have hall : [name].all mayN = mayN name := by simp
  have hmy := may_tri Y hdY [name] (by simp)
  rw [hall] at hmy
  (repeat (first | refine Run.adm rfl ?_ | refine Run.seq ?_ | ((first | apply Run.opS rfl | apply Run.condS); (· (simp -implicitDefEqProofs; first | exact ⟨rfl, rfl⟩ | exact rfl)))))
  refine Run.opC rfl rfl rfl hmy ?_
  rintro v Z ⟨rfl, hZ⟩
  rw [hZ]
  clear hZ
  cases hm : mayN name with
  | false =>
    (repeat (first | refine Run.adm rfl ?_ | refine Run.seq ?_ | ((first | apply Run.opS rfl | apply Run.condS); (· (simp -implicitDefEqProofs; first | exact ⟨rfl, rfl⟩ | exact rfl)))))
    refine Run.retS Tryz.func89 r89_ok trivial (by simp [r89]; rfl) ?_
    exact ⟨by simp [lookR, hm], hY⟩
  | true =>
  rcases mFind_file name l 0 with ⟨j, q, h1, h2, h3, h4⟩ | ⟨h1, h2, h3⟩
  · simp only [Nat.zero_add] at h3
    have h1' : (l.map entV)[j]? = some (entV q) := by rw [List.getElem?_map, h1]; rfl
    cases off with
    | true =>
      (repeat (first | refine Run.adm rfl ?_ | refine Run.seq ?_ | ((first | apply Run.opS rfl | apply Run.condS); (· (simp -implicitDefEqProofs [hdY, hmY, h3, h1', h1, entV]; first | exact ⟨rfl, rfl⟩ | exact rfl)))))
      refine Run.retS Tryz.func89 r89_ok trivial (by simp [r89]; rfl) ?_
      exact ⟨by simp [lookR, hm], hY⟩
    | false =>
      (repeat (first | refine Run.adm rfl ?_ | refine Run.seq ?_ | ((first | apply Run.opS rfl | apply Run.condS); (· (simp -implicitDefEqProofs [hdY, hmY, h3, h1', h1, entV]; first | exact ⟨rfl, rfl⟩ | exact rfl)))))
      refine Run.retS Tryz.func89 r89_ok trivial (by simp [r89]; rfl) ?_
      exact ⟨by simp [lookR, hm, findF, h4], hY⟩
  · cases off with
    | true =>
      (repeat (first | refine Run.adm rfl ?_ | refine Run.seq ?_ | ((first | apply Run.opS rfl | apply Run.condS); (· (simp -implicitDefEqProofs [hdY, hmY, h2]; first | exact ⟨rfl, rfl⟩ | exact rfl)))))
      refine Run.retS Tryz.func89 r89_ok trivial (by simp [r89]; rfl) ?_
      exact ⟨by simp [lookR, hm], hY⟩
    | false =>
      (repeat (first | refine Run.adm rfl ?_ | refine Run.seq ?_ | ((first | apply Run.opS rfl | apply Run.condS); (· (simp -implicitDefEqProofs [hdY, hmY, h2]; first | exact ⟨rfl, rfl⟩ | exact rfl)))))
      refine Run.retS Tryz.func89 r89_ok trivial (by simp [r89]; rfl) ?_
      exact ⟨by simp [lookR, hm, findF, h3], hY⟩

theorem DiskAt.keep {X Y d m l fu off} (h : DiskAt X d m l fu off) (hk : Kept X Y []) : DiskAt Y d m l fu off :=
  ⟨hk.get h.row (by simp), hk.get h.map (by simp), fun q hq => ⟨hk.get (h.file q hq).1 (by simp), hk.get (h.file q hq).2 (by simp)⟩, h.nd, h.names, h.fuse, h.len, h.ok⟩
theorem IsD.after {X Y d D F} (h : IsD X d D F) (hk : Kept X Y []) : After X d F D Y := by
  obtain ⟨m, l, h1, h2, rfl⟩ := h
  exact ⟨_, ⟨m, l, h1.keep hk, h2, rfl⟩, hk.mono (by simp), Grown.refl _ _⟩

/-- why a file is not looked at -/
def lookE (D : Dk) (name : Bs) : Int := if mayN name = true then (if D.off = true then 50 else if (fileOf D.files name).isSome = true then 0 else 3) else 1
def readD (D : Dk) (name : Bs) : Bs × Int := if lookE D name = 0 then (match fileOf D.files name with | some f => (f.bytes, 0) | none => ([], 3)) else ([], lookE D name)
def sureD (D : Dk) (name : Bs) : Int × Int := if lookE D name = 0 then (match fileOf D.files name with | some f => (f.sure, 0) | none => (0, 3)) else (0, lookE D name)
theorem look_cases {X : List O} {d m : Nat} {l : List FP} {D : Dk} (hd : DiskAt X d m l D.fu D.off) (hfs : l.map (·.f) = D.files) (name : Bs) :
    (∃ q ∈ l, findF l name = some q ∧ fileOf D.files name = some q.f ∧ lookR l name D.off = (.ptr q.p 0, 0) ∧ lookE D name = 0) ∨ (lookR l name D.off = (.nilp, lookE D name) ∧ lookE D name ≠ 0) := by
  have hfo := fileOf_find l name
  rw [hfs] at hfo
  unfold lookR lookE
  cases mayN name with
  | false => exact .inr ⟨rfl, by simp⟩
  | true =>
    cases D.off with
    | true => exact .inr ⟨rfl, by simp⟩
    | false =>
      cases hf : findF l name with
      | none => rw [hf] at hfo; exact .inr ⟨by simp [hfo], by simp [hfo]⟩
      | some q =>
        rw [hf] at hfo
        obtain ⟨A, B, rfl, -, -⟩ := find_split hf
        exact .inl ⟨q, by simp, rfl, hfo, by simp, by simp [hfo]⟩

theorem read_tri (X : List O) {d : Nat} {D : Dk} {F : List Nat} (hD : IsD X d D F) (name : Bs) :
    Tri Tryz.prog 73 [.ptr d 0, .str name] X (fun v Y => v = .tup [.str (readD D name).1, .int .i64 (readD D name).2] ∧ Kept X Y []) := by
  obtain ⟨m, l, hat, hfs, rfl⟩ := hD
  refine Tri.of_run' Tryz.func73 rfl c73_ok (by simp [Tryz.ntmps73]) ?_
  have hlk := look_tri X hat name
  (repeat (first | refine Run.adm rfl ?_ | refine Run.seq ?_ | ((first | apply Run.opS rfl | apply Run.condS); (· (simp -implicitDefEqProofs; first | exact ⟨rfl, rfl⟩ | exact rfl)))))
  refine Run.opC rfl rfl rfl hlk ?_
  rintro v Y ⟨rfl, hk⟩
  rcases look_cases hat hfs name with ⟨q, hq, h1, h2, h3, h4⟩ | ⟨h1, h2⟩
  · obtain ⟨f1, f2⟩ := (hat.keep hk).file q hq
    obtain ⟨b1, b2⟩ := hat.ok q hq
    have hby : bytesOf (byteEls q.f.bytes) = some q.f.bytes := bytesOf_byteEls _
    have htk := take_byteEls (l := q.f.bytes) (Nat.le_refl _)
    (repeat (first | refine Run.adm rfl ?_ | refine Run.seq ?_ | ((first | apply Run.opS rfl | apply Run.condS); (· (simp -implicitDefEqProofs [h3, f1, f2, hby, htk, byteEls_len]; first | exact ⟨rfl, rfl⟩ | exact rfl)))))
    refine Run.retS Tryz.func73 r73_ok trivial (by simp [r73]; rfl) ?_
    exact ⟨by simp [readD, h4, h2], hk⟩
  · (repeat (first | refine Run.adm rfl ?_ | refine Run.seq ?_ | ((first | apply Run.opS rfl | apply Run.condS); (· (simp -implicitDefEqProofs [h1, h2]; first | exact ⟨rfl, rfl⟩ | exact rfl)))))
    refine Run.retS Tryz.func73 r73_ok trivial (by simp [r73]; rfl) ?_
    exact ⟨by simp [readD, h2], hk⟩
theorem sure_tri (X : List O) {d : Nat} {D : Dk} {F : List Nat} (hD : IsD X d D F) (name : Bs) :
    Tri Tryz.prog 47 [.ptr d 0, .str name] X (fun v Y => v = .tup [.int .i64 (sureD D name).1, .int .i64 (sureD D name).2] ∧ Kept X Y []) := by
  obtain ⟨m, l, hat, hfs, rfl⟩ := hD
  refine Tri.of_run' Tryz.func47 rfl c47_ok (by simp [Tryz.ntmps47]) ?_
  have hlk := look_tri X hat name
  (repeat (first | refine Run.adm rfl ?_ | refine Run.seq ?_ | ((first | apply Run.opS rfl | apply Run.condS); (· (simp -implicitDefEqProofs; first | exact ⟨rfl, rfl⟩ | exact rfl)))))
  refine Run.opC rfl rfl rfl hlk ?_
  rintro v Y ⟨rfl, hk⟩
  rcases look_cases hat hfs name with ⟨q, hq, h1, h2, h3, h4⟩ | ⟨h1, h2⟩
  · obtain ⟨f1, f2⟩ := (hat.keep hk).file q hq
    (repeat (first | refine Run.adm rfl ?_ | refine Run.seq ?_ | ((first | apply Run.opS rfl | apply Run.condS); (· (simp -implicitDefEqProofs [h3, f1]; first | exact ⟨rfl, rfl⟩ | exact rfl)))))
    refine Run.retS Tryz.func47 r47_ok trivial (by simp [r47]; rfl) ?_
    exact ⟨by simp [sureD, h4, h2], hk⟩
  · (repeat (first | refine Run.adm rfl ?_ | refine Run.seq ?_ | ((first | apply Run.opS rfl | apply Run.condS); (· (simp -implicitDefEqProofs [h1, h2]; first | exact ⟨rfl, rfl⟩ | exact rfl)))))
    refine Run.retS Tryz.func47 r47_ok trivial (by simp [r47]; rfl) ?_
    exact ⟨by simp [sureD, h2], hk⟩

theorem may0_tri (X : List O) {d m : Nat} {fu : Int} {off : Bool} (hd : X[d]? = some (.row [.mp m, .int .i64 fu, .bool off])) : Tri Tryz.prog 44 [.ptr d 0, .nils] X (fun v H => v = .bool true ∧ H = X) := by
  have h := may_tri X hd [] (by simp)
  have hv : VsLe [V.ptr d 0, .nils] [.ptr d 0, .vs (([] : List Bs).map encS) 1] := ⟨VLe.refl _, VLe.nils _, trivial⟩
  exact (Tri.args hv h).mono fun v H ⟨h1, h2⟩ => ⟨by simpa using h1, h2⟩
theorem off_tri (X : List O) {d : Nat} {D : Dk} {F : List Nat} (hD : IsD X d D F) : Tri Tryz.prog 17 [.ptr d 0] X (fun v Y => v = .bool D.off ∧ Y = X) := by
  obtain ⟨m, l, hat, hfs, rfl⟩ := hD
  refine Tri.of_run' Tryz.func17 rfl c17_ok (by simp [Tryz.ntmps17]) ?_
  (repeat (first | refine Run.adm rfl ?_ | refine Run.seq ?_ | ((first | apply Run.opS rfl | apply Run.condS); (· (simp -implicitDefEqProofs; first | exact ⟨rfl, rfl⟩ | exact rfl)))))
  refine Run.opC rfl rfl rfl (may0_tri X hat.row) ?_
  rintro v Y ⟨rfl, hY⟩
  rw [hY]
  (repeat (first | refine Run.adm rfl ?_ | refine Run.seq ?_ | ((first | apply Run.opS rfl | apply Run.condS); (· (simp -implicitDefEqProofs [hat.row]; first | exact ⟨rfl, rfl⟩ | exact rfl)))))
  refine Run.retS Tryz.func17 r17_ok trivial (by simp [r17]; rfl) ?_
  exact ⟨by simp, rfl⟩
theorem fuse_tri (X : List O) {d : Nat} {D : Dk} {F : List Nat} (hD : IsD X d D F) (n : Int) (hn : n ≤ 9223372036854775807) : Tri Tryz.prog 18 [.ptr d 0, .int .i64 n] X (fun v Y => v = .int .i64 0 ∧ After X d F ⟨D.files, if n < -1 then -1 else n, D.off⟩ Y) := by
  obtain ⟨m, l, hat, hfs, rfl⟩ := hD
  refine Tri.of_run' Tryz.func18 rfl c18_ok (by simp [Tryz.ntmps18]) ?_
  (repeat (first | refine Run.adm rfl ?_ | refine Run.seq ?_ | ((first | apply Run.opS rfl | apply Run.condS); (· (simp -implicitDefEqProofs; first | exact ⟨rfl, rfl⟩ | exact rfl)))))
  refine Run.opC rfl rfl rfl (may0_tri X hat.row) ?_
  rintro v Y ⟨rfl, hY⟩
  rw [hY]
  clear hY
  have hb : -1 ≤ (if n < -1 then -1 else n) ∧ (if n < -1 then -1 else n) ≤ 9223372036854775807 := by split <;> omega
  have hfin : ∀ z : Int, z = (if n < -1 then -1 else n) → After X d (foot d m l) ⟨D.files, if n < -1 then -1 else n, D.off⟩ (X.set d (.row [.mp m, .int .i64 z, .bool D.off])) := by
    rintro z rfl
    refine ⟨_, ⟨m, l, hat.turn (setG hat.row _) ((Kept.refl X _).set _ _ (.inl (by simp))) hb, hfs, rfl⟩, (Kept.refl X _).set _ _ (.inl (by simp [foot])), Grown.refl _ _⟩
  (repeat (first | refine Run.adm rfl ?_ | refine Run.seq ?_ | ((first | apply Run.opS rfl | apply Run.condS); (· (simp -implicitDefEqProofs [hat.row]; first | exact ⟨rfl, rfl⟩ | exact rfl)))))
  refine Run.retS Tryz.func18 r18_ok trivial (by simp [r18]; rfl) ?_
  refine ⟨by simp, ?_⟩
  exact hfin _ rfl

theorem new_tri (X : List O) : Tri Tryz.prog 8 [] X (fun v Y => ∃ d F, v = .ptr d 0 ∧ IsD Y d ⟨[], -1, false⟩ F ∧ Kept X Y [] ∧ ∀ i ∈ F, X.length ≤ i) := by
  refine Tri.of_run' Tryz.func8 rfl c8_ok (by simp [Tryz.ntmps8]) ?_
  (repeat (first | refine Run.adm rfl ?_ | refine Run.seq ?_ | ((first | apply Run.opS rfl | apply Run.condS); (· (simp -implicitDefEqProofs; first | exact ⟨rfl, rfl⟩ | exact rfl)))))
  refine Run.retS Tryz.func8 r8_ok trivial (by simp [r8]; rfl) ?_
  refine ⟨X.length + 1, foot (X.length + 1) X.length [], by simp, ⟨X.length, [], ⟨by simp, by simp, by simp, by simp [foot], by simp, by simp, by simp, by simp⟩, rfl, rfl⟩, (Kept.refl X _).app _, by simp [foot]⟩

end Go.Proofs.YthphkcpbglhabaaGreatDoor
