/-
  Layer 05, part B: a disk's files in a heap; a file is found.
-/
import Derived.Test.YthphkcpbglhabaaGreatDoorFsA
namespace Go.Proofs.YthphkcpbglhabaaGreatDoor
open Sx Go
set_option maxRecDepth 100000
set_option linter.unusedSimpArgs false
set_option linter.unusedVariables false
set_option linter.unnecessarySimpa false
attribute [local simp] stepV condR boundsC appendG appendO copyV srcC guardB isCall opStep Opd.ev put readAt aBin aUn args0 V.celled V.ones V.one V.cells putAt bounds bound1 elemsOf srcOf appendV fillAt fillEl V.pures V.pure unwind evs ARes.ev mkRes V.ren V.renL O.ren eqCells eq1 aEq aMM hasTy hasTyN okTy mmGo Known HLe OLe VsLe.refl VLe.refl VLe.cap Stay VsLe V.frz V.frzL O.frz fr clearV rn KnownR Objs OLeO ObjsE nm back setAll ren_ite take_map_len List.take_of_length_le
attribute [local simp ↓] upd_app tl_cons tl_nil
attribute [local simp] encS_ren encS_ones encS_len encS_take KnownS VLe.refl

/-- but for some objects all is as it was -/
def Kept (X X' : List O) (F : List Nat) : Prop := X.length ≤ X'.length ∧ ∀ i, i < X.length → i ∉ F → X'[i]? = X[i]?
theorem Kept.refl (X F) : Kept X X F := ⟨Nat.le_refl _, fun _ _ _ => rfl⟩
theorem Kept.trans {X Y Z F G} (h : Kept X Y F) (k : Kept Y Z G) : Kept X Z (F ++ G) :=
  ⟨Nat.le_trans h.1 k.1, fun i hi hf => by
    simp only [List.mem_append, not_or] at hf
    rw [k.2 i (Nat.lt_of_lt_of_le hi h.1) hf.2, h.2 i hi hf.1]⟩
theorem Kept.mono {X Y F G} (h : Kept X Y F) (hs : ∀ i ∈ F, i ∈ G) : Kept X Y G := ⟨h.1, fun i hi hf => h.2 i hi fun hm => hf (hs i hm)⟩
theorem Kept.app {X Y F} (h : Kept X Y F) (L : List O) : Kept X (Y ++ L) F :=
  ⟨Nat.le_trans h.1 (by simp), fun i hi hf => by rw [List.getElem?_append_left (Nat.lt_of_lt_of_le hi h.1)]; exact h.2 i hi hf⟩
theorem Kept.set {X Y F} (h : Kept X Y F) (j : Nat) (o : O) (hj : j ∈ F ∨ X.length ≤ j) : Kept X (Y.set j o) F :=
  ⟨by simpa using h.1, fun i hi hf => by
    rw [List.getElem?_set_ne]
    · exact h.2 i hi hf
    · rintro rfl
      rcases hj with hj | hj
      · exact hf hj
      · omega⟩
theorem Kept.get {X Y F} (h : Kept X Y F) {i : Nat} {o : O} (hi : X[i]? = some o) (hf : i ∉ F) : Y[i]? = some o := by rw [h.2 i (lt_of_get hi) hf]; exact hi

theorem run_to {E : Env} {k : List AItem} {t : T} {h : List O} (slots : List (Nat × V)) (P : List O → Prop) (hs : KnownS t slots) (hp : P h) (hr : ∀ Y, P Y → Run E ⟨k, tl slots, Y⟩) : Run E ⟨k, t, h⟩ := Run.sl slots hs (hr h hp)
theorem getA {X : List O} {i : Nat} {o : O} (h : X[i]? = some o) (L : List O) : (X ++ L)[i]? = some o := by rw [List.getElem?_append_left (lt_of_get h)]; exact h

structure FileM where
  name : Bs
  bytes : Bs
  sure : Nat
  deriving DecidableEq
/-- a file and where it lies -/
structure FP where
  f : FileM
  p : Nat
  a : Nat
def entV (q : FP) : V × V := (.str q.f.name, .ptr q.p 0)
def FileAt (X : List O) (q : FP) : Prop := X[q.p]? = some (.row [.sl q.a 0 q.f.bytes.length 1 none, .int .i64 q.f.sure]) ∧ X[q.a]? = some (.arr (byteEls q.f.bytes) 1)
def foot (d m : Nat) (l : List FP) : List Nat := d :: m :: l.flatMap fun q => [q.p, q.a]
structure DiskAt (X : List O) (d m : Nat) (l : List FP) (fu : Int) (off : Bool) : Prop where
  row : X[d]? = some (.row [.mp m, .int .i64 fu, .bool off])
  map : X[m]? = some (.map (l.map entV))
  file : ∀ q ∈ l, FileAt X q
  nd : (foot d m l).Nodup
  names : (l.map (·.f.name)).Nodup
  fuse : -1 ≤ fu ∧ fu ≤ 9223372036854775807
  len : l.length ≤ 256
  ok : ∀ q ∈ l, q.f.bytes.length ≤ 4194304 ∧ q.f.sure ≤ q.f.bytes.length
theorem DiskAt.lt {X d m l fu off} (h : DiskAt X d m l fu off) : ∀ i ∈ foot d m l, i < X.length := by
  intro i hi
  simp only [foot, List.mem_cons, List.mem_flatMap, List.not_mem_nil, or_false] at hi
  rcases hi with rfl | rfl | ⟨q, hq, rfl | rfl⟩
  · exact lt_of_get h.row
  · exact lt_of_get h.map
  · exact lt_of_get (h.file q hq).1
  · exact lt_of_get (h.file q hq).2
theorem foot_p {d m : Nat} {l : List FP} {q : FP} (hq : q ∈ l) : q.p ∈ foot d m l ∧ q.a ∈ foot d m l := by
  simp only [foot, List.mem_cons, List.mem_flatMap]
  exact ⟨.inr (.inr ⟨q, hq, by simp⟩), .inr (.inr ⟨q, hq, by simp⟩)⟩
theorem DiskAt.ne {X d m l fu off} (h : DiskAt X d m l fu off) : d ≠ m ∧ ∀ q ∈ l, q.p ≠ d ∧ q.a ≠ d ∧ q.p ≠ m ∧ q.a ≠ m ∧ q.p ≠ q.a := by
  have hn := h.nd
  simp only [foot, List.nodup_cons, List.mem_cons, not_or] at hn
  obtain ⟨⟨h1, h2⟩, h3, h4⟩ := hn
  refine ⟨h1, fun q hq => ?_⟩
  have e1 : q.p ∈ l.flatMap fun q => [q.p, q.a] := List.mem_flatMap.2 ⟨q, hq, by simp⟩
  have e2 : q.a ∈ l.flatMap fun q => [q.p, q.a] := List.mem_flatMap.2 ⟨q, hq, by simp⟩
  refine ⟨fun e => h2 (e ▸ e1), fun e => h2 (e ▸ e2), fun e => h3 (e ▸ e1), fun e => h3 (e ▸ e2), fun e => ?_⟩
  have : ∀ {l : List FP}, (l.flatMap fun q => [q.p, q.a]).Nodup → ∀ q ∈ l, q.p ≠ q.a := by
    intro l
    induction l with
    | nil => intro _ q hq; simp at hq
    | cons x l ih =>
      intro hn q hq
      simp only [List.flatMap_cons, List.cons_append, List.nil_append, List.nodup_cons, List.mem_cons, not_or] at hn
      rcases List.mem_cons.1 hq with rfl | hq
      · exact hn.1.1
      · exact ih hn.2.2 q hq
  exact this h4 q hq e
/-- the disk's own row alone has turned -/
theorem DiskAt.turn {X Y d m l fu off fu' off'} (h : DiskAt X d m l fu off) (hr : Y[d]? = some (.row [.mp m, .int .i64 fu', .bool off'])) (hk : Kept X Y [d]) (hf : -1 ≤ fu' ∧ fu' ≤ 9223372036854775807) : DiskAt Y d m l fu' off' := by
  obtain ⟨h1, h2⟩ := h.ne
  refine ⟨hr, hk.get h.map (by simp [h1.symm]), fun q hq => ?_, h.nd, h.names, hf, h.len, h.ok⟩
  obtain ⟨n1, n2, -⟩ := h2 q hq
  obtain ⟨g1, g2⟩ := h.file q hq
  exact ⟨hk.get g1 (by simpa using n1), hk.get g2 (by simpa using n2)⟩

theorem mFind_file (name : Bs) : ∀ (l : List FP) (i : Nat), (∃ j q, l[j]? = some q ∧ q.f.name = name ∧ mFind 1 (.str name) (l.map entV) i = some (some (i + j)) ∧ l.find? (fun q => decide (q.f.name = name)) = some q) ∨ ((∀ q ∈ l, q.f.name ≠ name) ∧ mFind 1 (.str name) (l.map entV) i = some none ∧ l.find? (fun q => decide (q.f.name = name)) = none)
  | [], i => .inr ⟨by simp, rfl, rfl⟩
  | x :: l, i => by
    by_cases h : x.f.name = name
    · exact .inl ⟨0, x, rfl, h, by simp [mFind, entV, kEq, h], by simp [h]⟩
    · have h' : ¬ name = x.f.name := fun e => h e.symm
      rcases mFind_file name l (i + 1) with ⟨j, q, h1, h2, h3, h4⟩ | ⟨h1, h2, h3⟩
      · refine .inl ⟨j + 1, q, by simpa using h1, h2, ?_, by simp [h, h4]⟩
        simp only [List.map_cons, mFind, entV, kEq, h', if_true, decide_false]
        rw [h3]; congr 2; omega
      · refine .inr ⟨fun q hq => ?_, ?_, by simp [h, h3]⟩
        · rcases List.mem_cons.1 hq with rfl | hq
          · exact h
          · exact h1 q hq
        · simp only [List.map_cons, mFind, entV, kEq, h', if_true, decide_false]
          rw [h2]

def findF (l : List FP) (name : Bs) : Option FP := l.find? (fun q => decide (q.f.name = name))
/-- what looking a file up for a doing comes to -/
def findR (l : List FP) (name : Bs) (dr : Int × Int × Bool) : V × Int := if dr.1 = 0 then (match findF l name with | some q => (.ptr q.p 0, 0) | none => (.nilp, 3)) else (.nilp, dr.1)

theorem doI_fuse {ok : Bool} {fu : Int} {off : Bool} (h : -1 ≤ fu ∧ fu ≤ 9223372036854775807) : -1 ≤ (doI ok fu off).2.1 ∧ (doI ok fu off).2.1 ≤ 9223372036854775807 := by
  unfold doI
  repeat' split
  all_goals simp only; omega

theorem find_tri (X : List O) {d m : Nat} {l : List FP} {fu : Int} {off : Bool} (hd : DiskAt X d m l fu off) (name : Bs) :
    Tri Tryz.prog 123 [.ptr d 0, .str name, .nils] X (fun v Y => v = .tup [(findR l name (doI (mayN name) fu off)).1, .int .i64 (findR l name (doI (mayN name) fu off)).2] ∧ DiskAt Y d m l (doI (mayN name) fu off).2.1 (doI (mayN name) fu off).2.2 ∧ Kept X Y [d]) := by
  refine Tri.of_run' Tryz.func123 rfl c123_ok (by simp [Tryz.ntmps123]) ?_
  obtain ⟨D, hD⟩ : ∃ D, D = doI (mayN name) fu off := ⟨_, rfl⟩
  have hf2 := doI_fuse (ok := mayN name) (off := off) hd.fuse
  rw [← hD] at hf2 ⊢
  (repeat (first | refine Run.adm rfl ?_ | refine Run.seq ?_ | ((first | apply Run.opS rfl | apply Run.condS); (· (simp -implicitDefEqProofs; first | exact ⟨rfl, rfl⟩ | exact rfl)))))
  refine Run.frzS (X.length + 1) (es := [[.str name]]) (sz := 1) (by simp) ?_
  refine run_to [(0, .ptr d 0), (1, .str name), (11, .ptr d 0), (15, .vs ([name].map encS) 1)] (fun Y => Kept X Y []) (by simp [encS]) (((Kept.refl X []).app _).set _ _ (.inr (by omega))) ?_
  intro Y hY
  have hdY := hY.get hd.row (by simp)
  have hall : [name].all mayN = mayN name := by simp
  have hdo := doing_tri Y hdY hd.fuse [name] (by simp)
  rw [hall, ← hD] at hdo
  (repeat (first | refine Run.adm rfl ?_ | refine Run.seq ?_ | ((first | apply Run.opS rfl | apply Run.condS); (· (simp -implicitDefEqProofs; first | exact ⟨rfl, rfl⟩ | exact rfl)))))
  refine Run.opC rfl rfl rfl hdo ?_
  rintro v Z ⟨rfl, rfl⟩
  have hk : Kept X (Y.set d (.row [.mp m, .int .i64 D.2.1, .bool D.2.2])) [d] := (hY.mono (by simp)).set _ _ (.inl (by simp))
  have hat := hd.turn (setG hdY _) hk hf2
  generalize Y.set d (.row [.mp m, .int .i64 D.2.1, .bool D.2.2]) = Z at *
  by_cases h0 : D.1 = 0
  rotate_left
  · (repeat (first | refine Run.adm rfl ?_ | refine Run.seq ?_ | ((first | apply Run.opS rfl | apply Run.condS); (· (simp -implicitDefEqProofs [h0]; first | exact ⟨rfl, rfl⟩ | exact rfl)))))
    refine Run.retS Tryz.func123 r123_ok trivial (by simp [r123]; rfl) ?_
    exact ⟨by simp [findR, h0], hat, hk⟩
  rcases mFind_file name l 0 with ⟨j, q, h1, h2, h3, h4⟩ | ⟨h1, h2, h3⟩
  · simp only [Nat.zero_add] at h3
    have h1' : (l.map entV)[j]? = some (entV q) := by rw [List.getElem?_map, h1]; rfl
    (repeat (first | refine Run.adm rfl ?_ | refine Run.seq ?_ | ((first | apply Run.opS rfl | apply Run.condS); (· (simp -implicitDefEqProofs [h0, hat.row, hat.map, h3, h1', h1, entV]; first | exact ⟨rfl, rfl⟩ | exact rfl)))))
    refine Run.retS Tryz.func123 r123_ok trivial (by simp [r123]; rfl) ?_
    exact ⟨by simp [findR, h0, findF, h4], hat, hk⟩
  · (repeat (first | refine Run.adm rfl ?_ | refine Run.seq ?_ | ((first | apply Run.opS rfl | apply Run.condS); (· (simp -implicitDefEqProofs [h0, hat.row, hat.map, h2]; first | exact ⟨rfl, rfl⟩ | exact rfl)))))
    refine Run.retS Tryz.func123 r123_ok trivial (by simp [r123]; rfl) ?_
    exact ⟨by simp [findR, h0, findF, h3], hat, hk⟩

end Go.Proofs.YthphkcpbglhabaaGreatDoor
