/-
  Layer 05, part C: one file turns, comes, goes.
-/
import Derived.Test.YthphkcpbglhabaaGreatDoorFsB
namespace Go.Proofs.YthphkcpbglhabaaGreatDoor
open Sx Go
set_option maxRecDepth 100000
set_option linter.unusedSimpArgs false
set_option linter.unusedVariables false
set_option linter.unnecessarySimpa false
attribute [local simp] stepV condR boundsC appendG appendO copyV srcC guardB isCall opStep Opd.ev put readAt aBin aUn args0 V.celled V.ones V.one V.cells putAt bounds bound1 elemsOf srcOf appendV fillAt fillEl V.pures V.pure unwind evs ARes.ev mkRes V.ren V.renL O.ren eqCells eq1 aEq aMM hasTy hasTyN okTy mmGo Known HLe OLe VsLe.refl VLe.refl VLe.cap Stay VsLe V.frz V.frzL O.frz fr clearV rn KnownR Objs OLeO ObjsE nm back setAll ren_ite take_map_len List.take_of_length_le
attribute [local simp ↓] upd_app tl_cons tl_nil
attribute [local simp] encS_ren encS_ones encS_len encS_take KnownS VLe.refl

/-- a disk's files, its fuse, whether the power is off -/
structure Dk where
  files : List FileM
  fu : Int
  off : Bool
def IsD (X : List O) (d : Nat) (D : Dk) (F : List Nat) : Prop := ∃ m l, DiskAt X d m l D.fu D.off ∧ l.map (·.f) = D.files ∧ F = foot d m l
def Grown (X : List O) (F F' : List Nat) : Prop := ∀ i ∈ F', i ∈ F ∨ X.length ≤ i
theorem Grown.refl (X F) : Grown X F F := fun _ h => .inl h
/-- behind a call: what the disk is, and that all else is as it was -/
def After (X : List O) (d : Nat) (F : List Nat) (D : Dk) (Y : List O) : Prop := ∃ F', IsD Y d D F' ∧ Kept X Y F ∧ Grown X F F'

theorem nodup_mid {α : Type} {A B : List α} {x : α} : (A ++ x :: B).Nodup ↔ x ∉ A ++ B ∧ (A ++ B).Nodup := by
  rw [List.perm_middle.nodup_iff, List.nodup_cons]
theorem foot_mid (d m : Nat) (A B : List FP) (q : FP) : foot d m (A ++ q :: B) = (d :: m :: (A.flatMap fun q => [q.p, q.a])) ++ q.p :: q.a :: (B.flatMap fun q => [q.p, q.a]) := by
  simp [foot]

/-- a file's row and bytes have turned -/
theorem DiskAt.upd {X Y : List O} {d m : Nat} {A B : List FP} {q : FP} {fu : Int} {off : Bool} (h : DiskAt X d m (A ++ q :: B) fu off) {f' : FileM} {a' : Nat} (hn : f'.name = q.f.name)
    (h1 : Y[q.p]? = some (.row [.sl a' 0 f'.bytes.length 1 none, .int .i64 f'.sure])) (h2 : Y[a']? = some (.arr (byteEls f'.bytes) 1)) (ha : a' = q.a ∨ X.length ≤ a') (hk : Kept X Y [q.p, q.a]) (hok : f'.bytes.length ≤ 4194304 ∧ f'.sure ≤ f'.bytes.length) :
    DiskAt Y d m (A ++ ⟨f', q.p, a'⟩ :: B) fu off := by
  obtain ⟨e1, e2⟩ := h.ne
  obtain ⟨g1, g2, g3, g4, g5⟩ := e2 q (by simp)
  have hnd := h.nd
  rw [foot_mid, nodup_mid] at hnd
  have hlt := h.lt
  have hoth : ∀ r ∈ A ++ B, r.p ≠ q.p ∧ r.p ≠ q.a ∧ r.a ≠ q.p ∧ r.a ≠ q.a := by
    intro r hr
    have m1 : r.p ∈ (A.flatMap fun q => [q.p, q.a]) ++ (B.flatMap fun q => [q.p, q.a]) ∧ r.a ∈ (A.flatMap fun q => [q.p, q.a]) ++ (B.flatMap fun q => [q.p, q.a]) := by
      rw [← List.flatMap_append]
      exact ⟨List.mem_flatMap.2 ⟨r, hr, by simp⟩, List.mem_flatMap.2 ⟨r, hr, by simp⟩⟩
    obtain ⟨n1, n2⟩ := hnd
    rw [nodup_mid] at n2
    obtain ⟨n2, -⟩ := n2
    simp only [List.cons_append, List.mem_cons, List.mem_append, not_or] at n1 n2
    obtain ⟨m1, m2⟩ := m1
    rw [List.mem_append] at m1 m2
    refine ⟨fun e => ?_, fun e => ?_, fun e => ?_, fun e => ?_⟩
    · rw [e] at m1; rcases m1 with x | x
      · exact n1.2.2.1 x
      · exact n1.2.2.2.2 x
    · rw [e] at m1; rcases m1 with x | x
      · exact n2.2.2.1 x
      · exact n2.2.2.2 x
    · rw [e] at m2; rcases m2 with x | x
      · exact n1.2.2.1 x
      · exact n1.2.2.2.2 x
    · rw [e] at m2; rcases m2 with x | x
      · exact n2.2.2.1 x
      · exact n2.2.2.2 x
  refine ⟨hk.get h.row (by simp [Ne.symm g1, Ne.symm g2]), ?_, fun r hr => ?_, ?_, ?_, h.fuse, by simpa using h.len, fun r hr => ?_⟩
  · have := hk.get h.map (by simp [Ne.symm g3, Ne.symm g4])
    rw [this]
    simp [entV, hn]
  · rcases List.mem_append.1 hr with hr | hr
    · obtain ⟨o1, o2, o3, o4⟩ := hoth r (List.mem_append_left _ hr)
      obtain ⟨f1, f2⟩ := h.file r (List.mem_append_left _ hr)
      exact ⟨hk.get f1 (by simp [o1, o2]), hk.get f2 (by simp [o3, o4])⟩
    · rcases List.mem_cons.1 hr with rfl | hr
      · exact ⟨h1, h2⟩
      · obtain ⟨o1, o2, o3, o4⟩ := hoth r (List.mem_append_right _ hr)
        obtain ⟨f1, f2⟩ := h.file r (List.mem_append_right _ (List.mem_cons_of_mem _ hr))
        exact ⟨hk.get f1 (by simp [o1, o2]), hk.get f2 (by simp [o3, o4])⟩
  · have hm := foot_mid d m A B ⟨f', q.p, a'⟩
    rw [hm]
    rcases ha with rfl | ha
    · have := h.nd; rw [foot_mid] at this; exact this
    · have hn2 := h.nd
      rw [foot_mid] at hn2
      have hall : ∀ i ∈ (d :: m :: (A.flatMap fun q => [q.p, q.a])) ++ q.p :: q.a :: (B.flatMap fun q => [q.p, q.a]), i < X.length := by rw [← foot_mid]; exact hlt
      generalize (d :: m :: (A.flatMap fun q => [q.p, q.a])) = U at *
      generalize (B.flatMap fun q => [q.p, q.a]) = W at *
      have e3 : U ++ q.p :: q.a :: W = (U ++ [q.p]) ++ q.a :: W := by simp
      have e4 : U ++ q.p :: a' :: W = (U ++ [q.p]) ++ a' :: W := by simp
      rw [e3, nodup_mid] at hn2
      show (U ++ q.p :: a' :: W).Nodup
      rw [e4, nodup_mid]
      refine ⟨fun hmem => ?_, hn2.2⟩
      have := hall a' (by rw [e3]; rcases List.mem_append.1 hmem with x | x; exact List.mem_append_left _ x; exact List.mem_append_right _ (List.mem_cons_of_mem _ x))
      omega
  · have := h.names
    simpa [hn] using this
  · rcases List.mem_append.1 hr with hr | hr
    · exact h.ok r (List.mem_append_left _ hr)
    · rcases List.mem_cons.1 hr with rfl | hr
      · exact hok
      · exact h.ok r (List.mem_append_right _ (List.mem_cons_of_mem _ hr))

/-- a doing's fuse and power -/
def Dk.did (D : Dk) (ok : Bool) : Dk := ⟨D.files, (doI ok D.fu D.off).2.1, (doI ok D.fu D.off).2.2⟩
def fileOf (fs : List FileM) (name : Bs) : Option FileM := fs.find? (fun f => decide (f.name = name))
def updF (fs : List FileM) (name : Bs) (g : FileM → FileM) : List FileM := fs.map fun f => if f.name = name then g f else f

/-- where it is found -/
theorem find_split {l : List FP} {name : Bs} {q : FP} (h : findF l name = some q) : ∃ A B, l = A ++ q :: B ∧ q.f.name = name ∧ ∀ r ∈ A, r.f.name ≠ name := by
  unfold findF at h
  obtain ⟨h1, A, B, h2, h3⟩ := List.find?_eq_some_iff_append.1 h
  exact ⟨A, B, h2, by simpa using h1, fun r hr => by simpa using h3 r hr⟩
theorem fileOf_find (l : List FP) (name : Bs) : fileOf (l.map (·.f)) name = (findF l name).map (·.f) := by
  unfold fileOf findF
  induction l with
  | nil => rfl
  | cons q l ih =>
    by_cases h : q.f.name = name
    · simp [h]
    · simp only [List.map_cons, List.find?_cons, h, decide_false]; exact ih
theorem names_split {A B : List FP} {q : FP} (h : ((A ++ q :: B).map (·.f.name)).Nodup) : (∀ r ∈ A, r.f.name ≠ q.f.name) ∧ ∀ r ∈ B, r.f.name ≠ q.f.name := by
  rw [List.map_append, List.map_cons, nodup_mid, List.mem_append, not_or] at h
  exact ⟨fun r hr e => h.1.1 (List.mem_map.2 ⟨r, hr, e⟩), fun r hr e => h.1.2 (List.mem_map.2 ⟨r, hr, e⟩)⟩
theorem updF_split {A B : List FP} {q : FP} (h : ((A ++ q :: B).map (·.f.name)).Nodup) (g : FileM → FileM) (p a : Nat) :
    (A ++ ⟨g q.f, p, a⟩ :: B).map (·.f) = updF ((A ++ q :: B).map (·.f)) q.f.name g := by
  obtain ⟨h1, h2⟩ := names_split h
  simp only [updF, List.map_append, List.map_cons, List.map_map, if_true]
  congr 1
  · exact List.map_congr_left fun r hr => by simp [h1 r hr]
  · congr 1
    exact List.map_congr_left fun r hr => by simp [h2 r hr]

theorem after_upd {X Y Z : List O} {d m : Nat} {A B : List FP} {q : FP} {fs : List FileM} {fu : Int} {off : Bool} (hfs : (A ++ q :: B).map (·.f) = fs) (hY : DiskAt Y d m (A ++ q :: B) fu off) (hk : Kept X Y [d]) (g : FileM → FileM) (hg : (g q.f).name = q.f.name) {a' : Nat}
    (h1 : Z[q.p]? = some (.row [.sl a' 0 (g q.f).bytes.length 1 none, .int .i64 (g q.f).sure])) (h2 : Z[a']? = some (.arr (byteEls (g q.f).bytes) 1)) (ha : a' = q.a ∨ Y.length ≤ a') (hZ : Kept Y Z [q.p, q.a]) (hok : (g q.f).bytes.length ≤ 4194304 ∧ (g q.f).sure ≤ (g q.f).bytes.length) :
    After X d (foot d m (A ++ q :: B)) ⟨updF fs q.f.name g, fu, off⟩ Z := by
  have hat := hY.upd hg h1 h2 ha hZ hok
  refine ⟨_, ⟨m, _, hat, ?_, rfl⟩, (hk.trans hZ).mono ?_, ?_⟩
  · rw [← hfs]; exact updF_split hY.names g q.p a'
  · intro i hi
    simp only [List.cons_append, List.nil_append, List.mem_cons, List.not_mem_nil, or_false] at hi
    rcases hi with rfl | rfl | rfl
    · simp [foot]
    · exact (foot_p (d := d) (m := m) (l := A ++ q :: B) (by simp)).1
    · exact (foot_p (d := d) (m := m) (l := A ++ q :: B) (by simp)).2
  · intro i hi
    rw [foot_mid] at hi ⊢
    simp only [List.cons_append, List.mem_cons, List.mem_append] at hi ⊢
    have := hk.1
    rcases ha with rfl | ha
    · exact .inl hi
    · rcases hi with h | h | h | h | h | h
      · exact .inl (.inl h)
      · exact .inl (.inr (.inl h))
      · exact .inl (.inr (.inr (.inl h)))
      · exact .inl (.inr (.inr (.inr (.inl h))))
      · exact .inr (by omega)
      · exact .inl (.inr (.inr (.inr (.inr (.inr h)))))

def appendD (D : Dk) (name s : Bs) : Int × Dk :=
  if (doI (mayN name) D.fu D.off).1 = 0 then (match fileOf D.files name with
    | some f => if 4194304 - f.bytes.length < s.length then (2, D.did (mayN name)) else (0, ⟨updF D.files name (fun f => ⟨f.name, f.bytes ++ s, f.sure⟩), (D.did (mayN name)).fu, (D.did (mayN name)).off⟩)
    | none => (3, D.did (mayN name))) else ((doI (mayN name) D.fu D.off).1, D.did (mayN name))

theorem append_tri (X : List O) {d : Nat} {D : Dk} {F : List Nat} (hD : IsD X d D F) (name s : Bs) (hs : s.length ≤ 70368744177664) :
    Tri Tryz.prog 130 [.ptr d 0, .str name, .str s] X (fun v Y => v = .int .i64 (appendD D name s).1 ∧ After X d F (appendD D name s).2 Y) := by
  obtain ⟨m, l, hat, hfs, rfl⟩ := hD
  refine Tri.of_run' Tryz.func130 rfl c130_ok (by simp [Tryz.ntmps130]) ?_
  have hft := find_tri X hat name
  (repeat (first | refine Run.adm rfl ?_ | refine Run.seq ?_ | ((first | apply Run.opS rfl | apply Run.condS); (· (simp -implicitDefEqProofs; first | exact ⟨rfl, rfl⟩ | exact rfl)))))
  refine Run.opC rfl rfl rfl hft ?_
  rintro v Y ⟨rfl, hY, hk⟩
  have hk' : Kept X Y (foot d m l) := hk.mono (by simp [foot])
  have hdid : ∀ n, ∀ {k t}, AtEnd k → t 6 = .int .i64 n → appendD D name s = (n, D.did (mayN name)) → Run ⟨Tryz.prog, 130, Tryz.f130.ntmps, X, fun v Y => v = .int .i64 (appendD D name s).1 ∧ After X d (foot d m l) (appendD D name s).2 Y⟩ ⟨k, t, Y⟩ := by
    intro n k t hk h6 he
    refine Run.sl [(6, .int .i64 n)] (by simp [h6]) ?_
    refine Run.retS Tryz.func130 r130_ok hk (by simp [r130]; rfl) ?_
    rw [he]
    exact ⟨by simp, _, ⟨m, l, hY, hfs, rfl⟩, hk', Grown.refl _ _⟩
  have hfo := fileOf_find l name
  rw [hfs] at hfo
  by_cases h0 : (doI (mayN name) D.fu D.off).1 = 0
  rotate_left
  · (repeat (first | refine Run.adm rfl ?_ | refine Run.seq ?_ | ((first | apply Run.opS rfl | apply Run.condS); (· (simp -implicitDefEqProofs [findR, h0]; first | exact ⟨rfl, rfl⟩ | exact rfl)))))
    exact hdid (doI (mayN name) D.fu D.off).1 trivial (by simp) (by simp [appendD, h0])
  cases hf : findF l name with
  | none =>
    rw [hf] at hfo
    (repeat (first | refine Run.adm rfl ?_ | refine Run.seq ?_ | ((first | apply Run.opS rfl | apply Run.condS); (· (simp -implicitDefEqProofs [findR, h0, hf]; first | exact ⟨rfl, rfl⟩ | exact rfl)))))
    exact hdid 3 trivial (by simp) (by simp [appendD, h0, hfo])
  | some q =>
    rw [hf] at hfo
    obtain ⟨A, B, rfl, hqn, -⟩ := find_split hf
    obtain ⟨f1, f2⟩ := hY.file q (by simp)
    obtain ⟨b1, b2⟩ := hY.ok q (by simp)
    have hw := wrap_small (n := 4194304 - (q.f.bytes.length : Int)) (by omega) (by omega)
    by_cases hbig : 4194304 - q.f.bytes.length < s.length
    · have hbig' : (4194304 : Int) - q.f.bytes.length < s.length := by omega
      (repeat (first | refine Run.adm rfl ?_ | refine Run.seq ?_ | ((first | apply Run.opS rfl | apply Run.condS); (· (simp -implicitDefEqProofs [findR, h0, hf, f1, hw, hbig']; first | exact ⟨rfl, rfl⟩ | exact rfl)))))
      exact hdid 2 trivial (by simp) (by simp [appendD, h0, hfo, hbig])
    · have hbig' : ¬ (4194304 : Int) - q.f.bytes.length < s.length := by omega
      (repeat (first | refine Run.adm rfl ?_ | refine Run.seq ?_ | ((first | apply Run.opS rfl | apply Run.condS); (· (simp -implicitDefEqProofs [findR, h0, hf, f1, hw, hbig']; first | exact ⟨rfl, rfl⟩ | exact rfl)))))
      obtain ⟨n1, n2, n3, n4, n5⟩ := hY.ne.2 q (by simp)
      refine Run.opAB (v := .sl Y.length 0 (q.f.bytes.length + s.length) 1 none) (h' := Y.set q.a .gone ++ [.arr (byteEls q.f.bytes ++ byteEls s) 1]) rfl rfl (by simp [f2, byteEls_len]; omega) ?_
      have g1 : ∀ L, (Y.set q.a .gone ++ L)[q.p]? = some (.row [.sl q.a 0 q.f.bytes.length 1 none, .int .i64 q.f.sure]) := getA (by rw [setN (Ne.symm n5)]; exact f1)
      obtain ⟨Y2, hY2⟩ : ∃ Y2, Y2 = Y.set q.a .gone ++ [O.arr (byteEls q.f.bytes ++ byteEls s) 1] := ⟨_, rfl⟩
      have g2 : Y2[q.p]? = _ := hY2 ▸ g1 _
      have g3 : Y2[Y.length]? = some (.arr (byteEls q.f.bytes ++ byteEls s) 1) := by rw [hY2]; simp
      have g4 : Kept Y Y2 [q.p, q.a] := hY2 ▸ ((Kept.refl Y _).set _ _ (.inl (by simp))).app _
      have g5 : q.p ≠ Y.length := by have := lt_of_get f1; omega
      rw [← hY2]
      (repeat (first | refine Run.adm rfl ?_ | refine Run.seq ?_ | ((first | apply Run.opS rfl | apply Run.condS); (· (simp -implicitDefEqProofs [g2]; first | exact ⟨rfl, rfl⟩ | exact rfl)))))
      refine Run.retS Tryz.func130 r130_ok trivial (by simp [r130]; rfl) ?_
      have he : appendD D name s = (0, ⟨updF D.files q.f.name (fun f => ⟨f.name, f.bytes ++ s, f.sure⟩), (D.did (mayN name)).fu, (D.did (mayN name)).off⟩) := by simp [appendD, h0, hfo, hbig, hqn]
      rw [he]
      refine ⟨by simp, after_upd hfs hY hk (fun f => ⟨f.name, f.bytes ++ s, f.sure⟩) rfl (a' := Y.length) ?_ ?_ (.inr (Nat.le_refl _)) (g4.set _ _ (.inl (by simp))) ?_⟩
      · simp only [List.length_append]; exact setG g2 _
      · rw [setN g5, g3, byteEls_app]
      · simp only [List.length_append]; omega

end Go.Proofs.YthphkcpbglhabaaGreatDoor
