/-
  Texts of this claim, laid together by a program (wip/tools/shrink.py).
-/
import Derived.Test.YthphkcpbglhabaaGreatDoorAd4
import Derived.StringKeys
import Derived.Laws.RangeString
import Derived.Carry
import Derived.Below
import GoSem.ClaimJoined
import Derived.WalkKit
import Derived.BigCall
import Derived.Shelf.Strconv.AtoiAll
namespace Go.Proofs.YthphkcpbglhabaaGreatDoor
open Sx Go
set_option maxRecDepth 100000
set_option linter.unusedSimpArgs false
set_option linter.unusedVariables false
set_option linter.unnecessarySimpa false
attribute [local simp] stepV condR boundsC appendG appendO copyV srcC guardB isCall opStep Opd.ev put readAt aBin aUn args0 V.celled V.ones V.one V.cells putAt bounds bound1 elemsOf srcOf appendV fillAt fillEl V.pures V.pure unwind evs ARes.ev mkRes V.ren V.renL O.ren eqCells eq1 aEq aMM hasTy hasTyN okTy mmGo Known HLe OLe VsLe.refl VLe.refl VLe.cap Stay VsLe V.frz V.frzL O.frz fr clearV rn KnownR Objs OLeO ObjsE nm back V.calls setAll ren_ite take_map_len List.take_of_length_le
attribute [local simp ↓] upd_app tl_cons tl_nil
attribute [local simp] encS_ren encS_ones encS_len encS_take KnownS VLe.refl
structure Dk where
 files : List FileM
 fu : Int
 off : Bool
def IsD (X : List O) (d : Nat) (D : Dk) (F : List Nat) : Prop := ∃ m l, DiskAt X d m l D.fu D.off ∧ l.map (·.f) = D.files ∧ F = foot d m l
def Grown (X : List O) (F F' : List Nat) : Prop := ∀ i ∈ F', i ∈ F ∨ X.length ≤ i
theorem Grown.refl (X F) : Grown X F F := fun _ h => .inl h
def After (X : List O) (d : Nat) (F : List Nat) (D : Dk) (Y : List O) : Prop := ∃ F', IsD Y d D F' ∧ Kept X Y F ∧ Grown X F F'
theorem nodup_mid {α : Type} {A B : List α} {x : α} : (A ++ x :: B).Nodup ↔ x ∉ A ++ B ∧ (A ++ B).Nodup := by
 rw [List.perm_middle.nodup_iff, List.nodup_cons]
theorem foot_mid (d m : Nat) (A B : List FP) (q : FP) : foot d m (A ++ q :: B) = (d :: m :: (A.flatMap fun q => [q.p, q.a])) ++ q.p :: q.a :: (B.flatMap fun q => [q.p, q.a]) := by
 simp [foot]
theorem DiskAt.upd {X Y : List O} {d m : Nat} {A B : List FP} {q : FP} {fu : Int} {off : Bool} (h : DiskAt X d m (A ++ q :: B) fu off) {f' : FileM} {a' : Nat} (hn : f'.name = q.f.name)
  (h1 : Y[q.p]? = some (.row [.sl a' 0 f'.bytes.length 1 none, .int .i64 f'.sure])) (h2 : Y[a']? = some (.arr (byteEls f'.bytes) 1)) (ha : a' = q.a ∨ X.length ≤ a') (hk : Kept X Y [q.p, q.a]) (hok : f'.bytes.length ≤ 4194304 ∧ f'.sure ≤ f'.bytes.length) :
  DiskAt Y d m (A ++ ⟨f', q.p, a'⟩ :: B) fu off := by
 obtain ⟨e1, e2⟩ := h.ne
 obtain ⟨g1, g2, g3, g4, g5⟩ := e2 q (by simp)
 have hnd := h.nd
 rw [foot_mid, nodup_mid] at hnd
 have hlt := h.lt
 have hoth : ∀ r ∈ A ++ B, r.p ≠ q.p ∧ r.p ≠ q.a ∧ r.a ≠ q.p ∧ r.a ≠ q.a := by
  intro r hr
  have m1 : r.p ∈ (A.flatMap fun q => [q.p, q.a]) ++ (B.flatMap fun q => [q.p, q.a]) ∧ r.a ∈ (A.flatMap fun q => [q.p, q.a]) ++ (B.flatMap fun q => [q.p, q.a]) := by
   rw [← List.flatMap_append]
   exact ⟨List.mem_flatMap.2 ⟨r, hr, by simp⟩, List.mem_flatMap.2 ⟨r, hr, by simp⟩⟩
  obtain ⟨n1, n2⟩ := hnd
  rw [nodup_mid] at n2
  obtain ⟨n2, -⟩ := n2
  simp only [List.cons_append, List.mem_cons, List.mem_append, not_or] at n1 n2
  obtain ⟨m1, m2⟩ := m1
  rw [List.mem_append] at m1 m2
  refine ⟨fun e => ?_, fun e => ?_, fun e => ?_, fun e => ?_⟩
  ·rw [e] at m1; rcases m1 with x | x
   ·exact n1.2.2.1 x
   ·exact n1.2.2.2.2 x
  ·rw [e] at m1; rcases m1 with x | x
   ·exact n2.2.2.1 x
   ·exact n2.2.2.2 x
  ·rw [e] at m2; rcases m2 with x | x
   ·exact n1.2.2.1 x
   ·exact n1.2.2.2.2 x
  ·rw [e] at m2; rcases m2 with x | x
   ·exact n2.2.2.1 x
   ·exact n2.2.2.2 x
 refine ⟨hk.get h.row (by simp [Ne.symm g1, Ne.symm g2]), ?_, fun r hr => ?_, ?_, ?_, h.fuse, by simpa using h.len, fun r hr => ?_⟩
 ·have := hk.get h.map (by simp [Ne.symm g3, Ne.symm g4])
  rw [this]
  simp [entV, hn]
 ·rcases List.mem_append.1 hr with hr | hr
  ·obtain ⟨o1, o2, o3, o4⟩ := hoth r (List.mem_append_left _ hr)
   obtain ⟨f1, f2⟩ := h.file r (List.mem_append_left _ hr)
   exact ⟨hk.get f1 (by simp [o1, o2]), hk.get f2 (by simp [o3, o4])⟩
  ·rcases List.mem_cons.1 hr with rfl | hr
   ·exact ⟨h1, h2⟩
   ·obtain ⟨o1, o2, o3, o4⟩ := hoth r (List.mem_append_right _ hr)
    obtain ⟨f1, f2⟩ := h.file r (List.mem_append_right _ (List.mem_cons_of_mem _ hr))
    exact ⟨hk.get f1 (by simp [o1, o2]), hk.get f2 (by simp [o3, o4])⟩
 ·have hm := foot_mid d m A B ⟨f', q.p, a'⟩
  rw [hm]
  rcases ha with rfl | ha
  ·have := h.nd; rw [foot_mid] at this; exact this
  ·have hn2 := h.nd
   rw [foot_mid] at hn2
   have hall : ∀ i ∈ (d :: m :: (A.flatMap fun q => [q.p, q.a])) ++ q.p :: q.a :: (B.flatMap fun q => [q.p, q.a]), i < X.length := by rw [← foot_mid]; exact hlt
   generalize (d :: m :: (A.flatMap fun q => [q.p, q.a])) = U at *
   generalize (B.flatMap fun q => [q.p, q.a]) = W at *
   have e3 : U ++ q.p :: q.a :: W = (U ++ [q.p]) ++ q.a :: W := by simp
   have e4 : U ++ q.p :: a' :: W = (U ++ [q.p]) ++ a' :: W := by simp
   rw [e3, nodup_mid] at hn2
   show (U ++ q.p :: a' :: W).Nodup
   rw [e4, nodup_mid]
   refine ⟨fun hmem => ?_, hn2.2⟩
   have := hall a' (by rw [e3]; rcases List.mem_append.1 hmem with x | x; exact List.mem_append_left _ x; exact List.mem_append_right _ (List.mem_cons_of_mem _ x))
   omega
 ·have := h.names
  simpa [hn] using this
 ·rcases List.mem_append.1 hr with hr | hr
  ·exact h.ok r (List.mem_append_left _ hr)
  ·rcases List.mem_cons.1 hr with rfl | hr
   ·exact hok
   ·exact h.ok r (List.mem_append_right _ (List.mem_cons_of_mem _ hr))
def Dk.did (D : Dk) (ok : Bool) : Dk := ⟨D.files, (doI ok D.fu D.off).2.1, (doI ok D.fu D.off).2.2⟩
def fileOf (fs : List FileM) (name : Bs) : Option FileM := fs.find? (fun f => decide (f.name = name))
def updF (fs : List FileM) (name : Bs) (g : FileM → FileM) : List FileM := fs.map fun f => if f.name = name then g f else f
theorem find_split {l : List FP} {name : Bs} {q : FP} (h : findF l name = some q) : ∃ A B, l = A ++ q :: B ∧ q.f.name = name ∧ ∀ r ∈ A, r.f.name ≠ name := by
 unfold findF at h
 obtain ⟨h1, A, B, h2, h3⟩ := List.find?_eq_some_iff_append.1 h
 exact ⟨A, B, h2, by simpa using h1, fun r hr => by simpa using h3 r hr⟩
theorem fileOf_find (l : List FP) (name : Bs) : fileOf (l.map (·.f)) name = (findF l name).map (·.f) := by
 unfold fileOf findF
 induction l with
 | nil => rfl
 | cons q l ih =>
  by_cases h : q.f.name = name
  ·simp [h]
  ·simp only [List.map_cons, List.find?_cons, h, decide_false]; exact ih
theorem names_split {A B : List FP} {q : FP} (h : ((A ++ q :: B).map (·.f.name)).Nodup) : (∀ r ∈ A, r.f.name ≠ q.f.name) ∧ ∀ r ∈ B, r.f.name ≠ q.f.name := by
 rw [List.map_append, List.map_cons, nodup_mid, List.mem_append, not_or] at h
 exact ⟨fun r hr e => h.1.1 (List.mem_map.2 ⟨r, hr, e⟩), fun r hr e => h.1.2 (List.mem_map.2 ⟨r, hr, e⟩)⟩
theorem updF_split {A B : List FP} {q : FP} (h : ((A ++ q :: B).map (·.f.name)).Nodup) (g : FileM → FileM) (p a : Nat) :
  (A ++ ⟨g q.f, p, a⟩ :: B).map (·.f) = updF ((A ++ q :: B).map (·.f)) q.f.name g := by
 obtain ⟨h1, h2⟩ := names_split h
 simp only [updF, List.map_append, List.map_cons, List.map_map, if_true]
 congr 1
 ·exact List.map_congr_left fun r hr => by simp [h1 r hr]
 ·congr 1
  exact List.map_congr_left fun r hr => by simp [h2 r hr]
theorem after_upd {X Y Z : List O} {d m : Nat} {A B : List FP} {q : FP} {fs : List FileM} {fu : Int} {off : Bool} (hfs : (A ++ q :: B).map (·.f) = fs) (hY : DiskAt Y d m (A ++ q :: B) fu off) (hk : Kept X Y [d]) (g : FileM → FileM) (hg : (g q.f).name = q.f.name) {a' : Nat}
  (h1 : Z[q.p]? = some (.row [.sl a' 0 (g q.f).bytes.length 1 none, .int .i64 (g q.f).sure])) (h2 : Z[a']? = some (.arr (byteEls (g q.f).bytes) 1)) (ha : a' = q.a ∨ Y.length ≤ a') (hZ : Kept Y Z [q.p, q.a]) (hok : (g q.f).bytes.length ≤ 4194304 ∧ (g q.f).sure ≤ (g q.f).bytes.length) :
  After X d (foot d m (A ++ q :: B)) ⟨updF fs q.f.name g, fu, off⟩ Z := by
 have hat := hY.upd hg h1 h2 ha hZ hok
 refine ⟨_, ⟨m, _, hat, ?_, rfl⟩, (hk.trans hZ).mono ?_, ?_⟩
 ·rw [← hfs]; exact updF_split hY.names g q.p a'
 ·intro i hi
  simp only [List.cons_append, List.nil_append, List.mem_cons, List.not_mem_nil, or_false] at hi
  rcases hi with rfl | rfl | rfl
  ·simp [foot]
  ·exact (foot_p (d := d) (m := m) (l := A ++ q :: B) (by simp)).1
  ·exact (foot_p (d := d) (m := m) (l := A ++ q :: B) (by simp)).2
 ·intro i hi
  rw [foot_mid] at hi ⊢
  simp only [List.cons_append, List.mem_cons, List.mem_append] at hi ⊢
  have := hk.1
  rcases ha with rfl | ha
  ·exact .inl hi
  ·rcases hi with h | h | h | h | h | h
   ·exact .inl (.inl h)
   ·exact .inl (.inr (.inl h))
   ·exact .inl (.inr (.inr (.inl h)))
   ·exact .inl (.inr (.inr (.inr (.inl h))))
   ·exact .inr (by omega)
   ·exact .inl (.inr (.inr (.inr (.inr (.inr h)))))
def appendD (D : Dk) (name s : Bs) : Int × Dk :=
 if (doI (mayN name) D.fu D.off).1 = 0 then (match fileOf D.files name with
  | some f => if 4194304 - f.bytes.length < s.length then (2, D.did (mayN name)) else (0, ⟨updF D.files name (fun f => ⟨f.name, f.bytes ++ s, f.sure⟩), (D.did (mayN name)).fu, (D.did (mayN name)).off⟩)
  | none => (3, D.did (mayN name))) else ((doI (mayN name) D.fu D.off).1, D.did (mayN name))
theorem append_tri (X : List O) {d : Nat} {D : Dk} {F : List Nat} (hD : IsD X d D F) (name s : Bs) (hs : s.length ≤ 70368744177664) :
  Tri Tryz.prog 130 [.ptr d 0, .str name, .str s] X (fun v Y => v = .int .i64 (appendD D name s).1 ∧ After X d F (appendD D name s).2 Y) := by
 obtain ⟨m, l, hat, hfs, rfl⟩ := hD
 refine Tri.of_run' Tryz.func130 rfl c130_ok (by simp [Tryz.ntmps130]) ?_
 have hft := find_tri X hat name
 (repeat (first | refine Run.adm rfl ?_ | refine Run.seq ?_ | ((first | apply Run.opS rfl | apply Run.condS); (· (simp -implicitDefEqProofs; first | exact ⟨rfl, rfl⟩ | exact rfl)))))
 refine Run.opC rfl rfl rfl hft ?_
 rintro v Y ⟨rfl, hY, hk⟩
 have hk' : Kept X Y (foot d m l) := hk.mono (by simp [foot])
 have hdid : ∀ n, ∀ {k t}, AtEnd k → t 6 = .int .i64 n → appendD D name s = (n, D.did (mayN name)) → Run ⟨Tryz.prog, 130, Tryz.f130.ntmps, X, fun v Y => v = .int .i64 (appendD D name s).1 ∧ After X d (foot d m l) (appendD D name s).2 Y⟩ ⟨k, t, Y⟩ := by
  intro n k t hk h6 he
  refine Run.sl [(6, .int .i64 n)] (by simp [h6]) ?_
  refine Run.retS Tryz.func130 r130_ok hk (by simp [r130]; rfl) ?_
  rw [he]
  exact ⟨by simp, _, ⟨m, l, hY, hfs, rfl⟩, hk', Grown.refl _ _⟩
 have hfo := fileOf_find l name
 rw [hfs] at hfo
 by_cases h0 : (doI (mayN name) D.fu D.off).1 = 0
 rotate_left
 ·(repeat (first | refine Run.adm rfl ?_ | refine Run.seq ?_ | ((first | apply Run.opS rfl | apply Run.condS); (· (simp -implicitDefEqProofs [findR, h0]; first | exact ⟨rfl, rfl⟩ | exact rfl)))))
  exact hdid (doI (mayN name) D.fu D.off).1 trivial (by simp) (by simp [appendD, h0])
 cases hf : findF l name with
 | none =>
  rw [hf] at hfo
  (repeat (first | refine Run.adm rfl ?_ | refine Run.seq ?_ | ((first | apply Run.opS rfl | apply Run.condS); (· (simp -implicitDefEqProofs [findR, h0, hf]; first | exact ⟨rfl, rfl⟩ | exact rfl)))))
  exact hdid 3 trivial (by simp) (by simp [appendD, h0, hfo])
 | some q =>
  rw [hf] at hfo
  obtain ⟨A, B, rfl, hqn, -⟩ := find_split hf
  obtain ⟨f1, f2⟩ := hY.file q (by simp)
  obtain ⟨b1, b2⟩ := hY.ok q (by simp)
  have hw := wrap_small (n := 4194304 - (q.f.bytes.length : Int)) (by omega) (by omega)
  by_cases hbig : 4194304 - q.f.bytes.length < s.length
  ·have hbig' : (4194304 : Int) - q.f.bytes.length < s.length := by omega
   (repeat (first | refine Run.adm rfl ?_ | refine Run.seq ?_ | ((first | apply Run.opS rfl | apply Run.condS); (· (simp -implicitDefEqProofs [findR, h0, hf, f1, hw, hbig']; first | exact ⟨rfl, rfl⟩ | exact rfl)))))
   exact hdid 2 trivial (by simp) (by simp [appendD, h0, hfo, hbig])
  ·have hbig' : ¬ (4194304 : Int) - q.f.bytes.length < s.length := by omega
   (repeat (first | refine Run.adm rfl ?_ | refine Run.seq ?_ | ((first | apply Run.opS rfl | apply Run.condS); (· (simp -implicitDefEqProofs [findR, h0, hf, f1, hw, hbig']; first | exact ⟨rfl, rfl⟩ | exact rfl)))))
   obtain ⟨n1, n2, n3, n4, n5⟩ := hY.ne.2 q (by simp)
   refine Run.opAB (v := .sl Y.length 0 (q.f.bytes.length + s.length) 1 none) (h' := Y.set q.a .gone ++ [.arr (byteEls q.f.bytes ++ byteEls s) 1]) rfl rfl (by simp [f2, byteEls_len]; omega) ?_
   have g1 : ∀ L, (Y.set q.a .gone ++ L)[q.p]? = some (.row [.sl q.a 0 q.f.bytes.length 1 none, .int .i64 q.f.sure]) := getA (by rw [setN (Ne.symm n5)]; exact f1)
   obtain ⟨Y2, hY2⟩ : ∃ Y2, Y2 = Y.set q.a .gone ++ [O.arr (byteEls q.f.bytes ++ byteEls s) 1] := ⟨_, rfl⟩
   have g2 : Y2[q.p]? = _ := hY2 ▸ g1 _
   have g3 : Y2[Y.length]? = some (.arr (byteEls q.f.bytes ++ byteEls s) 1) := by rw [hY2]; simp
   have g4 : Kept Y Y2 [q.p, q.a] := hY2 ▸ ((Kept.refl Y _).set _ _ (.inl (by simp))).app _
   have g5 : q.p ≠ Y.length := by have := lt_of_get f1; omega
   rw [← hY2]
   (repeat (first | refine Run.adm rfl ?_ | refine Run.seq ?_ | ((first | apply Run.opS rfl | apply Run.condS); (· (simp -implicitDefEqProofs [g2]; first | exact ⟨rfl, rfl⟩ | exact rfl)))))
   refine Run.retS Tryz.func130 r130_ok trivial (by simp [r130]; rfl) ?_
   have he : appendD D name s = (0, ⟨updF D.files q.f.name (fun f => ⟨f.name, f.bytes ++ s, f.sure⟩), (D.did (mayN name)).fu, (D.did (mayN name)).off⟩) := by simp [appendD, h0, hfo, hbig, hqn]
   rw [he]
   refine ⟨by simp, after_upd hfs hY hk (fun f => ⟨f.name, f.bytes ++ s, f.sure⟩) rfl (a' := Y.length) ?_ ?_ (.inr (Nat.le_refl _)) (g4.set _ _ (.inl (by simp))) ?_⟩
   ·simp only [List.length_append]; exact setG g2 _
   ·rw [setN g5, g3, byteEls_app]
   ·simp only [List.length_append]; omega
attribute [local simp ↓] upd_app tl_cons tl_nil
def syncD (D : Dk) (name : Bs) : Int × Dk :=
 if (doI (mayN name) D.fu D.off).1 = 0 then (match fileOf D.files name with
  | some _ => (0, ⟨updF D.files name (fun f => ⟨f.name, f.bytes, f.bytes.length⟩), (D.did (mayN name)).fu, (D.did (mayN name)).off⟩)
  | none => (3, D.did (mayN name))) else ((doI (mayN name) D.fu D.off).1, D.did (mayN name))
theorem sync_tri (X : List O) {d : Nat} {D : Dk} {F : List Nat} (hD : IsD X d D F) (name : Bs) :
  Tri Tryz.prog 134 [.ptr d 0, .str name] X (fun v Y => v = .int .i64 (syncD D name).1 ∧ After X d F (syncD D name).2 Y) := by
 obtain ⟨m, l, hat, hfs, rfl⟩ := hD
 refine Tri.of_run' Tryz.func134 rfl c134_ok (by simp [Tryz.ntmps134]) ?_
 have hft := find_tri X hat name
 (repeat (first | refine Run.adm rfl ?_ | refine Run.seq ?_ | ((first | apply Run.opS rfl | apply Run.condS); (· (simp -implicitDefEqProofs; first | exact ⟨rfl, rfl⟩ | exact rfl)))))
 refine Run.opC rfl rfl rfl hft ?_
 rintro v Y ⟨rfl, hY, hk⟩
 have hk' : Kept X Y (foot d m l) := hk.mono (by simp [foot])
 have hfo := fileOf_find l name
 rw [hfs] at hfo
 have hend : ∀ n D', syncD D name = (n, D') → ∀ {Z}, After X d (foot d m l) D' Z → ∀ {k t}, AtEnd k → t 4 = .int .i64 n → Run ⟨Tryz.prog, 134, Tryz.f134.ntmps, X, fun v Y => v = .int .i64 (syncD D name).1 ∧ After X d (foot d m l) (syncD D name).2 Y⟩ ⟨k, t, Z⟩ := by
  intro n D' he Z hZ k t hk h4
  refine Run.sl [(4, .int .i64 n)] (by simp [h4]) ?_
  refine Run.retS Tryz.func134 r134_ok hk (by simp [r134]; rfl) ?_
  rw [he]
  exact ⟨by simp, hZ⟩
 by_cases h0 : (doI (mayN name) D.fu D.off).1 = 0
 rotate_left
 ·(repeat (first | refine Run.adm rfl ?_ | refine Run.seq ?_ | ((first | apply Run.opS rfl | apply Run.condS); (· (simp -implicitDefEqProofs [findR, h0]; first | exact ⟨rfl, rfl⟩ | exact rfl)))))
  exact hend (doI (mayN name) D.fu D.off).1 (D.did (mayN name)) (by simp [syncD, h0]) ⟨_, ⟨m, l, hY, hfs, rfl⟩, hk', Grown.refl _ _⟩ trivial (by simp)
 cases hf : findF l name with
 | none =>
  rw [hf] at hfo
  (repeat (first | refine Run.adm rfl ?_ | refine Run.seq ?_ | ((first | apply Run.opS rfl | apply Run.condS); (· (simp -implicitDefEqProofs [findR, h0, hf]; first | exact ⟨rfl, rfl⟩ | exact rfl)))))
  exact hend 3 (D.did (mayN name)) (by simp [syncD, h0, hfo]) ⟨_, ⟨m, l, hY, hfs, rfl⟩, hk', Grown.refl _ _⟩ trivial (by simp)
 | some q =>
  rw [hf] at hfo
  obtain ⟨A, B, rfl, hqn, -⟩ := find_split hf
  obtain ⟨f1, f2⟩ := hY.file q (by simp)
  obtain ⟨b1, b2⟩ := hY.ok q (by simp)
  obtain ⟨n1, n2, n3, n4, n5⟩ := hY.ne.2 q (by simp)
  (repeat (first | refine Run.adm rfl ?_ | refine Run.seq ?_ | ((first | apply Run.opS rfl | apply Run.condS); (· (simp -implicitDefEqProofs [findR, h0, hf, f1]; first | exact ⟨rfl, rfl⟩ | exact rfl)))))
  refine hend 0 ⟨updF D.files q.f.name (fun f => ⟨f.name, f.bytes, f.bytes.length⟩), (D.did (mayN name)).fu, (D.did (mayN name)).off⟩ (by simp [syncD, h0, hfo, hqn]) (after_upd hfs hY hk (fun f => ⟨f.name, f.bytes, f.bytes.length⟩) rfl (a' := q.a) (setG f1 _) ?_ (.inl rfl) ((Kept.refl Y _).set _ _ (.inl (by simp))) ?_) trivial (by simp)
  ·rw [setN n5]; exact f2
  ·simp only; omega
def lookR (l : List FP) (name : Bs) (off : Bool) : V × Int := if mayN name = true then (if off = true then (.nilp, 50) else (match findF l name with | some q => (.ptr q.p 0, 0) | none => (.nilp, 3))) else (.nilp, 1)
theorem look_tri (X : List O) {d m : Nat} {l : List FP} {fu : Int} {off : Bool} (hd : DiskAt X d m l fu off) (name : Bs) :
  Tri Tryz.prog 89 [.ptr d 0, .str name] X (fun v Y => v = .tup [(lookR l name off).1, .int .i64 (lookR l name off).2] ∧ Kept X Y []) := by
 refine Tri.of_run' Tryz.func89 rfl c89_ok (by simp [Tryz.ntmps89]) ?_
 (repeat (first | refine Run.adm rfl ?_ | refine Run.seq ?_ | ((first | apply Run.opS rfl | apply Run.condS); (· (simp -implicitDefEqProofs; first | exact ⟨rfl, rfl⟩ | exact rfl)))))
 refine Run.frzS X.length (es := [[.str name]]) (sz := 1) (by simp) ?_
 refine run_to [(0, .ptr d 0), (1, .str name), (8, .ptr d 0), (10, .vs ([name].map encS) 1)] (fun Y => Kept X Y []) (by simp [encS]) (((Kept.refl X []).app _).set _ _ (.inr (by omega))) ?_
 intro Y hY
 have hdY := hY.get hd.row (by simp)
 have hmY := hY.get hd.map (by simp)
 have hall : [name].all mayN = mayN name := by simp
 have hmy := may_tri Y hdY [name] (by simp)
 rw [hall] at hmy
 (repeat (first | refine Run.adm rfl ?_ | refine Run.seq ?_ | ((first | apply Run.opS rfl | apply Run.condS); (· (simp -implicitDefEqProofs; first | exact ⟨rfl, rfl⟩ | exact rfl)))))
 refine Run.opC rfl rfl rfl hmy ?_
 rintro v Z ⟨rfl, hZ⟩
 rw [hZ]
 clear hZ
 cases hm : mayN name with
 | false =>
  (repeat (first | refine Run.adm rfl ?_ | refine Run.seq ?_ | ((first | apply Run.opS rfl | apply Run.condS); (· (simp -implicitDefEqProofs; first | exact ⟨rfl, rfl⟩ | exact rfl)))))
  refine Run.retS Tryz.func89 r89_ok trivial (by simp [r89]; rfl) ?_
  exact ⟨by simp [lookR, hm], hY⟩
 | true =>
 rcases mFind_file name l 0 with ⟨j, q, h1, h2, h3, h4⟩ | ⟨h1, h2, h3⟩
 ·simp only [Nat.zero_add] at h3
  have h1' : (l.map entV)[j]? = some (entV q) := by rw [List.getElem?_map, h1]; rfl
  cases off with
  | true =>
   (repeat (first | refine Run.adm rfl ?_ | refine Run.seq ?_ | ((first | apply Run.opS rfl | apply Run.condS); (· (simp -implicitDefEqProofs [hdY, hmY, h3, h1', h1, entV]; first | exact ⟨rfl, rfl⟩ | exact rfl)))))
   refine Run.retS Tryz.func89 r89_ok trivial (by simp [r89]; rfl) ?_
   exact ⟨by simp [lookR, hm], hY⟩
  | false =>
   (repeat (first | refine Run.adm rfl ?_ | refine Run.seq ?_ | ((first | apply Run.opS rfl | apply Run.condS); (· (simp -implicitDefEqProofs [hdY, hmY, h3, h1', h1, entV]; first | exact ⟨rfl, rfl⟩ | exact rfl)))))
   refine Run.retS Tryz.func89 r89_ok trivial (by simp [r89]; rfl) ?_
   exact ⟨by simp [lookR, hm, findF, h4], hY⟩
 ·cases off with
  | true =>
   (repeat (first | refine Run.adm rfl ?_ | refine Run.seq ?_ | ((first | apply Run.opS rfl | apply Run.condS); (· (simp -implicitDefEqProofs [hdY, hmY, h2]; first | exact ⟨rfl, rfl⟩ | exact rfl)))))
   refine Run.retS Tryz.func89 r89_ok trivial (by simp [r89]; rfl) ?_
   exact ⟨by simp [lookR, hm], hY⟩
  | false =>
   (repeat (first | refine Run.adm rfl ?_ | refine Run.seq ?_ | ((first | apply Run.opS rfl | apply Run.condS); (· (simp -implicitDefEqProofs [hdY, hmY, h2]; first | exact ⟨rfl, rfl⟩ | exact rfl)))))
   refine Run.retS Tryz.func89 r89_ok trivial (by simp [r89]; rfl) ?_
   exact ⟨by simp [lookR, hm, findF, h3], hY⟩
theorem DiskAt.keep {X Y d m l fu off} (h : DiskAt X d m l fu off) (hk : Kept X Y []) : DiskAt Y d m l fu off :=
 ⟨hk.get h.row (by simp), hk.get h.map (by simp), fun q hq => ⟨hk.get (h.file q hq).1 (by simp), hk.get (h.file q hq).2 (by simp)⟩, h.nd, h.names, h.fuse, h.len, h.ok⟩
theorem IsD.after {X Y d D F} (h : IsD X d D F) (hk : Kept X Y []) : After X d F D Y := by
 obtain ⟨m, l, h1, h2, rfl⟩ := h
 exact ⟨_, ⟨m, l, h1.keep hk, h2, rfl⟩, hk.mono (by simp), Grown.refl _ _⟩
def lookE (D : Dk) (name : Bs) : Int := if mayN name = true then (if D.off = true then 50 else if (fileOf D.files name).isSome = true then 0 else 3) else 1
def readD (D : Dk) (name : Bs) : Bs × Int := if lookE D name = 0 then (match fileOf D.files name with | some f => (f.bytes, 0) | none => ([], 3)) else ([], lookE D name)
def sureD (D : Dk) (name : Bs) : Int × Int := if lookE D name = 0 then (match fileOf D.files name with | some f => (f.sure, 0) | none => (0, 3)) else (0, lookE D name)
theorem look_cases {X : List O} {d m : Nat} {l : List FP} {D : Dk} (hd : DiskAt X d m l D.fu D.off) (hfs : l.map (·.f) = D.files) (name : Bs) :
  (∃ q ∈ l, findF l name = some q ∧ fileOf D.files name = some q.f ∧ lookR l name D.off = (.ptr q.p 0, 0) ∧ lookE D name = 0) ∨ (lookR l name D.off = (.nilp, lookE D name) ∧ lookE D name ≠ 0) := by
 have hfo := fileOf_find l name
 rw [hfs] at hfo
 unfold lookR lookE
 cases mayN name with
 | false => exact .inr ⟨rfl, by simp⟩
 | true =>
  cases D.off with
  | true => exact .inr ⟨rfl, by simp⟩
  | false =>
   cases hf : findF l name with
   | none => rw [hf] at hfo; exact .inr ⟨by simp [hfo], by simp [hfo]⟩
   | some q =>
    rw [hf] at hfo
    obtain ⟨A, B, rfl, -, -⟩ := find_split hf
    exact .inl ⟨q, by simp, rfl, hfo, by simp, by simp [hfo]⟩
theorem read_tri (X : List O) {d : Nat} {D : Dk} {F : List Nat} (hD : IsD X d D F) (name : Bs) :
  Tri Tryz.prog 73 [.ptr d 0, .str name] X (fun v Y => v = .tup [.str (readD D name).1, .int .i64 (readD D name).2] ∧ Kept X Y []) := by
 obtain ⟨m, l, hat, hfs, rfl⟩ := hD
 refine Tri.of_run' Tryz.func73 rfl c73_ok (by simp [Tryz.ntmps73]) ?_
 have hlk := look_tri X hat name
 (repeat (first | refine Run.adm rfl ?_ | refine Run.seq ?_ | ((first | apply Run.opS rfl | apply Run.condS); (· (simp -implicitDefEqProofs; first | exact ⟨rfl, rfl⟩ | exact rfl)))))
 refine Run.opC rfl rfl rfl hlk ?_
 rintro v Y ⟨rfl, hk⟩
 rcases look_cases hat hfs name with ⟨q, hq, h1, h2, h3, h4⟩ | ⟨h1, h2⟩
 ·obtain ⟨f1, f2⟩ := (hat.keep hk).file q hq
  obtain ⟨b1, b2⟩ := hat.ok q hq
  have hby : bytesOf (byteEls q.f.bytes) = some q.f.bytes := bytesOf_byteEls _
  have htk := take_byteEls (l := q.f.bytes) (Nat.le_refl _)
  (repeat (first | refine Run.adm rfl ?_ | refine Run.seq ?_ | ((first | apply Run.opS rfl | apply Run.condS); (· (simp -implicitDefEqProofs [h3, f1, f2, hby, htk, byteEls_len]; first | exact ⟨rfl, rfl⟩ | exact rfl)))))
  refine Run.retS Tryz.func73 r73_ok trivial (by simp [r73]; rfl) ?_
  exact ⟨by simp [readD, h4, h2], hk⟩
 ·(repeat (first | refine Run.adm rfl ?_ | refine Run.seq ?_ | ((first | apply Run.opS rfl | apply Run.condS); (· (simp -implicitDefEqProofs [h1, h2]; first | exact ⟨rfl, rfl⟩ | exact rfl)))))
  refine Run.retS Tryz.func73 r73_ok trivial (by simp [r73]; rfl) ?_
  exact ⟨by simp [readD, h2], hk⟩
theorem sure_tri (X : List O) {d : Nat} {D : Dk} {F : List Nat} (hD : IsD X d D F) (name : Bs) :
  Tri Tryz.prog 47 [.ptr d 0, .str name] X (fun v Y => v = .tup [.int .i64 (sureD D name).1, .int .i64 (sureD D name).2] ∧ Kept X Y []) := by
 obtain ⟨m, l, hat, hfs, rfl⟩ := hD
 refine Tri.of_run' Tryz.func47 rfl c47_ok (by simp [Tryz.ntmps47]) ?_
 have hlk := look_tri X hat name
 (repeat (first | refine Run.adm rfl ?_ | refine Run.seq ?_ | ((first | apply Run.opS rfl | apply Run.condS); (· (simp -implicitDefEqProofs; first | exact ⟨rfl, rfl⟩ | exact rfl)))))
 refine Run.opC rfl rfl rfl hlk ?_
 rintro v Y ⟨rfl, hk⟩
 rcases look_cases hat hfs name with ⟨q, hq, h1, h2, h3, h4⟩ | ⟨h1, h2⟩
 ·obtain ⟨f1, f2⟩ := (hat.keep hk).file q hq
  (repeat (first | refine Run.adm rfl ?_ | refine Run.seq ?_ | ((first | apply Run.opS rfl | apply Run.condS); (· (simp -implicitDefEqProofs [h3, f1]; first | exact ⟨rfl, rfl⟩ | exact rfl)))))
  refine Run.retS Tryz.func47 r47_ok trivial (by simp [r47]; rfl) ?_
  exact ⟨by simp [sureD, h4, h2], hk⟩
 ·(repeat (first | refine Run.adm rfl ?_ | refine Run.seq ?_ | ((first | apply Run.opS rfl | apply Run.condS); (· (simp -implicitDefEqProofs [h1, h2]; first | exact ⟨rfl, rfl⟩ | exact rfl)))))
  refine Run.retS Tryz.func47 r47_ok trivial (by simp [r47]; rfl) ?_
  exact ⟨by simp [sureD, h2], hk⟩
theorem may0_tri (X : List O) {d m : Nat} {fu : Int} {off : Bool} (hd : X[d]? = some (.row [.mp m, .int .i64 fu, .bool off])) : Tri Tryz.prog 44 [.ptr d 0, .nils] X (fun v H => v = .bool true ∧ H = X) := by
 have h := may_tri X hd [] (by simp)
 have hv : VsLe [V.ptr d 0, .nils] [.ptr d 0, .vs (([] : List Bs).map encS) 1] := ⟨VLe.refl _, VLe.nils _, trivial⟩
 exact (Tri.args hv h).mono fun v H ⟨h1, h2⟩ => ⟨by simpa using h1, h2⟩
theorem off_tri (X : List O) {d : Nat} {D : Dk} {F : List Nat} (hD : IsD X d D F) : Tri Tryz.prog 17 [.ptr d 0] X (fun v Y => v = .bool D.off ∧ Y = X) := by
 obtain ⟨m, l, hat, hfs, rfl⟩ := hD
 refine Tri.of_run' Tryz.func17 rfl c17_ok (by simp [Tryz.ntmps17]) ?_
 (repeat (first | refine Run.adm rfl ?_ | refine Run.seq ?_ | ((first | apply Run.opS rfl | apply Run.condS); (· (simp -implicitDefEqProofs; first | exact ⟨rfl, rfl⟩ | exact rfl)))))
 refine Run.opC rfl rfl rfl (may0_tri X hat.row) ?_
 rintro v Y ⟨rfl, hY⟩
 rw [hY]
 (repeat (first | refine Run.adm rfl ?_ | refine Run.seq ?_ | ((first | apply Run.opS rfl | apply Run.condS); (· (simp -implicitDefEqProofs [hat.row]; first | exact ⟨rfl, rfl⟩ | exact rfl)))))
 refine Run.retS Tryz.func17 r17_ok trivial (by simp [r17]; rfl) ?_
 exact ⟨by simp, rfl⟩
theorem new_tri (X : List O) : Tri Tryz.prog 8 [] X (fun v Y => ∃ d F, v = .ptr d 0 ∧ IsD Y d ⟨[], -1, false⟩ F ∧ Kept X Y [] ∧ ∀ i ∈ F, X.length ≤ i) := by
 refine Tri.of_run' Tryz.func8 rfl c8_ok (by simp [Tryz.ntmps8]) ?_
 (repeat (first | refine Run.adm rfl ?_ | refine Run.seq ?_ | ((first | apply Run.opS rfl | apply Run.condS); (· (simp -implicitDefEqProofs; first | exact ⟨rfl, rfl⟩ | exact rfl)))))
 refine Run.retS Tryz.func8 r8_ok trivial (by simp [r8]; rfl) ?_
 refine ⟨X.length + 1, foot (X.length + 1) X.length [], by simp, ⟨X.length, [], ⟨by simp, by simp, by simp, by simp [foot], by simp, by simp, by simp, by simp⟩, rfl, rfl⟩, (Kept.refl X _).app _, by simp [foot]⟩
attribute [local simp ↓] upd_app tl_cons tl_nil
theorem DiskAt.reset {X Z : List O} {d m : Nat} {l l' : List FP} {fu : Int} {off : Bool} (h : DiskAt X d m l fu off) (hm : Z[m]? = some (.map (l'.map entV))) (hk : Kept X Z [m])
  (hs : ∀ q' ∈ l', ∃ q ∈ l, q'.p = q.p ∧ q'.a = q.a ∧ q'.f.bytes = q.f.bytes ∧ q'.f.sure = q.f.sure) (hnd : (foot d m l').Nodup) (hn : (l'.map (·.f.name)).Nodup) (hl : l'.length ≤ 256) : DiskAt Z d m l' fu off := by
 obtain ⟨e1, e2⟩ := h.ne
 refine ⟨hk.get h.row (by simpa using e1), hm, fun q' hq' => ?_, hnd, hn, h.fuse, hl, fun q' hq' => ?_⟩
 ·obtain ⟨q, hq, h1, h2, h3, h4⟩ := hs q' hq'
  obtain ⟨f1, f2⟩ := h.file q hq
  obtain ⟨n1, n2, n3, n4, n5⟩ := e2 q hq
  unfold FileAt
  rw [h1, h2, h3, h4]
  exact ⟨hk.get f1 (by simpa using n3), hk.get f2 (by simpa using n4)⟩
 ·obtain ⟨q, hq, h1, h2, h3, h4⟩ := hs q' hq'
  rw [h3, h4]; exact h.ok q hq
def delF (fs : List FileM) (name : Bs) : List FileM := fs.filter (fun f => !decide (f.name = name))
theorem delF_split {A B : List FP} {q : FP} (h : ((A ++ q :: B).map (·.f.name)).Nodup) : (A ++ B).map (·.f) = delF ((A ++ q :: B).map (·.f)) q.f.name := by
 obtain ⟨h1, h2⟩ := names_split h
 have e1 : (A.map (·.f)).filter (fun f => !decide (f.name = q.f.name)) = A.map (·.f) := List.filter_eq_self.2 fun f hf => by
  obtain ⟨r, hr, rfl⟩ := List.mem_map.1 hf
  simp [h1 r hr]
 have e2 : (B.map (·.f)).filter (fun f => !decide (f.name = q.f.name)) = B.map (·.f) := List.filter_eq_self.2 fun f hf => by
  obtain ⟨r, hr, rfl⟩ := List.mem_map.1 hf
  simp [h2 r hr]
 simp only [delF, List.map_append, List.map_cons, List.filter_append, e1]
 simp [e2]
theorem foot_sub (d m : Nat) (A B : List FP) (q : FP) : (foot d m (A ++ B)).Sublist (foot d m (A ++ q :: B)) := by
 unfold foot
 refine List.Sublist.cons_cons _ (List.Sublist.cons_cons _ ?_)
 rw [List.flatMap_append, List.flatMap_append, List.flatMap_cons]
 exact List.Sublist.append (List.Sublist.refl _) (List.sublist_append_right _ _)
theorem DiskAt.del {X Z : List O} {d m : Nat} {A B : List FP} {q : FP} {fu : Int} {off : Bool} (h : DiskAt X d m (A ++ q :: B) fu off) (hm : Z[m]? = some (.map ((A ++ B).map entV))) (hk : Kept X Z [m]) : DiskAt Z d m (A ++ B) fu off := by
 refine h.reset hm hk (fun r hr => ⟨r, ?_, rfl, rfl, rfl, rfl⟩) (h.nd.sublist (foot_sub d m A B q)) ?_ ?_
 ·rcases List.mem_append.1 hr with x | x
  ·exact List.mem_append_left _ x
  ·exact List.mem_append_right _ (List.mem_cons_of_mem _ x)
 ·have := h.names
  rw [List.map_append, List.map_cons, nodup_mid] at this
  rw [List.map_append]; exact this.2
 ·have := h.len
  simp only [List.length_append, List.length_cons] at this ⊢; omega
theorem mFind_split {A B : List FP} {q : FP} (h : ∀ r ∈ A, r.f.name ≠ q.f.name) : ∀ i, mFind 1 (.str q.f.name) ((A ++ q :: B).map entV) i = some (some (i + A.length)) := by
 induction A with
 | nil => intro i; simp [mFind, entV, kEq]
 | cons x A ih =>
  intro i
  have hx : ¬ q.f.name = x.f.name := fun e => h x (by simp) e.symm
  simp only [List.cons_append, List.map_cons, mFind, entV, kEq, hx, if_true, decide_false]
  have := ih (fun r hr => h r (List.mem_cons_of_mem _ hr)) (i + 1)
  rw [this]; simp only [List.length_cons]; congr 2; omega
def removeD (D : Dk) (name : Bs) : Int × Dk :=
 if (doI (mayN name) D.fu D.off).1 = 0 then (match fileOf D.files name with
  | some _ => (0, ⟨delF D.files name, (D.did (mayN name)).fu, (D.did (mayN name)).off⟩)
  | none => (3, D.did (mayN name))) else ((doI (mayN name) D.fu D.off).1, D.did (mayN name))
theorem remove_tri (X : List O) {d : Nat} {D : Dk} {F : List Nat} (hD : IsD X d D F) (name : Bs) :
  Tri Tryz.prog 71 [.ptr d 0, .str name] X (fun v Y => v = .int .i64 (removeD D name).1 ∧ After X d F (removeD D name).2 Y) := by
 obtain ⟨m, l, hat, hfs, rfl⟩ := hD
 refine Tri.of_run' Tryz.func71 rfl c71_ok (by simp [Tryz.ntmps71]) ?_
 have hft := find_tri X hat name
 (repeat (first | refine Run.adm rfl ?_ | refine Run.seq ?_ | ((first | apply Run.opS rfl | apply Run.condS); (· (simp -implicitDefEqProofs; first | exact ⟨rfl, rfl⟩ | exact rfl)))))
 refine Run.opC rfl rfl rfl hft ?_
 rintro v Y ⟨rfl, hY, hk⟩
 have hk' : Kept X Y (foot d m l) := hk.mono (by simp [foot])
 have hfo := fileOf_find l name
 rw [hfs] at hfo
 have hend : ∀ n D', removeD D name = (n, D') → ∀ {Z}, After X d (foot d m l) D' Z → ∀ {k t}, AtEnd k → t 4 = .int .i64 n → Run ⟨Tryz.prog, 71, Tryz.f71.ntmps, X, fun v Y => v = .int .i64 (removeD D name).1 ∧ After X d (foot d m l) (removeD D name).2 Y⟩ ⟨k, t, Z⟩ := by
  intro n D' he Z hZ k t hk h4
  refine Run.sl [(4, .int .i64 n)] (by simp [h4]) ?_
  refine Run.retS Tryz.func71 r71_ok hk (by simp [r71]; rfl) ?_
  rw [he]
  exact ⟨by simp, hZ⟩
 by_cases h0 : (doI (mayN name) D.fu D.off).1 = 0
 rotate_left
 ·(repeat (first | refine Run.adm rfl ?_ | refine Run.seq ?_ | ((first | apply Run.opS rfl | apply Run.condS); (· (simp -implicitDefEqProofs [findR, h0]; first | exact ⟨rfl, rfl⟩ | exact rfl)))))
  exact hend (doI (mayN name) D.fu D.off).1 (D.did (mayN name)) (by simp [removeD, h0]) ⟨_, ⟨m, l, hY, hfs, rfl⟩, hk', Grown.refl _ _⟩ trivial (by simp)
 cases hf : findF l name with
 | none =>
  rw [hf] at hfo
  (repeat (first | refine Run.adm rfl ?_ | refine Run.seq ?_ | ((first | apply Run.opS rfl | apply Run.condS); (· (simp -implicitDefEqProofs [findR, h0, hf]; first | exact ⟨rfl, rfl⟩ | exact rfl)))))
  exact hend 3 (D.did (mayN name)) (by simp [removeD, h0, hfo]) ⟨_, ⟨m, l, hY, hfs, rfl⟩, hk', Grown.refl _ _⟩ trivial (by simp)
 | some q =>
  rw [hf] at hfo
  obtain ⟨A, B, rfl, rfl, hA⟩ := find_split hf
  have hmf := mFind_split (B := B) hA 0
  rw [Nat.zero_add] at hmf
  have her : ((A ++ q :: B).map entV).eraseIdx A.length = (A ++ B).map entV := by
   rw [List.map_append, List.map_cons, List.eraseIdx_append_of_length_le (by simp)]
   simp
  obtain ⟨M, hM⟩ : ∃ M, M = (A ++ q :: B).map entV := ⟨_, rfl⟩
  have hmap := hY.map
  rw [← hM] at hmf her hmap
  have haft : After X d (foot d m (A ++ q :: B)) ⟨delF D.files q.f.name, (D.did (mayN q.f.name)).fu, (D.did (mayN q.f.name)).off⟩ (Y.set m (.map ((A ++ B).map entV))) := by
   refine ⟨_, ⟨m, _, hY.del (setG hmap _) ((Kept.refl Y _).set _ _ (.inl (List.mem_singleton.2 rfl))), ?_, rfl⟩, (hk.trans ((Kept.refl Y [m]).set m _ (.inl (List.mem_singleton.2 rfl)))).mono ?_, fun i hi => .inl ((foot_sub d m A B q).subset hi)⟩
   ·rw [← hfs]; exact (delF_split hY.names)
   ·intro i hi
    simp only [List.cons_append, List.nil_append, List.mem_cons, List.not_mem_nil, or_false] at hi
    rcases hi with rfl | rfl <;> simp [foot]
  (repeat (first | refine Run.adm rfl ?_ | refine Run.seq ?_ | ((first | apply Run.opS rfl | apply Run.condS); (· (simp -implicitDefEqProofs [findR, h0, hf, hY.row, hmap, hmf, her]; first | exact ⟨rfl, rfl⟩ | exact rfl)))))
  rw [List.map_append] at haft
  exact hend 0 _ (by simp [removeD, h0, hfo]) haft trivial (by simp)
theorem DiskAt.add {X Z : List O} {d m : Nat} {l : List FP} {q : FP} {fu : Int} {off : Bool} (h : DiskAt X d m l fu off) (hm : Z[m]? = some (.map ((l ++ [q]).map entV))) (hk : Kept X Z [m]) (hq : FileAt Z q) (h1 : X.length ≤ q.p) (h2 : X.length ≤ q.a) (h3 : q.p ≠ q.a)
  (hn : ∀ r ∈ l, r.f.name ≠ q.f.name) (hl : l.length < 256) (hok : q.f.bytes.length ≤ 4194304 ∧ q.f.sure ≤ q.f.bytes.length) : DiskAt Z d m (l ++ [q]) fu off := by
 obtain ⟨e1, e2⟩ := h.ne
 have hlt := h.lt
 refine ⟨hk.get h.row (by simpa using e1), hm, fun r hr => ?_, ?_, ?_, h.fuse, by simp; omega, fun r hr => ?_⟩
 ·rcases List.mem_append.1 hr with hr | hr
  ·obtain ⟨f1, f2⟩ := h.file r hr
   obtain ⟨n1, n2, n3, n4, n5⟩ := e2 r hr
   exact ⟨hk.get f1 (by simpa using n3), hk.get f2 (by simpa using n4)⟩
  ·rw [List.mem_singleton.1 hr]; exact hq
 ·have e : foot d m (l ++ [q]) = foot d m l ++ [q.p, q.a] := by simp [foot]
  rw [e, List.nodup_append]
  refine ⟨h.nd, by simpa using h3, fun i hi j hj e => ?_⟩
  have := hlt i hi
  simp only [List.mem_cons, List.not_mem_nil, or_false] at hj
  omega
 ·rw [List.map_append, List.nodup_append]
  refine ⟨h.names, by simp, fun i hi j hj e => ?_⟩
  obtain ⟨r, hr, rfl⟩ := List.mem_map.1 hi
  simp only [List.map_cons, List.map_nil, List.mem_singleton] at hj
  exact hn r hr (e.trans hj)
 ·rcases List.mem_append.1 hr with hr | hr
  ·exact h.ok r hr
  ·rw [List.mem_singleton.1 hr]; exact hok
def makeD (D : Dk) (name : Bs) : Int × Dk :=
 if (doI (mayN name) D.fu D.off).1 = 0 then (if (fileOf D.files name).isSome = true then (1, D.did (mayN name)) else if 256 ≤ D.files.length then (2, D.did (mayN name))
  else (0, ⟨D.files ++ [⟨name, [], 0⟩], (D.did (mayN name)).fu, (D.did (mayN name)).off⟩)) else ((doI (mayN name) D.fu D.off).1, D.did (mayN name))
theorem make_tri (X : List O) {d : Nat} {D : Dk} {F : List Nat} (hD : IsD X d D F) (name : Bs) :
  Tri Tryz.prog 75 [.ptr d 0, .str name] X (fun v Y => v = .int .i64 (makeD D name).1 ∧ After X d F (makeD D name).2 Y) := by
 obtain ⟨m, l, hat, hfs, rfl⟩ := hD
 refine Tri.of_run' Tryz.func75 rfl c75_ok (by simp [Tryz.ntmps75]) ?_
 have hfo := fileOf_find l name
 rw [hfs] at hfo
 have hflen : D.files.length = l.length := by rw [← hfs, List.length_map]
 obtain ⟨R, hR⟩ : ∃ R, R = doI (mayN name) D.fu D.off := ⟨_, rfl⟩
 have hf2 := doI_fuse (ok := mayN name) (off := D.off) hat.fuse
 have hdid : D.did (mayN name) = ⟨D.files, R.2.1, R.2.2⟩ := by rw [hR]; rfl
 have hmk : makeD D name = if R.1 = 0 then (if (fileOf D.files name).isSome = true then (1, D.did (mayN name)) else if 256 ≤ D.files.length then (2, D.did (mayN name)) else (0, ⟨D.files ++ [⟨name, [], 0⟩], (D.did (mayN name)).fu, (D.did (mayN name)).off⟩)) else (R.1, D.did (mayN name)) := by rw [hR]; rfl
 rw [← hR] at hf2
 (repeat (first | refine Run.adm rfl ?_ | refine Run.seq ?_ | ((first | apply Run.opS rfl | apply Run.condS); (· (simp -implicitDefEqProofs; first | exact ⟨rfl, rfl⟩ | exact rfl)))))
 refine Run.frzS X.length (es := [[.str name]]) (sz := 1) (by simp) ?_
 refine run_to [(0, .ptr d 0), (1, .str name), (8, .ptr d 0), (10, .vs ([name].map encS) 1)] (fun Y => Kept X Y []) (by simp [encS]) (((Kept.refl X []).app _).set _ _ (.inr (by omega))) ?_
 intro Y hY
 have hdY := hY.get hat.row (by simp)
 have hall : [name].all mayN = mayN name := by simp
 have hdo := doing_tri Y hdY hat.fuse [name] (by simp)
 rw [hall, ← hR] at hdo
 (repeat (first | refine Run.adm rfl ?_ | refine Run.seq ?_ | ((first | apply Run.opS rfl | apply Run.condS); (· (simp -implicitDefEqProofs; first | exact ⟨rfl, rfl⟩ | exact rfl)))))
 refine Run.opC rfl rfl rfl hdo ?_
 rintro v Z ⟨rfl, rfl⟩
 have hk : Kept X (Y.set d (.row [.mp m, .int .i64 R.2.1, .bool R.2.2])) [d] := (hY.mono (by simp)).set _ _ (.inl (by simp))
 have hZ := hat.turn (setG hdY _) hk hf2
 generalize Y.set d (.row [.mp m, .int .i64 R.2.1, .bool R.2.2]) = Z at *
 have hk' : Kept X Z (foot d m l) := hk.mono (by simp [foot])
 have hend : ∀ n D', makeD D name = (n, D') → ∀ {W}, After X d (foot d m l) D' W → ∀ {k t}, AtEnd k → t 4 = .int .i64 n → Run ⟨Tryz.prog, 75, Tryz.f75.ntmps, X, fun v Y => v = .int .i64 (makeD D name).1 ∧ After X d (foot d m l) (makeD D name).2 Y⟩ ⟨k, t, W⟩ := by
  intro n D' he W hW k t hk h4
  refine Run.sl [(4, .int .i64 n)] (by simp [h4]) ?_
  refine Run.retS Tryz.func75 r75_ok hk (by simp [r75]; rfl) ?_
  rw [he]
  exact ⟨by simp, hW⟩
 have hsame : After X d (foot d m l) (D.did (mayN name)) Z := by rw [hdid]; exact ⟨_, ⟨m, l, hZ, hfs, rfl⟩, hk', Grown.refl _ _⟩
 by_cases h0 : R.1 = 0
 rotate_left
 ·(repeat (first | refine Run.adm rfl ?_ | refine Run.seq ?_ | ((first | apply Run.opS rfl | apply Run.condS); (· (simp -implicitDefEqProofs [h0]; first | exact ⟨rfl, rfl⟩ | exact rfl)))))
  exact hend R.1 (D.did (mayN name)) (by rw [hmk, if_neg h0]) hsame trivial (by simp)
 rcases mFind_file name l 0 with ⟨j, q, h1, h2, h3, h4⟩ | ⟨h1, h2, h3⟩
 ·simp only [Nat.zero_add] at h3
  have h1' : (l.map entV)[j]? = some (entV q) := by rw [List.getElem?_map, h1]; rfl
  (repeat (first | refine Run.adm rfl ?_ | refine Run.seq ?_ | ((first | apply Run.opS rfl | apply Run.condS); (· (simp -implicitDefEqProofs [h0, hZ.row, hZ.map, h3, h1', h1, entV]; first | exact ⟨rfl, rfl⟩ | exact rfl)))))
  refine hend 1 (D.did (mayN name)) ?_ hsame trivial (by simp)
  rw [hmk, if_pos h0, if_pos]
  rw [hfo]; simp [findF, h4]
 have hnone : fileOf D.files name = none := by rw [hfo]; simp [findF, h3]
 by_cases hful : 256 ≤ l.length
 ·have hful' : (256 : Int) ≤ l.length := by omega
  (repeat (first | refine Run.adm rfl ?_ | refine Run.seq ?_ | ((first | apply Run.opS rfl | apply Run.condS); (· (simp -implicitDefEqProofs [h0, hZ.row, hZ.map, h2, hful, hful']; first | exact ⟨rfl, rfl⟩ | exact rfl)))))
  refine hend 2 (D.did (mayN name)) ?_ hsame trivial (by simp)
  rw [hmk, if_pos h0, if_neg (by simp [hnone]), if_pos (by omega)]
 have hful' : ¬ (256 : Int) ≤ l.length := by omega
 have hne := hZ.ne
 (repeat (first | refine Run.adm rfl ?_ | refine Run.seq ?_ | ((first | apply Run.opS rfl | apply Run.condS); (· (simp -implicitDefEqProofs [h0, hZ.row, hZ.map, h2, hful, hful', getA hZ.map, kEq]; first | exact ⟨rfl, rfl⟩ | exact rfl)))))
 have hmlt := lt_of_get hZ.map
 have hmz : m ≠ Z.length := by omega
 obtain ⟨W0, hW0⟩ : ∃ W0, W0 = (Z ++ [O.row [V.nils, V.int .i64 0]]).set m (O.map (l.map entV ++ [(V.str name, V.ptr Z.length 0)])) := ⟨_, rfl⟩
 have w1 : W0[Z.length]? = some (.row [.nils, .int .i64 0]) := by rw [hW0, setN hmz]; simp
 have w2 : W0[m]? = some (.map (l.map entV ++ [(V.str name, V.ptr Z.length 0)])) := by rw [hW0]; exact setG (getA hZ.map _) _
 have w3 : Kept Z W0 [m] := hW0 ▸ ((Kept.refl Z _).app _).set _ _ (.inl (by simp))
 have w4 : W0.length = Z.length + 1 := by rw [hW0]; simp
 rw [← hW0]
 refine Run.nilC Z.length 0 1 5 w1 rfl ?_
 have haft : After X d (foot d m l) ⟨D.files ++ [⟨name, [], 0⟩], (D.did (mayN name)).fu, (D.did (mayN name)).off⟩ (W0.set Z.length (O.row ([V.nils, V.int .i64 0].set 0 (V.sl W0.length 0 0 1 none))) ++ [O.arr [] 1, O.ty W0.length 5 none]) := by
  have hk2 : Kept Z (W0.set Z.length (O.row ([V.nils, V.int .i64 0].set 0 (V.sl W0.length 0 0 1 none))) ++ [O.arr [] 1, O.ty W0.length 5 none]) [m] := (w3.set _ _ (.inr (Nat.le_refl _))).app _
  rw [hdid]
  refine ⟨_, ⟨m, l ++ [⟨⟨name, [], 0⟩, Z.length, W0.length⟩], hZ.add ?_ hk2 ⟨?_, ?_⟩ (Nat.le_refl _) (by simp only; omega) (by simp only; omega) (fun r hr => h1 r hr) (by omega) (by simp), by simp [hfs], rfl⟩, (hk.trans hk2).mono ?_, ?_⟩
  ·refine getA ?_ _
   rw [setN (Ne.symm hmz), w2]
   simp [entV]
  ·exact getA (setG w1 _) _
  ·rw [List.getElem?_append_right (by simp)]
   simp [byteEls]
  ·intro i hi
   simp only [List.cons_append, List.nil_append, List.mem_cons, List.not_mem_nil, or_false] at hi
   rcases hi with rfl | rfl <;> simp [foot]
  ·intro i hi
   have e : foot d m (l ++ [⟨⟨name, [], 0⟩, Z.length, W0.length⟩]) = foot d m l ++ [Z.length, W0.length] := by simp [foot]
   rw [e] at hi
   have := hk.1
   rcases List.mem_append.1 hi with hi | hi
   ·exact .inl hi
   ·simp only [List.mem_cons, List.not_mem_nil, or_false] at hi
    exact .inr (by omega)
 refine hend 0 _ ?_ haft trivial (by simp)
 rw [hmk, if_pos h0, if_neg (by simp [hnone]), if_neg (by omega)]
open Sx Go Go.RowKit Go.Maps Go.Sort Go.Shelf
attribute [local simp ↓] upd_app tl_cons tl_nil
theorem sorts27 (m : Nat) : AnyZ.SortsIn Tryz.prog Tryz.sorted87_ren Fence.wide m :=
  ⟨fun blk off cap ss W hH hblk hsz => callsIn_wide.2 (AnyM.slices_Sort_string Tryz.sort138 blk off cap ss W hH hblk hsz),
   fun p cap W => callsIn_wide.2 (AnyM.slices_Sort_string_none Tryz.sort138 p cap W)⟩
theorem keys_tri (X : List O) {m : Nat} {es : List (V × V)} (hm : X[m]? = some (.map es)) :
  Tri Tryz.prog 88 [.mp m] X (fun v H => v = .fn 139 [.ptr X.length 0] ∧ H = X ++ [.row [.mp m]] ++ [.ty X.length 86 none]) := by
 refine ⟨⟨Tryz.f88, Tryz.func88, by kernel_rfl, by kernel_rfl⟩, fun c w cargs hh hv => ?_⟩
 have hsz : cargs.size = 1 := by rw [← hv.1]; rfl
 have h0 := hv.2 0 (by simp) (by omega)
 simp only [List.getElem_cons_zero] at h0
 obtain ⟨p, ce, cl, hxc, hp, hn, hw, hst, hl, hv'⟩ := map_obj hh hm h0
 rw [args1 hsz, hxc]
 have w1 : (w.alloc (.cells #[.map (some p.block)] 86)).heap[w.heap.size]? = some (.cells #[.map (some p.block)] 86 (0, 0)) := heap_alloc_new w _
 have w2 : w.heap.size ≤ (w.alloc (.cells #[.map (some p.block)] 86)).heap.size := by simp only [World.alloc, Array.size_push]; omega
 have w3 : ∀ b, b < w.heap.size → (w.alloc (.cells #[.map (some p.block)] 86)).heap[b]? = w.heap[b]? := fun b hb => by
  simp only [World.alloc, Array.getElem?_push]; rw [if_neg (by omega)]
 have w4 : (w.alloc (.cells #[.map (some p.block)] 86)).os = w.os ∧ (w.alloc (.cells #[.map (some p.block)] 86)).output = w.output ∧ (w.alloc (.cells #[.map (some p.block)] 86)).tape = w.tape := ⟨rfl, rfl, rfl⟩
 refine Calls.mono (callsIn_wide.1 (AnyZ.keys_in Tryz.keys88 Fence.wide 5 trivial rfl (some p.block) w)) ?_
 rintro e w' ⟨rfl, hw'⟩
 obtain ⟨W, hW⟩ : ∃ W, W = w.alloc (.cells #[.map (some p.block)] 86) := ⟨_, rfl⟩
 rw [← hW] at w1 w2 w3 w4
 have hw2 : w' = W := by rw [hW]; exact hw'
 subst hw2
 obtain ⟨pl, hpl⟩ : ∃ pl : Sx.Place, pl = ⟨w.heap.size, 0, 1, false, 86⟩ := ⟨_, rfl⟩
 have hrow : ∀ m' : Pl, (∀ i q, c.m i = some q → m' i = some q) → ORel c.ro m' w' pl (.row [.mp m]) := fun m' hm' => by
  subst hpl
  refine ⟨#[.map (some p.block)], ⟨rfl, rfl, Nat.zero_le _, ⟨86, rfl⟩, (0, 0), w1, fun i _ => by omega⟩, Nat.le_refl _, fun i h h' => ?_⟩
  have h0i : i = 0 := by simp at h; exact h
  subst h0i
  exact .mp _ _ p (hm' _ _ hp) hn
 obtain ⟨g1, g2⟩ := hh.grow (w' := w') (.row [.mp m]) pl (fun _ => by rw [hpl]; exact Nat.le_refl _) w2 w3 w4.1 w4.2.1 w4.2.2 hrow
 obtain ⟨g3, g4⟩ := g1.grow (w' := w') (.ty X.length 86 none) ⟨0, 0, 0, true, 0⟩ (fun h => by cases h) (Nat.le_refl _) (fun _ _ => rfl) rfl rfl rfl (fun m' hm' => ⟨rfl, pl, hm' _ _ (by simp), fun _ => by subst hpl; exact ⟨rfl, rfl, fun _ h => by cases h⟩⟩)
 refine ⟨_, _, _, _, ⟨rfl, rfl⟩, rfl, ?_, g3, g2.trans hh g4⟩
 refine .fn _ _ _ _ rfl fun i h h' => ?_
 have : i = 0 := by simp at h; exact h
 subst this
 have := VRel.ptr (ro := c.ro) (fun i => if i = (X ++ [O.row [V.mp m]]).length then some (⟨0, 0, 0, true, 0⟩ : Sx.Place) else if i = X.length then some pl else c.m i) X.length 0 pl (by simp) (by rw [hpl])
 rw [hpl] at this ⊢
 exact this
def sortN (ns : List Bs) : List Bs := ns.mergeSort leB
theorem sorted_tri (X : List O) {k m : Nat} {l : List FP} (hk : X[k]? = some (.row [.mp m])) (ht : X[k + 1]? = some (.ty k 86 none)) (hm : X[m]? = some (.map (l.map entV))) (hlen : ∀ q ∈ l, q.f.name.length ≤ 32) (hl : l.length ≤ 256) :
  Tri Tryz.prog 87 [.fn 139 [.ptr k 0]] X (fun v H => v = .sl X.length 0 l.length 1 none ∧ H = X ++ [.arr ((sortN (l.map (·.f.name))).map encS) 1]) := by
 refine ⟨⟨Tryz.f87, Tryz.func87, by kernel_rfl, by kernel_rfl⟩, fun c w cargs hh hv => ?_⟩
 have hsz : cargs.size = 1 := by rw [← hv.1]; rfl
 have h0 := hv.2 0 (by simp) (by omega)
 simp only [List.getElem_cons_zero] at h0
 obtain ⟨cs, hb, hcs⟩ := h0.fn_inv
 have hcs1 : cs.size = 1 := by have := hcs.1; simpa using this.symm
 have hptr := hcs.2 0 (by simp) (by omega)
 simp only [List.getElem_cons_zero] at hptr
 obtain ⟨p, hp, ⟨cc, ⟨hpn, hcsz, -, ⟨el, hel⟩, fr, hw, -⟩, htop, hcell⟩, -⟩ := hh.obj k _ hk trivial
 obtain ⟨pt, -, ⟨-, q, hq, hqq⟩, -⟩ := hh.obj (k + 1) _ ht trivial
 rw [hp] at hq; cases hq
 obtain ⟨-, hbase, -⟩ := hqq hpn
 obtain ⟨pm, hpm, ⟨hmn, ce, cl, hmw, hst, hcl, hvs⟩, -⟩ := hh.obj m _ hm trivial
 have hcs0 : cs[0] = .pointer (some ⟨p.block, 0, none⟩) := by
  generalize cs[0] = y at hptr
  cases hptr with
  | ptr _ _ _ p' h1 h2 => rw [hp] at h1; cases h1; rw [hbase]
 simp only [List.length_cons, List.length_nil, Nat.zero_add, hbase] at htop hcell
 have hc0 : cc[0]? = some (.map (some pm.block)) := by
  have h1 := hcell 0 (by simp) (by omega)
  simp only [List.getElem_cons_zero, Nat.add_zero] at h1
  rw [Array.getElem?_eq_getElem (by omega)]
  generalize cc[0] = y at h1 ⊢
  cases h1 with
  | mp _ _ p' h1 h2 => rw [hpm] at h1; cases h1; rfl
 have hcell0 : w.cell? ⟨p.block, 0, none⟩ = some (.map (some pm.block)) := by simp [World.cell?, hw, hc0]
 have hkey : ∀ i (h : i < l.length) (h' : i < ce.size), ce[i].key = encStr l[i].f.name := fun i h h' => by
  have h1 := (hvs i (by simpa using h) h').1
  simp only [List.getElem_map, entV] at h1
  rw [h1.str_inv]
 rw [List.length_map] at hcl
 have hread : ∀ i (h : i < l.length) (h' : i < ce.size), WideElems.rd (H := Unit) Tryz.prog 9 (fun _ => some (.nil, [])) ce[i] = some (.string l[i].f.name, .nil) := fun i h h' => by
  have h1 := hkey i h h'
  have h2 : l[i].f.name.length ≤ maxLen := Nat.le_trans (hlen _ (List.getElem_mem h)) (by decide)
  have h3 : keyOf Tryz.prog 9 ce[i].key = some (.string l[i].f.name) := by
   rw [h1]
   exact WideMaps.keyOf_string_mk Tryz.underlying9 (show (l[i].f.name.toArray).size ≤ maxLen by rw [List.size_toArray]; exact h2)
  simp [WideElems.rd, h3]
 have hes : ce.toList.map (WideElems.rg (H := Unit) Tryz.prog 9 (fun _ => some (.nil, []))) = l.map (fun q => (Lit.string q.f.name, .nil)) := by
  refine List.ext_getElem (by simp [hcl]) fun i h1 h2 => ?_
  simp only [List.getElem_map, Array.getElem_toList]
  have h1' : i < ce.size := by simpa using h1
  have h2' : i < l.length := by simpa using h2
  exact WideElems.rg_of (hread i h2' h1')
 obtain ⟨D0, hD0⟩ : ∃ D0 : DataW Unit, D0 = .map ((l.map (fun q => (Lit.string q.f.name, DataW.nil))).foldr DataW.insert []) := ⟨_, rfl⟩
 have hown : w.ownsMap Tryz.prog 9 (fun _ => some (.nil, [])) pm.block 256 D0 := by
  refine ⟨ce, cl, hmw, ⟨?_, hst, fun x hx => ?_⟩, by omega, by rw [hes, hD0]⟩
  ·exact Nat.le_trans (by omega : ce.size ≤ 256) (by decide)
  ·obtain ⟨i, hi, rfl⟩ := List.getElem_of_mem hx
   have hi' : i < ce.size := by simpa using hi
   exact ⟨_, by rw [Array.getElem_toList]; exact hread i (by omega) hi'⟩
 have hpm : (strKeys D0).Perm (l.map (·.f.name)) := by
  rw [hD0]
  have := (WideShapes.sorted_perm (l.map (fun q => (Lit.string q.f.name, DataW.nil (H := Unit))))).map (fun p => strOf p.1)
  simpa [strKeys, strOf, Function.comp_def] using this
 have hsize : Maps.size D0 = l.length := by
  have := hpm.length_eq
  rw [hD0] at this ⊢
  simpa [strKeys, Maps.size] using this
 have hblt : p.block < w.heap.size := (Array.getElem?_eq_some_iff.1 hw).1
 rw [args1 hsz, hb, args1 hcs1, hcs0]
 have hseq : SeqGives Fence.wide 2 Tryz.prog 139 #[.pointer (some ⟨p.block, 0, none⟩)] encStr (fun ss => ss.Perm (strKeys D0)) (Maps.size D0) w :=
  AnyZ.keys_gives (ρ := Tryz.keys88_ren) { Tryz.keys88 with } Fence.wide _ trivial rfl (by omega) p.block pm.block 256 D0 w hblt hcell0 hown
 refine Calls.mono (callsIn_wide.1 (AnyZ.sorted_in Tryz.sorted87 Fence.wide 5 trivial trivial trivial trivial rfl (by omega) (sorts27 _) (enters_of Tryz.func138 (by kernel_rfl) rfl) 139 #[.pointer (some ⟨p.block, 0, none⟩)] trivial (enters_of Tryz.func139 (by kernel_rfl) rfl) _ _
  (by rw [hsize]; exact Nat.le_trans hl (by decide)) (by rw [hsize]; omega) _ hseq)) ?_
 rintro e w' ⟨v, ss, rfl, hss, ⟨hxl, hrow⟩, hnil, hbel⟩
 have hsl : ss.length = l.length := by have := (hss.trans hpm).length_eq; simpa using this
 have hsort : ss.mergeSort (fun x y => decide (x ≤ y)) = sortN (l.map (·.f.name)) := mergeSort_of_perm (hss.trans hpm)
 rw [hsort] at hrow hxl
 rw [hsl] at hrow hxl
 have hones : ∀ e ∈ (sortN (l.map (·.f.name))).map encS, V.ones e = true := fun e he => by
  obtain ⟨s, -, rfl⟩ := List.mem_map.1 he; rfl
 have hlens : ∀ i (h : i < ((sortN (l.map (·.f.name))).map encS).length), ((sortN (l.map (·.f.name))).map encS)[i].length = 1 := fun i h => by simp [encS]
 have hnl : ((sortN (l.map (·.f.name))).map encS).length = l.length := by simp [sortN]
 rcases hrow with ⟨rfl, hz⟩ | ⟨g, cap, cur, rfl, hg, hgw, hcap, -, hcur, htake⟩
 ·obtain ⟨g1, g2⟩ := hh.grow (w' := w') (.arr ((sortN (l.map (·.f.name))).map encS) 1) ⟨0, 0, 0, true, 0⟩ (fun h => by cases h) hbel.size hbel.block hbel.os hbel.output hbel.tape (fun m' _ => ⟨fun _ => by
   rw [← List.length_eq_zero_iff, hnl]; exact hz, hones, hlens, fun h => by cases h⟩)
  refine ⟨_, _, _, _, ⟨rfl, rfl⟩, rfl, ?_, g1, g2⟩
  rw [hz]
  exact .slnil _ _ _ ⟨0, 0, 0, true, 0⟩ _ (by simp) rfl
 ·obtain ⟨g1, g2⟩ := hh.grow (w' := w') (.arr ((sortN (l.map (·.f.name))).map encS) 1) ⟨g, 0, cur.size, false, 9⟩ (fun _ => hg) hbel.size hbel.block hbel.os hbel.output hbel.tape (fun m' _ => ⟨fun h => (by cases h), hones, hlens, fun _ =>
   ⟨cur, ⟨rfl, rfl, Nat.zero_le _, ⟨9, rfl⟩, (0, 0), hgw, fun i _ => by omega⟩, by rw [hnl, hcur]; simp only; omega, fun i hi j hj => by
    have hj0 : j = 0 := by rw [hlens i hi] at hj; omega
    subst hj0
    have hi' : i < (sortN (l.map (·.f.name))).length := by simpa using hi
    refine ⟨encStr (sortN (l.map (·.f.name)))[i], ?_, ?_⟩
    ·have h1 : (cur.toList.take (l.length * 1))[i]? = some (encStr (sortN (l.map (·.f.name)))[i]) := by
      rw [htake, List.getElem?_map, List.getElem?_eq_getElem hi']; rfl
     rw [List.getElem?_take] at h1
     split at h1
     ·simpa using h1
     ·cases h1
    ·simp only [List.getElem_map, encS, List.getElem_cons_zero]
     exact .str ..⟩⟩)
  refine ⟨_, _, _, _, ⟨rfl, rfl⟩, rfl, ?_, g1, g2⟩
  exact .sl _ _ 0 _ 1 cap 0 none ⟨g, 0, cur.size, false, 9⟩ (by simp) rfl hcap (.inl (by simp)) (fun _ => by simp only; omega) (fun x h => by cases h)
attribute [local simp ↓] upd_app tl_cons tl_nil
def NmOk (D : Dk) : Prop := ∀ f ∈ D.files, f.name.length ≤ 32
def namesD (D : Dk) : List Bs := sortN (D.files.map (·.name))
theorem names_tri (X : List O) {d : Nat} {D : Dk} {F : List Nat} (hD : IsD X d D F) (hn : NmOk D) : Tri Tryz.prog 45 [.ptr d 0] X (fun v Y => v = .vs ((namesD D).map encS) 1 ∧ Kept X Y []) := by
 obtain ⟨m, l, hat, hfs, rfl⟩ := hD
 refine Tri.of_run' Tryz.func45 rfl c45_ok (by simp [Tryz.ntmps45]) ?_
 (repeat (first | refine Run.adm rfl ?_ | refine Run.seq ?_ | ((first | apply Run.opS rfl | apply Run.condS); (· (simp -implicitDefEqProofs; first | exact ⟨rfl, rfl⟩ | exact rfl)))))
 refine Run.opC rfl rfl rfl (may0_tri X hat.row) ?_
 rintro v Y ⟨rfl, hY⟩
 rw [hY]
 clear hY
 (repeat (first | refine Run.adm rfl ?_ | refine Run.seq ?_ | ((first | apply Run.opS rfl | apply Run.condS); (· (simp -implicitDefEqProofs [hat.row]; first | exact ⟨rfl, rfl⟩ | exact rfl)))))
 refine Run.opC rfl rfl rfl (keys_tri X hat.map) ?_
 rintro v Y ⟨rfl, hY⟩
 have hkY : Kept X Y [] := by rw [hY]; exact ((Kept.refl X []).app _).app _
 have hk : Y[X.length]? = some (.row [.mp m]) := by rw [hY]; simp
 have ht : Y[X.length + 1]? = some (.ty X.length 86 none) := by rw [hY]; simp
 clear hY
 have hmY := hkY.get hat.map (by simp)
 have hln : ∀ q ∈ l, q.f.name.length ≤ 32 := fun q hq => hn q.f (by rw [← hfs]; exact List.mem_map_of_mem hq)
 (repeat (first | refine Run.adm rfl ?_ | refine Run.seq ?_ | ((first | apply Run.opS rfl | apply Run.condS); (· (simp -implicitDefEqProofs; first | exact ⟨rfl, rfl⟩ | exact rfl)))))
 refine Run.opC rfl rfl rfl (sorted_tri Y hk ht hmY hln hat.len) ?_
 rintro v Z ⟨rfl, hZ⟩
 have hnm : l.map (·.f.name) = D.files.map (·.name) := by rw [← hfs, List.map_map]; rfl
 have hkZ : Kept X Z [] := by rw [hZ]; exact hkY.app _
 have hlst : Z[Y.length]? = some (.arr ((namesD D).map encS) 1) := by rw [hZ, hnm]; simp [namesD]
 have hll : (namesD D).length = l.length := by simp [namesD, sortN, ← hfs]
 clear hZ
 (repeat (first | refine Run.adm rfl ?_ | refine Run.seq ?_ | ((first | apply Run.opS rfl | apply Run.condS); (· (simp -implicitDefEqProofs; first | exact ⟨rfl, rfl⟩ | exact rfl)))))
 refine Run.frzS Y.length hlst ?_
 have htk : ((namesD D).map encS).take l.length = (namesD D).map encS := List.take_of_length_le (by simp [hll])
 refine run_to [(2, .vs ((namesD D).map encS) 1)] (fun Y => Kept X Y []) (by simp [htk, hll]) (hkZ.set _ _ (.inr hkY.1)) ?_
 intro W hW
 (repeat (first | refine Run.adm rfl ?_ | refine Run.seq ?_ | ((first | apply Run.opS rfl | apply Run.condS); (· (simp -implicitDefEqProofs; first | exact ⟨rfl, rfl⟩ | exact rfl)))))
 refine Run.retS Tryz.func45 r45_ok trivial (by simp [r45]; rfl) ?_
 exact ⟨by simp, hW⟩
attribute [local simp ↓] upd_app tl_cons tl_nil
def encN (n : Int) : List V := [.int .i64 n]
def cutLen (n : Nat) (f : FileM) : Nat := f.sure + min n (f.bytes.length - f.sure)
def cutF (n : Nat) (f : FileM) : FileM := ⟨f.name, f.bytes.take (cutLen n f), cutLen n f⟩
def keepN (keep : List Int) (k : Nat) : Nat := if keep = [] then 0 else (keep.getD (k % keep.length) 0).toNat
def crashF (keep : List Int) (ns : List Bs) (i : Nat) (fs : List FileM) : List FileM := fs.map fun f => if f.name ∈ ns.take i then cutF (keepN keep (ns.idxOf f.name)) f else f
theorem idx_nodup : ∀ (ns : List Bs), ns.Nodup → ∀ i (h : i < ns.length), ns.idxOf ns[i] = i
 | [], _, i, h => by simp at h
 | a :: l, hn, 0, h => by simp
 | a :: l, hn, i + 1, h => by
  rw [List.nodup_cons] at hn
  have h1 : i < l.length := by simpa using h
  have h2 := idx_nodup l hn.2 i h1
  have h3 : (a == l[i]) = false := by
   rw [beq_eq_false_iff_ne]
   exact fun e => hn.1 (e ▸ List.getElem_mem h1)
  simp only [List.getElem_cons_succ, List.idxOf_cons, h3, cond_false, h2]
theorem crashF_zero (keep ns fs) : crashF keep ns 0 fs = fs := by simp [crashF]
theorem crashF_next {keep ns fs} {i : Nat} (hn : ns.Nodup) (hi : i < ns.length) : crashF keep ns (i + 1) fs = updF (crashF keep ns i fs) ns[i] (cutF (keepN keep i)) := by
 simp only [crashF, updF, List.map_map]
 refine List.map_congr_left fun f _ => ?_
 have htk : ns.take (i + 1) = ns.take i ++ [ns[i]] := by rw [List.take_add_one, List.getElem?_eq_getElem hi]; rfl
 have hnot : ns[i] ∉ ns.take i := by
  intro h
  have := hn
  rw [← List.take_append_drop (i + 1) ns, htk, List.nodup_append, List.nodup_append] at this
  exact this.1.2.2 _ h _ (by simp) rfl
 simp only [Function.comp, htk, List.mem_append, List.mem_singleton]
 by_cases h1 : f.name ∈ ns.take i
 ·have h2 : f.name ≠ ns[i] := fun e => hnot (e ▸ h1)
  simp [h1, cutF, h2]
 ·by_cases h2 : f.name = ns[i]
  ·simp [h2, hnot, idx_nodup ns hn i hi]
  ·simp [h1, h2]
theorem crashF_end {keep ns fs} (h : ∀ f ∈ fs, f.name ∈ ns) : crashF keep ns ns.length fs = fs.map fun f => cutF (keepN keep (ns.idxOf f.name)) f := by
 simp only [crashF, List.take_length]
 exact List.map_congr_left fun f hf => by simp [h f hf]
theorem cut_at {Y Z : List O} {d m : Nat} {l : List FP} {q : FP} {fu : Int} {off : Bool} (h : DiskAt Y d m l fu off) (hq : findF l q.f.name = some q) (n : Nat)
  (h1 : Z[q.p]? = some (.row [.sl q.a 0 (cutLen n q.f) 1 none, .int .i64 (cutLen n q.f)])) (h2 : Z[q.a]? = some (.arr (byteEls (q.f.bytes.take (cutLen n q.f))) 1)) (hk : Kept Y Z [q.p, q.a]) :
  ∃ l', DiskAt Z d m l' fu off ∧ l'.map (·.f) = updF (l.map (·.f)) q.f.name (cutF n) ∧ foot d m l' = foot d m l := by
 obtain ⟨A, B, rfl, -, -⟩ := find_split hq
 obtain ⟨b1, b2⟩ := h.ok q (by simp)
 have hle : cutLen n q.f ≤ q.f.bytes.length := by simp only [cutLen]; omega
 have hlen : (cutF n q.f).bytes.length = cutLen n q.f := by simp only [cutF, List.length_take]; omega
 refine ⟨A ++ ⟨cutF n q.f, q.p, q.a⟩ :: B, h.upd (f' := cutF n q.f) rfl (by rw [hlen]; exact h1) h2 (.inl rfl) hk ⟨by omega, by rw [hlen]; exact Nat.le_refl _⟩, updF_split h.names (cutF n) q.p q.a, ?_⟩
 simp [foot]
theorem sortN_mem (ns : List Bs) (x : Bs) : x ∈ sortN ns ↔ x ∈ ns := by simp [sortN]
theorem crash_tri (X : List O) {d : Nat} {D : Dk} {F : List Nat} (hD : IsD X d D F) (hn : NmOk D) (keep : List Int) (hkl : keep.length ≤ 1000) :
  Tri Tryz.prog 15 [.ptr d 0, .vs (keep.map encN) 1] X (fun v Y => v = .int .i64 0 ∧ ∃ nf : Bs → Nat, (keep = [] → ∀ x, nf x = 0) ∧ After X d F ⟨D.files.map (fun f => cutF (nf f.name) f), -1, false⟩ Y) := by
 have hnt := fun Y hY => names_tri Y (d := d) (D := D) (F := F) hY hn
 obtain ⟨m, l, hat, hfs, rfl⟩ := hD
 have hdn : (namesD D).Nodup := by
  have h1 := hat.names
  have h2 : l.map (·.f.name) = D.files.map (·.name) := by rw [← hfs, List.map_map]; rfl
  rw [h2] at h1
  exact (List.mergeSort_perm _ _).nodup_iff.2 h1
 have hmem : ∀ x, x ∈ namesD D ↔ ∃ f ∈ D.files, f.name = x := fun x => by
  rw [namesD, sortN_mem, List.mem_map]
 have hnl : (namesD D).length ≤ 256 := by
  have : (namesD D).length = l.length := by simp [namesD, sortN, ← hfs]
  rw [this]; exact hat.len
 refine Tri.of_run' Tryz.func15 rfl c15_ok (by simp [Tryz.ntmps15]) ?_
 (repeat (first | refine Run.adm rfl ?_ | refine Run.seq ?_ | ((first | apply Run.opS rfl | apply Run.condS); (· (simp -implicitDefEqProofs; first | exact ⟨rfl, rfl⟩ | exact rfl)))))
 refine Run.opC rfl rfl rfl (may0_tri X hat.row) ?_
 rintro v Y ⟨rfl, hY⟩
 rw [hY]
 clear hY
 (repeat (first | refine Run.adm rfl ?_ | refine Run.seq ?_ | ((first | apply Run.opS rfl | apply Run.condS); (· (simp -implicitDefEqProofs; first | exact ⟨rfl, rfl⟩ | exact rfl)))))
 refine Run.opC rfl rfl rfl (hnt X ⟨m, l, hat, hfs, rfl⟩) ?_
 rintro v Y ⟨rfl, hY⟩
 generalize namesD D = ns at *
 (repeat (first | refine Run.adm rfl ?_ | refine Run.seq ?_ | ((first | apply Run.opS rfl | apply Run.condS); (· (simp -implicitDefEqProofs; first | exact ⟨rfl, rfl⟩ | exact rfl)))))
 refine Run.sl [(0, .ptr d 0), (1, .vs (keep.map encN) 1), (13, .vs (ns.map encS) 1), (14, .int .i64 ns.length), (15, .int .i64 (0 : Nat))] (by simp) ?_
 refine Run.loopS (fun (x : Nat × List O) => ([(0, .ptr d 0), (1, .vs (keep.map encN) 1), (13, .vs (ns.map encS) 1), (14, .int .i64 ns.length), (15, .int .i64 x.1)], x.2))
  (fun x => x.1 ≤ ns.length ∧ Kept X x.2 (foot d m l) ∧ ∃ l', DiskAt x.2 d m l' D.fu D.off ∧ l'.map (·.f) = crashF keep ns x.1 D.files ∧ foot d m l' = foot d m l) (fun x => ns.length - x.1) ?_ (0, Y) ⟨Nat.zero_le _, hY.mono (by simp), l, hat.keep hY, by rw [crashF_zero]; exact hfs, rfl⟩
 rintro ⟨i, Z⟩ ⟨hi, hk, l', hZ, hfs', hft⟩ ih
 simp only at *
 by_cases hlt : i < ns.length
 ·obtain ⟨x, hx, hxi, -, hxm⟩ := getL hlt
  have hlt' : (i : Int) < ns.length := by omega
  have hw := wrap_small (n := (i : Int) + 1) (by omega) (by omega)
  obtain ⟨g, hg, hgx⟩ := (hmem x).1 (List.mem_of_getElem? hx)
  rcases mFind_file x l' 0 with ⟨j, q, h1, h2, h3, h4⟩ | ⟨h1, h2, h3⟩
  rotate_left
  ·exfalso
   have hc : (crashF keep ns i D.files).map (·.name) = D.files.map (·.name) := by
    simp only [crashF, List.map_map]
    exact List.map_congr_left fun f _ => by simp only [Function.comp]; split <;> rfl
   rw [← hfs', List.map_map] at hc
   have hg' : x ∈ l'.map ((fun f : FileM => f.name) ∘ fun q : FP => q.f) := by rw [hc]; exact List.mem_map.2 ⟨g, hg, hgx⟩
   obtain ⟨q, hq, hqx⟩ := List.mem_map.1 hg'
   exact h1 q hq hqx
  simp only [Nat.zero_add] at h3
  have h1' : (l'.map entV)[j]? = some (entV q) := by rw [List.getElem?_map, h1]; rfl
  have hqm : q ∈ l' := List.mem_of_getElem? h1
  obtain ⟨f1, f2⟩ := hZ.file q hqm
  obtain ⟨b1, b2⟩ := hZ.ok q hqm
  (repeat (first | refine Run.adm rfl ?_ | refine Run.seq ?_ | ((first | apply Run.opS rfl | apply Run.condS); (· (simp -implicitDefEqProofs [hlt, hlt', hx, hxi, encS, hZ.row, hZ.map, h3, h1', h1, entV]; first | exact ⟨rfl, rfl⟩ | exact rfl)))))
  obtain ⟨nI, hnI⟩ : ∃ nI : Int, nI = (keepN keep i : Int) := ⟨_, rfl⟩
  refine Run.join [(0, .ptr d 0), (1, .vs (keep.map encN) 1), (13, .vs (ns.map encS) 1), (14, .int .i64 ns.length), (15, .int .i64 i), (7, .ptr q.p 0), (8, .int .i64 nI)] Z ?_ ?_
  rotate_left
  ·intro k hr
   by_cases hk0 : keep = []
   ·subst hk0
    (repeat (first | refine Run.adm rfl ?_ | refine Run.seq ?_ | ((first | apply Run.opS rfl | apply Run.condS); (· (simp -implicitDefEqProofs; first | exact ⟨rfl, rfl⟩ | exact rfl)))))
    refine Run.sl _ ?_ hr
    simp [hnI, keepN]
   ·have hpos : 0 < keep.length := List.length_pos_iff.2 hk0
    have hpos' : 0 < (keep.length : Int) := by omega
    have hne' : ¬ (keep.length : Int) = 0 := by omega
    have hkl2 : i % keep.length < keep.length := Nat.mod_lt _ hpos
    have hrm : (i : Int) % keep.length = ((i % keep.length : Nat) : Int) := by simp
    have htm : (i : Int).tmod keep.length = ((i % keep.length : Nat) : Int) := rfl
    have hmx0 : nI = ((keep.getD (i % keep.length) 0).toNat : Int) := by rw [hnI, keepN, if_neg hk0]
    generalize i % keep.length = r at *
    obtain ⟨z, hz, hzi, -, hzm⟩ := getL hkl2
    have hkl3 : (r : Int) < keep.length := by omega
    have hmx : (if 0 < z then z else 0) = nI := by
     rw [hmx0, List.getD_eq_getElem?_getD, hz]
     simp only [Option.getD_some]
     split <;> omega
    have hmx2 : (if z < 0 then 0 else z) = nI := by rw [← hmx]; split <;> split <;> omega
    (repeat (first | refine Run.adm rfl ?_ | refine Run.seq ?_ | ((first | apply Run.opS rfl | apply Run.condS); (· (simp -implicitDefEqProofs [hz, hzi, hkl2, encN, hne', hk0, htm, hrm, hkl3, hmx, hmx2, hpos, hpos']; first | exact ⟨rfl, rfl⟩ | exact rfl)))))
    refine Run.sl _ ?_ hr
    simp [hmx, hmx2]
  obtain ⟨C, hC⟩ : ∃ C, C = cutLen (keepN keep i) q.f := ⟨_, rfl⟩
  have hC1 : (C : Int) = q.f.sure + min nI (q.f.bytes.length - q.f.sure) := by rw [hC, hnI]; simp only [cutLen]; omega
  (repeat (first | refine Run.adm rfl ?_ | refine Run.seq ?_ | ((first | apply Run.opS rfl | apply Run.condS); (· (simp -implicitDefEqProofs; first | exact ⟨rfl, rfl⟩ | exact rfl)))))
  refine Run.qchain prog_mixed 25 (by kernel_rfl) ?_
  have hCle : C ≤ q.f.bytes.length := by omega
  have hCle' : (C : Int) ≤ q.f.bytes.length := by omega
  have hw1 := wrap_small (n := (q.f.bytes.length : Int) - q.f.sure) (by omega) (by omega)
  have hw2 : (q.f.sure : Int) + (if (q.f.bytes.length : Int) - q.f.sure < nI then (q.f.bytes.length : Int) - q.f.sure else nI) = C := by rw [hC1]; split <;> omega
  have hw3 := wrap_small (n := (C : Int)) (by omega) (by omega)
  (repeat (first | refine execQ_E rfl ?_ | (apply execQ_S rfl; (· (simp -implicitDefEqProofs [f1, hw1, hw2, hw3, hCle, hCle', f2]; exact ⟨rfl, rfl⟩)))))
  (repeat (first | refine SeqR.E rfl ?_ | (apply SeqR.o0 rfl; (· (simp -implicitDefEqProofs [f1, setG f1, hw1, hw2, hw3, hCle, hCle', f2]; exact ⟨rfl, rfl⟩))) | (apply SeqR.A rfl; (· (simp -implicitDefEqProofs [f1, setG f1, hw1, hw2, hw3, hCle, hCle', f2]; done)); (· (simp -implicitDefEqProofs [f1, setG f1, hw1, hw2, hw3, hCle, hCle', f2]; exact ⟨rfl, rfl⟩))) | (apply SeqR.N rfl; (· (simp -implicitDefEqProofs [f1, setG f1, hw1, hw2, hw3, hCle, hCle', f2]; done)))))
  (repeat (first | refine Run.adm rfl ?_ | refine Run.seq ?_ | ((first | apply Run.opS rfl | apply Run.condS); (· (simp -implicitDefEqProofs [setG f1]; first | exact ⟨rfl, rfl⟩ | exact rfl)))))
  obtain ⟨n1, n2, n3, n4, n5⟩ := hZ.ne.2 q hqm
  have hlen1 : C ≤ (byteEls q.f.bytes).length := by rw [byteEls_len]; exact hCle
  have htk : (byteEls q.f.bytes).take C = byteEls (q.f.bytes.take C) := by simp [byteEls, List.map_take]
  refine Run.leS q.a C (by rw [setN n5]; exact f2) ?_
  rw [htk]
  have hk2 : Kept Z ((Z.set q.p (O.row [V.sl q.a 0 C 1 none, V.int .i64 C])).set q.a (.arr (byteEls (q.f.bytes.take C)) 1)) [q.p, q.a] := ((Kept.refl Z _).set _ _ (.inl (by simp))).set _ _ (.inl (by simp))
  obtain ⟨l2, g1, g2, g3⟩ := cut_at (Z := (Z.set q.p (O.row [V.sl q.a 0 C 1 none, V.int .i64 C])).set q.a (.arr (byteEls (q.f.bytes.take C)) 1)) hZ (by rw [h2]; exact h4) (keepN keep i) (by rw [← hC, setN (Ne.symm n5)]; exact setG f1 _) (by rw [← hC]; exact setG (by rw [setN n5]; exact f2) _) hk2
  refine Run.sl _ ?_ (ih (i + 1, (Z.set q.p (O.row [V.sl q.a 0 C 1 none, V.int .i64 C])).set q.a (.arr (byteEls (q.f.bytes.take C)) 1)) ⟨by simp only; omega, (hk.trans hk2).mono ?_, l2, g1, ?_, g3.trans hft⟩ (by simp only; omega))
  ·simp [hw]
  ·intro j hj
   rcases List.mem_append.1 hj with hj | hj
   ·exact hj
   ·rw [← hft]
    simp only [List.mem_cons, List.not_mem_nil, or_false] at hj
    rcases hj with rfl | rfl
    ·exact (foot_p hqm).1
    ·exact (foot_p hqm).2
  ·rw [g2, hfs', crashF_next hdn hlt, hxi, h2]
 ·have : i = ns.length := by omega
  subst this
  (repeat (first | refine Run.adm rfl ?_ | refine Run.seq ?_ | ((first | apply Run.opS rfl | apply Run.condS); (· (simp -implicitDefEqProofs [hZ.row, setG hZ.row]; first | exact ⟨rfl, rfl⟩ | exact rfl)))))
  refine Run.retS Tryz.func15 r15_ok trivial (by simp [r15]; rfl) ?_
  refine ⟨by simp, fun x => keepN keep (ns.idxOf x), fun h x => ?_, foot d m l', ⟨m, l', hZ.turn (Y := Z.set d (O.row [V.mp m, V.int IntKind.i64 (-1), V.bool false])) (setG hZ.row _) ((Kept.refl Z _).set _ _ (.inl (by simp))) ⟨by simp only; omega, by simp only; omega⟩, ?_, rfl⟩, (hk.trans ((Kept.refl Z [d]).set _ _ (.inl (by simp)))).mono ?_, ?_⟩
  ·simp only [keepN, if_pos h]
  ·rw [hfs']; exact crashF_end fun f hf => (hmem f.name).2 ⟨f, hf, rfl⟩
  ·intro j hj
   rcases List.mem_append.1 hj with hj | hj
   ·exact hj
   ·rw [List.mem_singleton.1 hj]; simp [foot]
  ·rw [hft]; exact Grown.refl _ _
attribute [local simp ↓] upd_app tl_cons tl_nil
def okB (b : UInt8) : Bool := !oddP b.toNat
theorem idx_ok (s : Bs) (h : s.all okB = true) : ∀ f pos, Lib.idxFuncFrom oddP true ⟨s.toArray⟩ f pos = -1
 | 0, _ => rfl
 | f + 1, pos => by
  unfold Lib.idxFuncFrom
  by_cases hp : pos < (⟨s.toArray⟩ : ByteArray).size
  ·have hp' : pos < s.length := by
    have : (⟨s.toArray⟩ : ByteArray).size = s.length := by show s.toArray.size = _; simp
    omega
   have hg : ((⟨s.toArray⟩ : ByteArray)[pos]'hp) = s[pos] := by
    show s.toArray[pos] = s[pos]; simp
   have ho := List.all_eq_true.1 h s[pos] (List.getElem_mem hp')
   have ha : (s[pos]).toNat < 128 := by
    simp only [okB, oddP, Bool.not_eq_true', Bool.and_eq_false_iff, Bool.or_eq_false_iff, decide_eq_false_iff_not, Bool.not_eq_false', decide_eq_true_eq] at ho
    omega
   have hd := decode_ascii ⟨s.toArray⟩ pos hp (by rw [hg]; exact ha)
   rw [hg] at hd
   have hod : oddP (s[pos]).toNat = false := by simpa [okB] using ho
   rw [if_pos hp, hd, if_neg (by rw [hod]; simp)]
   exact idx_ok s h f _
  ·rw [if_neg hp]
theorem mayN_of (s : Bs) (h : s.all okB = true) (h1 : s ≠ []) (h2 : s.length ≤ 32) : mayN s = true := by
 have : idxN s = -1 := idx_ok s h _ _
 have h3 : ¬ 32 < s.length := by omega
 simp [mayN, h1, h3, this]
attribute [local simp ↓] upd_app tl_cons tl_nil
def Own (X : List O) (L : List Nat) (d : Nat) (D : Dk) (Y : List O) : Prop := ∃ F, IsD Y d D F ∧ Kept X Y [] ∧ (∀ i ∈ F, X.length ≤ i) ∧ ∀ i ∈ L, i ∉ F ∧ i < Y.length ∧ X.length ≤ i
def StayL (L : List Nat) (Y Z : List O) : Prop := ∀ i ∈ L, Z[i]? = Y[i]?
theorem Own.after {X L d D' F Y Z} (hk : Kept X Y []) (hf : ∀ i ∈ F, X.length ≤ i) (hl : ∀ i ∈ L, i ∉ F ∧ i < Y.length ∧ X.length ≤ i) (h : After Y d F D' Z) : Own X L d D' Z ∧ StayL L Y Z := by
 obtain ⟨F', h1, h2, h3⟩ := h
 have hle := hk.1
 have hle2 := h2.1
 refine ⟨⟨F', h1, ⟨Nat.le_trans hle hle2, fun i hi _ => ?_⟩, fun i hi => ?_, fun i hi => ?_⟩, fun i hi => h2.2 i (hl i hi).2.1 (hl i hi).1⟩
 ·rw [h2.2 i (by omega) (fun hm => by have := hf i hm; omega), hk.2 i hi (by simp)]
 ·rcases h3 i hi with h | h
  ·exact hf i h
  ·omega
 ·obtain ⟨g1, g2, g3⟩ := hl i hi
  refine ⟨fun hm => ?_, by omega, g3⟩
  rcases h3 i hm with h | h
  ·exact g1 h
  ·omega
theorem Own.keep {X L d D Y Z} (h : Own X L d D Y) (hk : Kept Y Z []) : Own X L d D Z ∧ StayL L Y Z := by
 obtain ⟨F, h1, h2, h3, h4⟩ := h
 exact Own.after h2 h3 h4 (h1.after hk)
theorem DiskAt.apart {X Y d m l fu off} (h : DiskAt X d m l fu off) {G : List Nat} (hG : ∀ i ∈ foot d m l, i ∉ G) (hk : Kept X Y G) : DiskAt Y d m l fu off := by
 refine ⟨hk.get h.row (hG d (by simp [foot])), hk.get h.map (hG m (by simp [foot])), fun q hq => ?_, h.nd, h.names, h.fuse, h.len, h.ok⟩
 obtain ⟨g1, g2⟩ := h.file q hq
 exact ⟨hk.get g1 (hG _ (foot_p hq).1), hk.get g2 (hG _ (foot_p hq).2)⟩
theorem Own.put {X L d D Y} (h : Own X L d D Y) {i : Nat} (hi : i ∈ L) (o : O) : Own X L d D (Y.set i o) := by
 obtain ⟨F, ⟨m, l, h1, hfs, rfl⟩, h2, h3, h4⟩ := h
 obtain ⟨g1, g2, g3⟩ := h4 i hi
 refine ⟨_, ⟨m, l, h1.apart (G := [i]) (fun j hj hm => g1 (by rw [List.mem_singleton.1 hm] at hj; exact hj)) ((Kept.refl Y [i]).set _ _ (.inl (by simp))), hfs, rfl⟩, h2.set _ _ (.inr g3), h3, fun j hj => ?_⟩
 rw [List.length_set]; exact h4 j hj
theorem Own.more {X L d D Y} (h : Own X L d D Y) (os : List O) (L' : List Nat) (hL : ∀ i ∈ L', Y.length ≤ i ∧ i < (Y ++ os).length) : Own X (L ++ L') d D (Y ++ os) := by
 obtain ⟨F, hD, h2, h3, h4⟩ := h
 have hlt : ∀ i ∈ F, i < Y.length := by
  obtain ⟨m, l, h1, hfs, rfl⟩ := hD
  exact h1.lt
 obtain ⟨⟨F', ⟨m', l', k1, k2, k3⟩, -⟩, -⟩ := Own.keep ⟨F, hD, h2, h3, h4⟩ ((Kept.refl Y []).app os)
 obtain ⟨m, l, h1, hfs, rfl⟩ := hD
 refine ⟨_, ⟨m, l, h1.keep ((Kept.refl Y []).app os), hfs, rfl⟩, h2.app os, h3, fun i hi => ?_⟩
 have := h2.1
 rcases List.mem_append.1 hi with hi | hi
 ·obtain ⟨g1, g2, g3⟩ := h4 i hi
  exact ⟨g1, by rw [List.length_append]; omega, g3⟩
 ·obtain ⟨g1, g2⟩ := hL i hi
  exact ⟨fun hm => by have := hlt i hm; omega, g2, by omega⟩
theorem new_own (X : List O) : Tri Tryz.prog 8 [] X (fun v Y => ∃ d, v = .ptr d 0 ∧ Own X [] d ⟨[], -1, false⟩ Y) :=
 (new_tri X).mono fun v Y ⟨d, F, h1, h2, h3, h4⟩ => ⟨d, h1, F, h2, h3, h4, fun i hi => by simp at hi⟩
section ops
variable {X : List O} {L : List Nat} {d : Nat} {D : Dk} {Y : List O}
theorem make_own (h : Own X L d D Y) (name : Bs) : Tri Tryz.prog 75 [.ptr d 0, .str name] Y (fun v Z => v = .int .i64 (makeD D name).1 ∧ Own X L d (makeD D name).2 Z ∧ StayL L Y Z) := by
 obtain ⟨F, h1, h2, h3, h4⟩ := h
 exact (make_tri Y h1 name).mono fun v Z ⟨g1, g2⟩ => ⟨g1, Own.after h2 h3 h4 g2⟩
theorem append_own (h : Own X L d D Y) (name s : Bs) (hs : s.length ≤ 70368744177664) : Tri Tryz.prog 130 [.ptr d 0, .str name, .str s] Y (fun v Z => v = .int .i64 (appendD D name s).1 ∧ Own X L d (appendD D name s).2 Z ∧ StayL L Y Z) := by
 obtain ⟨F, h1, h2, h3, h4⟩ := h
 exact (append_tri Y h1 name s hs).mono fun v Z ⟨g1, g2⟩ => ⟨g1, Own.after h2 h3 h4 g2⟩
theorem sync_own (h : Own X L d D Y) (name : Bs) : Tri Tryz.prog 134 [.ptr d 0, .str name] Y (fun v Z => v = .int .i64 (syncD D name).1 ∧ Own X L d (syncD D name).2 Z ∧ StayL L Y Z) := by
 obtain ⟨F, h1, h2, h3, h4⟩ := h
 exact (sync_tri Y h1 name).mono fun v Z ⟨g1, g2⟩ => ⟨g1, Own.after h2 h3 h4 g2⟩
theorem remove_own (h : Own X L d D Y) (name : Bs) : Tri Tryz.prog 71 [.ptr d 0, .str name] Y (fun v Z => v = .int .i64 (removeD D name).1 ∧ Own X L d (removeD D name).2 Z ∧ StayL L Y Z) := by
 obtain ⟨F, h1, h2, h3, h4⟩ := h
 exact (remove_tri Y h1 name).mono fun v Z ⟨g1, g2⟩ => ⟨g1, Own.after h2 h3 h4 g2⟩
theorem read_own (h : Own X L d D Y) (name : Bs) : Tri Tryz.prog 73 [.ptr d 0, .str name] Y (fun v Z => v = .tup [.str (readD D name).1, .int .i64 (readD D name).2] ∧ Own X L d D Z ∧ StayL L Y Z) := by
 obtain ⟨F, h1, h2, h3, h4⟩ := h
 exact (read_tri Y h1 name).mono fun v Z ⟨g1, g2⟩ => ⟨g1, Own.keep ⟨F, h1, h2, h3, h4⟩ g2⟩
theorem sure_own (h : Own X L d D Y) (name : Bs) : Tri Tryz.prog 47 [.ptr d 0, .str name] Y (fun v Z => v = .tup [.int .i64 (sureD D name).1, .int .i64 (sureD D name).2] ∧ Own X L d D Z ∧ StayL L Y Z) := by
 obtain ⟨F, h1, h2, h3, h4⟩ := h
 exact (sure_tri Y h1 name).mono fun v Z ⟨g1, g2⟩ => ⟨g1, Own.keep ⟨F, h1, h2, h3, h4⟩ g2⟩
theorem names_own (h : Own X L d D Y) (hn : NmOk D) : Tri Tryz.prog 45 [.ptr d 0] Y (fun v Z => v = .vs ((namesD D).map encS) 1 ∧ Own X L d D Z ∧ StayL L Y Z) := by
 obtain ⟨F, h1, h2, h3, h4⟩ := h
 exact (names_tri Y h1 hn).mono fun v Z ⟨g1, g2⟩ => ⟨g1, Own.keep ⟨F, h1, h2, h3, h4⟩ g2⟩
theorem off_own (h : Own X L d D Y) : Tri Tryz.prog 17 [.ptr d 0] Y (fun v Z => v = .bool D.off ∧ Z = Y) := by
 obtain ⟨F, h1, h2, h3, h4⟩ := h
 exact off_tri Y h1
theorem crash_own (h : Own X L d D Y) (hn : NmOk D) (keep : List Int) (hkl : keep.length ≤ 1000) :
  Tri Tryz.prog 15 [.ptr d 0, .vs (keep.map encN) 1] Y (fun v Z => v = .int .i64 0 ∧ ∃ nf : Bs → Nat, (keep = [] → ∀ x, nf x = 0) ∧ Own X L d ⟨D.files.map (fun f => cutF (nf f.name) f), -1, false⟩ Z ∧ StayL L Y Z) := by
 obtain ⟨F, h1, h2, h3, h4⟩ := h
 exact (crash_tri Y h1 hn keep hkl).mono fun v Z ⟨g1, nf, g2, g3⟩ => ⟨g1, nf, g2, Own.after h2 h3 h4 g3⟩
end ops
theorem may_a : mayN [97] = true := mayN_of _ (by decide) (by decide) (by decide)
attribute [local simp ↓] upd_app tl_cons tl_nil
def crcNot (c : Int) : Int := IntKind.u32.wrap ((BitVec.ofInt IntKind.u32.bits (if IntKind.u32.signed then -1 else IntKind.u32.max) ^^^ BitVec.ofInt IntKind.u32.bits c).toNat : Int)
def crcBit (c : Int) : Int := if iAnd .u32 c 1 = 1 then iXor .u32 (iShr .u32 c 1) 2197175160 else iShr .u32 c 1
def crcBits : Nat → Int → Int
 | 0, c => c
 | j + 1, c => crcBit (crcBits j c)
def crcByte (c : Int) (b : UInt8) : Int := crcBits 8 (iXor .u32 c (IntKind.u32.wrap (b.toNat : Int)))
def crcStart (n : Int) : Int := crcNot (IntKind.u32.wrap (iAnd .i64 n 4294967295))
def crcEnd (c : Int) : Int := IntKind.i64.wrap (crcNot c)
def crcMore (n : Int) (s : Bs) : Int := crcEnd (s.foldl crcByte (crcStart n))
theorem more_tri (n : Int) (s : Bs) (hl : s.length ≤ 4611686018427387904) : Tri Tryz.prog 184 [.int .i64 n, .str s] [] (fun v H => v = .int .i64 (crcMore n s) ∧ H = []) := by
 refine Tri.of_run' Tryz.func184 rfl c184_ok (by simp [Tryz.ntmps184]) ?_
 (repeat (first | refine Run.adm rfl ?_ | refine Run.seq ?_ | ((first | apply Run.opS rfl | apply Run.condS); (· (simp -implicitDefEqProofs; first | exact ⟨rfl, rfl⟩ | exact rfl)))))
 refine Run.loopC [] (fun (i : Nat) => ([(1, .str s), (5, .int .u32 ((s.take i).foldl crcByte (crcStart n))), (13, .int .i64 s.length), (14, .int .i64 i)], [])) (fun i => i ≤ s.length) (fun i => s.length - i) 0 (by simp) (by rfl) (by decide) (by simp [crcStart, crcNot]) (by simp) ?_
 rintro i hi ih
 by_cases hlt : i < s.length
 ·obtain ⟨x, hx, hxi, -, -⟩ := getL hlt
  have hlt' : (i : Int) < s.length := by omega
  have hw := wrap_small (n := (i : Int) + 1) (by omega) (by omega)
  have hstep : (s.take (i + 1)).foldl crcByte (crcStart n) = crcByte ((s.take i).foldl crcByte (crcStart n)) x := by
   rw [List.take_add_one, hx]; simp [List.foldl_append]
  generalize (s.take i).foldl crcByte (crcStart n) = c at *
  (repeat (first | refine Run.adm rfl ?_ | refine Run.seq ?_ | ((first | apply Run.opS rfl | apply Run.condS); (· (simp -implicitDefEqProofs [hlt, hlt', hx, hxi]; first | exact ⟨rfl, rfl⟩ | exact rfl)))))
  refine Run.loopC [] (fun (j : Nat) => ([(1, .str s), (5, .int .u32 (crcBits j (iXor .u32 c (IntKind.u32.wrap (x.toNat : Int))))), (13, .int .i64 s.length), (14, .int .i64 i), (23, .int .i64 j)], [])) (fun j => j ≤ 8) (fun j => 8 - j) 0 (by simp) (by rfl) (by decide) (by simp [crcBits]) (by simp) ?_
  rintro j hj jh
  by_cases hlj : j < 8
  ·have hlj' : (j : Int) < 8 := by omega
   have hwj := wrap_small (n := (j : Int) + 1) (by omega) (by omega)
   by_cases hb : iAnd .u32 (crcBits j (iXor .u32 c (IntKind.u32.wrap (x.toNat : Int)))) 1 = 1
   ·(repeat (first | refine Run.adm rfl ?_ | refine Run.seq ?_ | ((first | apply Run.opS rfl | apply Run.condS); (· (simp -implicitDefEqProofs [hlj, hlj', hb]; first | exact ⟨rfl, rfl⟩ | exact rfl)))))
    refine Run.mv [] _ _ (by rfl) (by decide) (by simp [hwj, crcBits, crcBit, hb]) (by simp) (jh (j + 1) ?_ ?_)
    ·omega
    ·omega
   ·(repeat (first | refine Run.adm rfl ?_ | refine Run.seq ?_ | ((first | apply Run.opS rfl | apply Run.condS); (· (simp -implicitDefEqProofs [hlj, hlj', hb]; first | exact ⟨rfl, rfl⟩ | exact rfl)))))
    refine Run.mv [] _ _ (by rfl) (by decide) (by simp [hwj, crcBits, crcBit, hb]) (by simp) (jh (j + 1) ?_ ?_)
    ·omega
    ·omega
  ·have : j = 8 := by omega
   subst this
   (repeat (first | refine Run.adm rfl ?_ | refine Run.seq ?_ | ((first | apply Run.opS rfl | apply Run.condS); (· (simp -implicitDefEqProofs; first | exact ⟨rfl, rfl⟩ | exact rfl)))))
   refine Run.mv [] _ _ (by rfl) (by decide) (by simp -implicitDefEqProofs [hw, hstep, crcByte]) (by simp -implicitDefEqProofs [hw, hstep, crcByte]) (ih (i + 1) ?_ ?_)
   ·omega
   ·omega
 ·have : i = s.length := by omega
  subst this
  (repeat (first | refine Run.adm rfl ?_ | refine Run.seq ?_ | ((first | apply Run.opS rfl | apply Run.condS); (· (simp -implicitDefEqProofs; first | exact ⟨rfl, rfl⟩ | exact rfl)))))
  refine Run.retI Tryz.func184 r184_ok trivial (by simp -implicitDefEqProofs [r184, crcMore, crcEnd, crcNot]; rfl) (by simp [crcMore, crcEnd, crcNot]) ?_ (by simp -implicitDefEqProofs [crcMore, crcEnd, crcNot]) (by simp -implicitDefEqProofs [crcMore, crcEnd, crcNot])
  simp [crcMore, crcEnd, crcNot]
theorem more_at (n : Int) (s : Bs) (hl : s.length ≤ 4611686018427387904) (H : List O) : Tri Tryz.prog 184 [.int .i64 n, .str s] H (fun v H' => v = .int .i64 (crcMore n s) ∧ H' = H) := (more_tri n s hl).at rfl rfl H
theorem sum_tri (s : Bs) (hl : s.length ≤ 4611686018427387904) : Tri Tryz.prog 154 [.str s] [] (fun v H => v = .int .i64 (crcMore 0 s) ∧ H = []) := by
 refine Tri.of_run' Tryz.func154 rfl c154_ok (by simp [Tryz.ntmps154]) ?_
 (repeat (first | refine Run.adm rfl ?_ | refine Run.seq ?_ | ((first | apply Run.opS rfl | apply Run.condS); (· (simp -implicitDefEqProofs; first | exact ⟨rfl, rfl⟩ | exact rfl)))))
 refine Run.opC rfl rfl rfl (more_at 0 s hl _) ?_
 rintro v h' ⟨rfl, rfl⟩
 (repeat (first | refine Run.adm rfl ?_ | refine Run.seq ?_ | ((first | apply Run.opS rfl | apply Run.condS); (· (simp -implicitDefEqProofs; first | exact ⟨rfl, rfl⟩ | exact rfl)))))
 refine Run.retI Tryz.func154 r154_ok trivial (by simp -implicitDefEqProofs [r154]; rfl) (by simp ) ?_ (by simp -implicitDefEqProofs ) (by simp -implicitDefEqProofs )
 simp
def crcAt (n : Int) (k : Nat) : Int := IntKind.u8.wrap (iShr .i64 n (8 * (k : Int)))
def crcBytes (n : Int) : Bs := [UInt8.ofNat (crcAt n 0).toNat, UInt8.ofNat (crcAt n 1).toNat, UInt8.ofNat (crcAt n 2).toNat, UInt8.ofNat (crcAt n 3).toNat]
theorem crcBytes_len (n) : (crcBytes n).length = 4 := rfl
def crcEls (n : Int) : Nat → List V
 | 0 => [.int .u8 0, .int .u8 0, .int .u8 0, .int .u8 0]
 | 1 => [.int .u8 (crcAt n 0), .int .u8 0, .int .u8 0, .int .u8 0]
 | 2 => [.int .u8 (crcAt n 0), .int .u8 (crcAt n 1), .int .u8 0, .int .u8 0]
 | 3 => [.int .u8 (crcAt n 0), .int .u8 (crcAt n 1), .int .u8 (crcAt n 2), .int .u8 0]
 | _ => [.int .u8 (crcAt n 0), .int .u8 (crcAt n 1), .int .u8 (crcAt n 2), .int .u8 (crcAt n 3)]
theorem bytes_tri (n : Int) : Tri Tryz.prog 153 [.int .i64 n] [] (fun v H => v = .str (crcBytes n) ∧ H = []) := by
 refine Tri.of_run' Tryz.func153 rfl c153_ok (by simp [Tryz.ntmps153]) ?_
 (repeat (first | refine Run.adm rfl ?_ | refine Run.seq ?_ | ((first | apply Run.opS rfl | apply Run.condS); (· (simp -implicitDefEqProofs; first | exact ⟨rfl, rfl⟩ | exact rfl)))))
 refine Run.loopC [0] (fun (i : Nat) => ([(0, .int .i64 n), (3, .ptr 0 0), (5, .int .i64 i)], [.row (crcEls n i)])) (fun i => i ≤ 4) (fun i => 4 - i) 0 (by simp) (by rfl) (by decide) (by simp) (by simp [crcEls]) ?_
 rintro i hi ih
 have w0 : IntKind.i64.wrap 0 = 0 := by decide
 have w1 : IntKind.i64.wrap 1 = 1 := by decide
 have w2 : IntKind.i64.wrap 2 = 2 := by decide
 have w3 : IntKind.i64.wrap 3 = 3 := by decide
 have w4 : IntKind.i64.wrap 4 = 4 := by decide
 have w8 : IntKind.i64.wrap 8 = 8 := by decide
 have w16 : IntKind.i64.wrap 16 = 16 := by decide
 have w24 : IntKind.i64.wrap 24 = 24 := by decide
 match i, hi with
 | 0, _ =>
  (repeat (first | refine Run.adm rfl ?_ | refine Run.seq ?_ | ((first | apply Run.opS rfl | apply Run.condS); (· (simp -implicitDefEqProofs [crcEls, w0]; first | exact ⟨rfl, rfl⟩ | exact rfl)))))
  refine Run.mv [0] _ _ (by rfl) (by decide) (by simp -implicitDefEqProofs [crcEls, crcAt, w1]) (by simp -implicitDefEqProofs [crcEls, crcAt, w1]) (ih (1) ?_ ?_)
  ·omega
  ·omega
 | 1, _ =>
  (repeat (first | refine Run.adm rfl ?_ | refine Run.seq ?_ | ((first | apply Run.opS rfl | apply Run.condS); (· (simp -implicitDefEqProofs [crcEls, w8]; first | exact ⟨rfl, rfl⟩ | exact rfl)))))
  refine Run.mv [0] _ _ (by rfl) (by decide) (by simp -implicitDefEqProofs [crcEls, crcAt, w2]) (by simp -implicitDefEqProofs [crcEls, crcAt, w2]) (ih (2) ?_ ?_)
  ·omega
  ·omega
 | 2, _ =>
  (repeat (first | refine Run.adm rfl ?_ | refine Run.seq ?_ | ((first | apply Run.opS rfl | apply Run.condS); (· (simp -implicitDefEqProofs [crcEls, w16]; first | exact ⟨rfl, rfl⟩ | exact rfl)))))
  refine Run.mv [0] _ _ (by rfl) (by decide) (by simp -implicitDefEqProofs [crcEls, crcAt, w3]) (by simp -implicitDefEqProofs [crcEls, crcAt, w3]) (ih (3) ?_ ?_)
  ·omega
  ·omega
 | 3, _ =>
  (repeat (first | refine Run.adm rfl ?_ | refine Run.seq ?_ | ((first | apply Run.opS rfl | apply Run.condS); (· (simp -implicitDefEqProofs [crcEls, w24]; first | exact ⟨rfl, rfl⟩ | exact rfl)))))
  refine Run.mv [0] _ _ (by rfl) (by decide) (by simp -implicitDefEqProofs [crcEls, crcAt, w4]) (by simp -implicitDefEqProofs [crcEls, crcAt, w4]) (ih (4) ?_ ?_)
  ·omega
  ·omega
 | 4, _ =>
  (repeat (first | refine Run.adm rfl ?_ | refine Run.seq ?_ | ((first | apply Run.opS rfl | apply Run.condS); (· (simp -implicitDefEqProofs [crcEls, chunk, bytesOf]; first | exact ⟨rfl, rfl⟩ | exact rfl)))))
  refine Run.ret0 rfl Tryz.func153 r153_ok trivial (by simp [r153]; rfl) ?_ (by simp)
  exact ⟨by simp [crcBytes], rfl⟩
theorem sum_at (s : Bs) (hl : s.length ≤ 4611686018427387904) (H : List O) : Tri Tryz.prog 154 [.str s] H (fun v H' => v = .int .i64 (crcMore 0 s) ∧ H' = H) := (sum_tri s hl).at rfl rfl H
theorem bytes_at (n : Int) (H : List O) : Tri Tryz.prog 153 [.int .i64 n] H (fun v H' => v = .str (crcBytes n) ∧ H' = H) := (bytes_tri n).at rfl rfl H
def sealB (s : Bs) : Bs := s ++ crcBytes (crcMore 0 s)
def checkB (s : Bs) : Bool := decide (4 ≤ s.length) && decide (s.drop (s.length - 4) = crcBytes (crcMore 0 (s.take (s.length - 4))))
theorem sealB_len (s) : (sealB s).length = s.length + 4 := by simp [sealB, crcBytes_len]
theorem check_seal (s : Bs) : checkB (sealB s) = true := by
 have h : (sealB s).length - 4 = s.length := by rw [sealB_len]; omega
 have h4 : 4 ≤ (sealB s).length := by rw [sealB_len]; omega
 simp only [checkB, h, h4, decide_true, Bool.true_and, decide_eq_true_eq]
 simp [sealB]
theorem seal_tri (s : Bs) (hl : s.length ≤ 70368744177664) : Tri Tryz.prog 112 [.str s] [] (fun v H => v = .str (sealB s) ∧ H = []) := by
 refine Tri.of_run' Tryz.func112 rfl c112_ok (by simp [Tryz.ntmps112]) ?_
 (repeat (first | refine Run.adm rfl ?_ | refine Run.seq ?_ | ((first | apply Run.opS rfl | apply Run.condS); (· (simp -implicitDefEqProofs; first | exact ⟨rfl, rfl⟩ | exact rfl)))))
 refine Run.opC rfl rfl rfl (sum_at s (by omega) _) ?_
 rintro v h' ⟨rfl, rfl⟩
 (repeat (first | refine Run.adm rfl ?_ | refine Run.seq ?_ | ((first | apply Run.opS rfl | apply Run.condS); (· (simp -implicitDefEqProofs; first | exact ⟨rfl, rfl⟩ | exact rfl)))))
 refine Run.opC rfl rfl rfl (bytes_at _ _) ?_
 rintro v h' ⟨rfl, rfl⟩
 have h4 : s.length + (crcBytes (crcMore 0 s)).length ≤ 4611686018427387904 := by rw [crcBytes_len]; omega
 (repeat (first | refine Run.adm rfl ?_ | refine Run.seq ?_ | ((first | apply Run.opS rfl | apply Run.condS); (· (simp -implicitDefEqProofs [h4]; first | exact ⟨rfl, rfl⟩ | exact rfl)))))
 refine Run.retI Tryz.func112 r112_ok trivial (by simp -implicitDefEqProofs [r112]; rfl) (by simp ) ?_ (by simp -implicitDefEqProofs ) (by simp -implicitDefEqProofs )
 simp [sealB]
theorem check_tri (s : Bs) (hl : s.length ≤ 70368744177664) : Tri Tryz.prog 140 [.str s] [] (fun v H => v = .bool (checkB s) ∧ H = []) := by
 refine Tri.of_run' Tryz.func140 rfl c140_ok (by simp [Tryz.ntmps140]) ?_
 have hw := wrap_small (n := (s.length : Int) - 4) (by omega) (by omega)
 by_cases h4 : 4 ≤ s.length
 ·have h4' : (0 : Int) ≤ (s.length : Int) - 4 := by omega
  have hn : ((s.length : Int) - 4) = ((s.length - 4 : Nat) : Int) := by omega
  have hle : s.length - 4 ≤ s.length := by omega
  (repeat (first | refine Run.adm rfl ?_ | refine Run.seq ?_ | ((first | apply Run.opS rfl | apply Run.condS); (· (simp -implicitDefEqProofs [hw]; first | exact ⟨rfl, rfl⟩ | exact rfl)))))
  refine Run.qchain prog_mixed 13 (by kernel_rfl) ?_
  (repeat (first | refine execQ_E rfl ?_ | (apply execQ_S rfl; (· (simp -implicitDefEqProofs [hw, h4', h4, hn, hle]; exact ⟨rfl, rfl⟩)))))
  refine execQ_C rfl (by simp) rfl (sum_at _ (by simp only [List.length_take]; omega) _) ?_
  (repeat (first | refine execQ_E rfl ?_ | (apply execQ_S rfl; (· (simp -implicitDefEqProofs; exact ⟨rfl, rfl⟩)))))
  refine execQ_C rfl (by simp) rfl (bytes_at _ _) ?_
  (repeat (first | refine execQ_E rfl ?_ | (apply execQ_S rfl; (· (simp -implicitDefEqProofs; exact ⟨rfl, rfl⟩)))))
  (repeat (first | refine SeqR.E rfl ?_ | (apply SeqR.o0 rfl; (· (simp -implicitDefEqProofs; exact ⟨rfl, rfl⟩))) | (apply SeqR.A rfl; (· (simp -implicitDefEqProofs; done)); (· (simp -implicitDefEqProofs; exact ⟨rfl, rfl⟩))) | (apply SeqR.N rfl; (· (simp -implicitDefEqProofs; done)))))
  (repeat (first | refine Run.adm rfl ?_ | refine Run.seq ?_ | ((first | apply Run.opS rfl | apply Run.condS); (· (simp -implicitDefEqProofs; first | exact ⟨rfl, rfl⟩ | exact rfl)))))
  refine Run.retI Tryz.func140 r140_ok trivial (by simp -implicitDefEqProofs [r140]; rfl) (by simp ) ?_ (by simp -implicitDefEqProofs ) (by simp -implicitDefEqProofs )
  simp [checkB, h4]
 ·have h4' : ¬ (0 : Int) ≤ (s.length : Int) - 4 := by omega
  have h5' : ¬ (4 : Int) ≤ (s.length : Int) := by omega
  (repeat (first | refine Run.adm rfl ?_ | refine Run.seq ?_ | ((first | apply Run.opS rfl | apply Run.condS); (· (simp -implicitDefEqProofs [hw]; first | exact ⟨rfl, rfl⟩ | exact rfl)))))
  refine Run.qchain prog_mixed 13 (by kernel_rfl) ?_
  (repeat (first | refine execQ_E rfl ?_ | (apply execQ_S rfl; (· (simp -implicitDefEqProofs [hw, h4', h5']; exact ⟨rfl, rfl⟩)))))
  (repeat (first | refine SeqR.E rfl ?_ | (apply SeqR.o0 rfl; (· (simp -implicitDefEqProofs; exact ⟨rfl, rfl⟩))) | (apply SeqR.A rfl; (· (simp -implicitDefEqProofs; done)); (· (simp -implicitDefEqProofs; exact ⟨rfl, rfl⟩))) | (apply SeqR.N rfl; (· (simp -implicitDefEqProofs; done)))))
  (repeat (first | refine Run.adm rfl ?_ | refine Run.seq ?_ | ((first | apply Run.opS rfl | apply Run.condS); (· (simp -implicitDefEqProofs; first | exact ⟨rfl, rfl⟩ | exact rfl)))))
  refine Run.retI Tryz.func140 r140_ok trivial (by simp -implicitDefEqProofs [r140]; rfl) (by simp ) ?_ (by simp -implicitDefEqProofs ) (by simp -implicitDefEqProofs )
  simp [checkB, h4]
theorem seal_at (s : Bs) (hl : s.length ≤ 70368744177664) (H : List O) : Tri Tryz.prog 112 [.str s] H (fun v H' => v = .str (sealB s) ∧ H' = H) := (seal_tri s hl).at rfl rfl H
theorem check_at (s : Bs) (hl : s.length ≤ 70368744177664) (H : List O) : Tri Tryz.prog 140 [.str s] H (fun v H' => v = .bool (checkB s) ∧ H' = H) := (check_tri s hl).at rfl rfl H
attribute [local simp ↓] upd_app tl_cons tl_nil
def textM (s : Bs) : Bs × Int := if 262144 < s.length then ([], 1) else ((vputM s.length).1 ++ s, 0)
theorem vputM_len (n : Int) : (vputM n).1.length ≤ 9 := by
 unfold vputM; split
 ·exact vput_len9 (by omega)
 ·simp
theorem stext_tri (s : Bs) (hs : s.length ≤ 4000000000) : Tri Tryz.prog 166 [.str s] [] (fun v H => v = .tup [.str (textM s).1, .int .i64 (textM s).2] ∧ H = []) := by
 refine Tri.of_run' Tryz.func166 rfl c166_ok (by simp [Tryz.ntmps166]) ?_
 by_cases h : 262144 < s.length
 ·have h' : (262144 : Int) < s.length := by omega
  (repeat (first | refine Run.adm rfl ?_ | refine Run.seq ?_ | ((first | apply Run.opS rfl | apply Run.condS); (· (simp -implicitDefEqProofs [h, h']; first | exact ⟨rfl, rfl⟩ | exact rfl)))))
  refine Run.retI Tryz.func166 r166_ok trivial (by simp -implicitDefEqProofs [r166]; rfl) (by simp ) ?_ (by simp -implicitDefEqProofs ) (by simp -implicitDefEqProofs )
  simp [textM, h]
 ·have h' : ¬ (262144 : Int) < s.length := by omega
  (repeat (first | refine Run.adm rfl ?_ | refine Run.seq ?_ | ((first | apply Run.opS rfl | apply Run.condS); (· (simp -implicitDefEqProofs [h, h']; first | exact ⟨rfl, rfl⟩ | exact rfl)))))
  refine Run.opC rfl rfl rfl (vput_at s.length _) ?_
  rintro v h' ⟨rfl, rfl⟩
  have hln := vputM_len s.length
  have hb : (vputM s.length).1.length + s.length ≤ 4611686018427387904 := by omega
  generalize hg : (vputM s.length).1 = g at *
  (repeat (first | refine Run.adm rfl ?_ | refine Run.seq ?_ | ((first | apply Run.opS rfl | apply Run.condS); (· (simp -implicitDefEqProofs [hb]; first | exact ⟨rfl, rfl⟩ | exact rfl)))))
  refine Run.retI Tryz.func166 r166_ok trivial (by simp -implicitDefEqProofs [r166]; rfl) (by simp ) ?_ (by simp -implicitDefEqProofs ) (by simp -implicitDefEqProofs )
  simp [textM, h, hg]
theorem stext_at (s : Bs) (hs : s.length ≤ 4000000000) (H : List O) : Tri Tryz.prog 166 [.str s] H (fun v H' => v = .tup [.str (textM s).1, .int .i64 (textM s).2] ∧ H' = H) := (stext_tri s hs).at rfl rfl H
theorem vtake_top (l : Bs) : (vtake l).1 ≤ 4611686018427387904 := (vtakeGo_bound 9 l 0 0).1
def tkText (l : Bs) : Bs × Nat × Int :=
 if (vtake l).2.2 ≠ 0 then ([], 0, (vtake l).2.2) else if 262144 < (vtake l).1 then ([], 0, 11) else if l.length - (vtake l).2.1 < (vtake l).1 then ([], 0, 10)
 else ((l.take ((vtake l).2.1 + (vtake l).1)).drop (vtake l).2.1, (vtake l).2.1 + (vtake l).1, 0)
def tkTextV (l : Bs) : V := .tup [.str (tkText l).1, .int .i64 (tkText l).2.1, .int .i64 (tkText l).2.2]
theorem tkText_le (l : Bs) : (tkText l).2.1 ≤ l.length := by
 have := vtake_le l
 unfold tkText
 split
 ·exact Nat.zero_le _
 ·split
  ·exact Nat.zero_le _
  ·split
   ·exact Nat.zero_le _
   ·simp only; omega
theorem ttext_tri (l : Bs) (hl : l.length ≤ 70368744177664) : Tri Tryz.prog 194 [.str l] [] (fun v H => v = tkTextV l ∧ H = []) := by
 refine Tri.of_run' Tryz.func194 rfl c194_ok (by simp [Tryz.ntmps194]) ?_
 (repeat (first | refine Run.adm rfl ?_ | refine Run.seq ?_ | ((first | apply Run.opS rfl | apply Run.condS); (· (simp -implicitDefEqProofs; first | exact ⟨rfl, rfl⟩ | exact rfl)))))
 refine Run.opC rfl rfl rfl (vtake_at l hl _) ?_
 rintro v h' ⟨rfl, rfl⟩
 have hle := vtake_le l
 have htop := vtake_top l
 have hdef : tkTextV l = .tup [.str (tkText l).1, .int .i64 (tkText l).2.1, .int .i64 (tkText l).2.2] := rfl
 unfold tkText at hdef
 unfold vtakeV
 generalize (vtake l).1 = n at *
 generalize (vtake l).2.1 = k at *
 generalize (vtake l).2.2 = e at *
 by_cases he : e = 0
 ·subst he
  rw [if_neg (by simp)] at hdef
  by_cases h1 : 262144 < n
  ·rw [if_pos h1] at hdef
   have h1' : (262144 : Int) < n := by omega
   (repeat (first | refine Run.adm rfl ?_ | refine Run.seq ?_ | ((first | apply Run.opS rfl | apply Run.condS); (· (simp -implicitDefEqProofs [h1, h1']; first | exact ⟨rfl, rfl⟩ | exact rfl)))))
   refine Run.retI Tryz.func194 r194_ok trivial (by simp -implicitDefEqProofs [r194]; rfl) (by simp ) ?_ (by simp -implicitDefEqProofs ) (by simp -implicitDefEqProofs )
   simp [hdef]
  ·rw [if_neg h1] at hdef
   have h1' : ¬ (262144 : Int) < n := by omega
   have hw := wrap_small (n := (l.length : Int) - k) (by omega) (by omega)
   have hw2 := wrap_small (n := (k : Int) + n) (by omega) (by omega)
   by_cases h2 : l.length - k < n
   ·rw [if_pos h2] at hdef
    have h2' : (l.length : Int) - k < n := by omega
    (repeat (first | refine Run.adm rfl ?_ | refine Run.seq ?_ | ((first | apply Run.opS rfl | apply Run.condS); (· (simp -implicitDefEqProofs [h1, h1', hw, h2']; first | exact ⟨rfl, rfl⟩ | exact rfl)))))
    refine Run.retI Tryz.func194 r194_ok trivial (by simp -implicitDefEqProofs [r194]; rfl) (by simp ) ?_ (by simp -implicitDefEqProofs ) (by simp -implicitDefEqProofs )
    simp [hdef]
   ·rw [if_neg h2] at hdef
    have h2' : ¬ (l.length : Int) - k < n := by omega
    have hkl : (k : Int) + n ≤ l.length := by omega
    have hkl' : k + n ≤ l.length := by omega
    have hkn : (k : Int) ≤ (k : Int) + n := by omega
    have hkn0 : (0 : Int) ≤ (k : Int) + n := by omega
    have htn : ((k : Int) + n).toNat = k + n := by omega
    (repeat (first | refine Run.adm rfl ?_ | refine Run.seq ?_ | ((first | apply Run.opS rfl | apply Run.condS); (· (simp -implicitDefEqProofs [h1, h1', hw, h2', hw2, hkl, hkl', hkn, htn, hkn0]; first | exact ⟨rfl, rfl⟩ | exact rfl)))))
    refine Run.retI Tryz.func194 r194_ok trivial (by simp -implicitDefEqProofs [r194]; rfl) (by simp ) ?_ (by simp -implicitDefEqProofs ) (by simp -implicitDefEqProofs )
    simp [hdef]
 ·rw [if_pos he] at hdef
  (repeat (first | refine Run.adm rfl ?_ | refine Run.seq ?_ | ((first | apply Run.opS rfl | apply Run.condS); (· (simp -implicitDefEqProofs [he]; first | exact ⟨rfl, rfl⟩ | exact rfl)))))
  refine Run.retI Tryz.func194 r194_ok trivial (by simp -implicitDefEqProofs [r194]; rfl) (by simp ) ?_ (by simp -implicitDefEqProofs ) (by simp -implicitDefEqProofs )
  simp [hdef]
theorem ttext_at (l : Bs) (hl : l.length ≤ 70368744177664) (H : List O) : Tri Tryz.prog 194 [.str l] H (fun v H' => v = tkTextV l ∧ H' = H) := (ttext_tri l hl).at rfl rfl H
def frameM (s : Bs) : Bs × Int := if (textM s).2 = 0 then (sealB (textM s).1, 0) else ([], (textM s).2)
theorem textM_len (s : Bs) (h : s.length ≤ 4000000000) : (textM s).1.length ≤ 4000000009 := by
 have := vputM_len s.length
 unfold textM; split
 ·simp
 ·simp only [List.length_append]; omega
theorem fput_tri (s : Bs) (hs : s.length ≤ 4000000000) : Tri Tryz.prog 129 [.str s] [] (fun v H => v = .tup [.str (frameM s).1, .int .i64 (frameM s).2] ∧ H = []) := by
 refine Tri.of_run' Tryz.func129 rfl c129_ok (by simp [Tryz.ntmps129]) ?_
 (repeat (first | refine Run.adm rfl ?_ | refine Run.seq ?_ | ((first | apply Run.opS rfl | apply Run.condS); (· (simp -implicitDefEqProofs; first | exact ⟨rfl, rfl⟩ | exact rfl)))))
 refine Run.opC rfl rfl rfl (stext_at s hs _) ?_
 rintro v h' ⟨rfl, rfl⟩
 have hl := textM_len s hs
 by_cases h : (textM s).2 = 0
 ·(repeat (first | refine Run.adm rfl ?_ | refine Run.seq ?_ | ((first | apply Run.opS rfl | apply Run.condS); (· (simp -implicitDefEqProofs [h]; first | exact ⟨rfl, rfl⟩ | exact rfl)))))
  refine Run.opC rfl rfl rfl (seal_at _ (by omega) _) ?_
  rintro v h' ⟨rfl, rfl⟩
  (repeat (first | refine Run.adm rfl ?_ | refine Run.seq ?_ | ((first | apply Run.opS rfl | apply Run.condS); (· (simp -implicitDefEqProofs; first | exact ⟨rfl, rfl⟩ | exact rfl)))))
  refine Run.retI Tryz.func129 r129_ok trivial (by simp -implicitDefEqProofs [r129]; rfl) (by simp ) ?_ (by simp -implicitDefEqProofs ) (by simp -implicitDefEqProofs )
  simp [frameM, h]
 ·(repeat (first | refine Run.adm rfl ?_ | refine Run.seq ?_ | ((first | apply Run.opS rfl | apply Run.condS); (· (simp -implicitDefEqProofs [h]; first | exact ⟨rfl, rfl⟩ | exact rfl)))))
  refine Run.retI Tryz.func129 r129_ok trivial (by simp -implicitDefEqProofs [r129]; rfl) (by simp ) ?_ (by simp -implicitDefEqProofs ) (by simp -implicitDefEqProofs )
  simp [frameM, h]
theorem fput_at (s : Bs) (hs : s.length ≤ 4000000000) (H : List O) : Tri Tryz.prog 129 [.str s] H (fun v H' => v = .tup [.str (frameM s).1, .int .i64 (frameM s).2] ∧ H' = H) := (fput_tri s hs).at rfl rfl H
def takeF (l : Bs) : Option (Bs × Nat) :=
 if (tkText l).2.2 = 0 ∧ (tkText l).2.1 + 4 ≤ l.length ∧ checkB (l.take ((tkText l).2.1 + 4)) = true then some ((tkText l).1, (tkText l).2.1 + 4) else none
def takeFV (l : Bs) : V := match takeF l with | some (t, n) => .tup [.str t, .int .i64 n, .int .i64 0] | none => .tup [.str [], .int .i64 0, .int .i64 30]
theorem ftake_tri (l : Bs) (hl : l.length ≤ 4000000000) : Tri Tryz.prog 165 [.str l] [] (fun v H => v = takeFV l ∧ H = []) := by
 refine Tri.of_run' Tryz.func165 rfl c165_ok (by simp [Tryz.ntmps165]) ?_
 (repeat (first | refine Run.adm rfl ?_ | refine Run.seq ?_ | ((first | apply Run.opS rfl | apply Run.condS); (· (simp -implicitDefEqProofs; first | exact ⟨rfl, rfl⟩ | exact rfl)))))
 refine Run.opC rfl rfl rfl (ttext_at l (by omega) _) ?_
 rintro v h' ⟨rfl, rfl⟩
 have hle := tkText_le l
 have hdef : takeFV l = takeFV l := rfl
 unfold tkTextV
 unfold takeFV takeF at *
 generalize (tkText l).1 = t at *
 generalize (tkText l).2.1 = n at *
 generalize (tkText l).2.2 = e at *
 have hw := wrap_small (n := (n : Int) + 4) (by omega) (by omega)
 by_cases he : e = 0
 rotate_left
 ·(repeat (first | refine Run.adm rfl ?_ | refine Run.seq ?_ | ((first | apply Run.opS rfl | apply Run.condS); (· (simp -implicitDefEqProofs [he, hw]; first | exact ⟨rfl, rfl⟩ | exact rfl)))))
  refine Run.retI Tryz.func165 r165_ok trivial (by simp -implicitDefEqProofs [r165]; rfl) (by simp ) ?_ (by simp -implicitDefEqProofs ) (by simp -implicitDefEqProofs )
  simp [he]
 by_cases hn : n + 4 ≤ l.length
 rotate_left
 ·have hn' : (l.length : Int) < (n : Int) + 4 := by omega
  (repeat (first | refine Run.adm rfl ?_ | refine Run.seq ?_ | ((first | apply Run.opS rfl | apply Run.condS); (· (simp -implicitDefEqProofs [he, hw, hn, hn']; first | exact ⟨rfl, rfl⟩ | exact rfl)))))
  refine Run.retI Tryz.func165 r165_ok trivial (by simp -implicitDefEqProofs [r165]; rfl) (by simp ) ?_ (by simp -implicitDefEqProofs ) (by simp -implicitDefEqProofs )
  simp [he, hn]
 have hn' : ¬ (l.length : Int) < (n : Int) + 4 := by omega
 have hn2 : (n : Int) + 4 ≤ l.length := by omega
 have hn3 : (0 : Int) ≤ (n : Int) + 4 := by omega
 have hn4 : ((n : Int) + 4).toNat = n + 4 := by omega
 (repeat (first | refine Run.adm rfl ?_ | refine Run.seq ?_ | ((first | apply Run.opS rfl | apply Run.condS); (· (simp -implicitDefEqProofs [he, hw, hn, hn', hn2, hn3, hn4]; first | exact ⟨rfl, rfl⟩ | exact rfl)))))
 refine Run.opC rfl (by simp) rfl (check_at (l.take (n + 4)) (by simp only [List.length_take]; omega) _) ?_
 rintro v h' ⟨rfl, rfl⟩
 cases hc : checkB (l.take (n + 4)) with
 | false =>
  (repeat (first | refine Run.adm rfl ?_ | refine Run.seq ?_ | ((first | apply Run.opS rfl | apply Run.condS); (· (simp -implicitDefEqProofs; first | exact ⟨rfl, rfl⟩ | exact rfl)))))
  refine Run.retI Tryz.func165 r165_ok trivial (by simp -implicitDefEqProofs [r165]; rfl) (by simp ) ?_ (by simp -implicitDefEqProofs ) (by simp -implicitDefEqProofs )
  simp [hc]
 | true =>
  (repeat (first | refine Run.adm rfl ?_ | refine Run.seq ?_ | ((first | apply Run.opS rfl | apply Run.condS); (· (simp -implicitDefEqProofs; first | exact ⟨rfl, rfl⟩ | exact rfl)))))
  refine Run.retI Tryz.func165 r165_ok trivial (by simp -implicitDefEqProofs [r165]; rfl) (by simp ) ?_ (by simp -implicitDefEqProofs ) (by simp -implicitDefEqProofs )
  simp [hc, he, hn]
theorem ftake_at (l : Bs) (hl : l.length ≤ 4000000000) (H : List O) : Tri Tryz.prog 165 [.str l] H (fun v H' => v = takeFV l ∧ H' = H) := (ftake_tri l hl).at (by unfold takeFV; split <;> rfl) rfl H
attribute [local simp ↓] upd_app tl_cons tl_nil
theorem takeF_pos {l t : Bs} {n : Nat} (h : takeF l = some (t, n)) : 4 ≤ n ∧ n ≤ l.length := by
 unfold takeF at h
 split at h
 ·rename_i hc
  cases h
  exact ⟨by omega, hc.2.1⟩
 ·cases h
def allGo : Nat → Bs → List Bs × Nat
 | 0, _ => ([], 0)
 | f + 1, l => match takeF l with
  | none => ([], 0)
  | some (t, n) => (t :: (allGo f (l.drop n)).1, n + (allGo f (l.drop n)).2)
def allF (l : Bs) : List Bs × Nat := allGo (l.length + 1) l
theorem allGo_fuel : ∀ (f g : Nat) (l : Bs), l.length < f → l.length < g → allGo f l = allGo g l
 | f + 1, g + 1, l, hf, hg => by
  unfold allGo
  cases h : takeF l with
  | none => rfl
  | some p =>
   obtain ⟨t, n⟩ := p
   obtain ⟨h1, h2⟩ := takeF_pos h
   simp only
   rw [allGo_fuel f g (l.drop n) (by rw [List.length_drop]; omega) (by rw [List.length_drop]; omega)]
theorem allF_none {l : Bs} (h : takeF l = none) : allF l = ([], 0) := by simp [allF, allGo, h]
theorem allF_some {l t : Bs} {n : Nat} (h : takeF l = some (t, n)) : allF l = (t :: (allF (l.drop n)).1, n + (allF (l.drop n)).2) := by
 obtain ⟨h1, h2⟩ := takeF_pos h
 have e : allF l = (t :: (allGo l.length (l.drop n)).1, n + (allGo l.length (l.drop n)).2) := by simp [allF, allGo, h]
 have e2 : allGo l.length (l.drop n) = allF (l.drop n) := allGo_fuel _ _ _ (by rw [List.length_drop]; omega) (by omega)
 rw [e, e2]
theorem tell_tri (ts : List Bs) (t : Bs) (hl : ts.length ≤ 4000000000) : Tri Tryz.prog 127 [.str t, .ptr 0 0] [.row [.sl 1 0 ts.length 1 none], .arr (ts.map encS) 1] (fun v H => H = [.row [.sl 3 0 (ts.length + 1) 1 none], .gone, .arr [encS t] 1, .arr ((ts ++ [t]).map encS) 1]) := by
 refine Tri.of_run' Tryz.func127 rfl c127_ok (by simp [Tryz.ntmps127]) ?_
 have hb1 : (ts.length + 1) * 16 ≤ 70368744177664 := by omega
 (repeat (first | refine Run.adm rfl ?_ | refine Run.seq ?_ | ((first | apply Run.opS rfl | apply Run.condS); (· (simp -implicitDefEqProofs [encS, hb1]; first | exact ⟨rfl, rfl⟩ | exact rfl)))))
 refine Run.retS Tryz.func127 r127_ok trivial (by simp [r127]; rfl) ?_
 simp [encS]
theorem each_tri (s : Bs) (hl : s.length ≤ 4000000000) : Tri Tryz.prog 126 [.str s, .fn 127 [.ptr 0 0]] [.row [.nils]] (fun v H => v = .int .i64 (allF s).2 ∧ H = [.row [.vs ((allF s).1.map encS) 1]]) := by
 refine Tri.of_run' Tryz.func126 rfl c126_ok (by simp [Tryz.ntmps126]) ?_
 (repeat (first | refine Run.adm rfl ?_ | refine Run.seq ?_ | ((first | apply Run.opS rfl | apply Run.condS); (· (simp -implicitDefEqProofs; first | exact ⟨rfl, rfl⟩ | exact rfl)))))
 refine Run.nilC 0 0 1 9 rfl rfl ?_
 refine Run.loopC [0, 1] (fun (x : Nat × List Bs) => ([(0, .str s), (1, .fn 127 [.ptr 0 0]), (5, .int .i64 x.1)], [.row [.sl 1 0 x.2.length 1 none], .arr (x.2.map encS) 1]))
  (fun x => x.1 ≤ s.length ∧ x.2.length ≤ x.1 ∧ allF s = (x.2 ++ (allF (s.drop x.1)).1, x.1 + (allF (s.drop x.1)).2)) (fun x => s.length - x.1) (0, []) (by simp) (by rfl) (by decide) (by simp) (by simp) ?_
 rintro ⟨at0, ts⟩ ⟨hi, hlen, hall⟩ ih
 simp only at hi hlen hall ih ⊢
 have hat' : (at0 : Int) ≤ s.length := by omega
 have hdl : (s.drop at0).length = s.length - at0 := List.length_drop
 (repeat (first | refine Run.adm rfl ?_ | refine Run.seq ?_ | ((first | apply Run.opS rfl | apply Run.condS); (· (simp -implicitDefEqProofs [hi, hat']; first | exact ⟨rfl, rfl⟩ | exact rfl)))))
 refine Run.opC rfl rfl rfl (ftake_at (s.drop at0) (by omega) _) ?_
 rintro v h' ⟨rfl, rfl⟩
 cases hc : takeF (s.drop at0) with
 | none =>
  have hv : takeFV (s.drop at0) = .tup [.str [], .int .i64 0, .int .i64 30] := by simp [takeFV, hc]
  rw [hv]
  (repeat (first | refine Run.adm rfl ?_ | refine Run.seq ?_ | ((first | apply Run.opS rfl | apply Run.condS); (· (simp -implicitDefEqProofs; first | exact ⟨rfl, rfl⟩ | exact rfl)))))
  have htk : (ts.map encS).take ts.length = ts.map encS := List.take_of_length_le (by simp)
  refine Run.freeze 1 rfl ?_
  rw [allF_none hc, List.append_nil, Nat.add_zero] at hall
  refine Run.mv [0] [(4, .int .i64 at0)] [.row [.vs (ts.map encS) 1]] (by rfl) (by decide) (by simp -implicitDefEqProofs [htk]) (by simp -implicitDefEqProofs [htk]) ?_
  refine Run.retI Tryz.func126 r126_ok trivial (by simp -implicitDefEqProofs [r126]; rfl) (by simp ) ?_ (by simp -implicitDefEqProofs ) (by simp -implicitDefEqProofs )
  simp [hall]
 | some p =>
  obtain ⟨t, n⟩ := p
  have hv : takeFV (s.drop at0) = .tup [.str t, .int .i64 n, .int .i64 0] := by simp [takeFV, hc]
  obtain ⟨h4, hn⟩ := takeF_pos hc
  rw [hv]
  (repeat (first | refine Run.adm rfl ?_ | refine Run.seq ?_ | ((first | apply Run.opS rfl | apply Run.condS); (· (simp -implicitDefEqProofs; first | exact ⟨rfl, rfl⟩ | exact rfl)))))
  refine Run.opC rfl rfl rfl (tell_tri ts t (by omega)) ?_
  rintro v h' rfl
  have hw := wrap_small (n := (at0 : Int) + n) (by omega) (by omega)
  (repeat (first | refine Run.adm rfl ?_ | refine Run.seq ?_ | ((first | apply Run.opS rfl | apply Run.condS); (· (simp -implicitDefEqProofs [hw]; first | exact ⟨rfl, rfl⟩ | exact rfl)))))
  have hdd : (s.drop at0).drop n = s.drop (at0 + n) := by rw [List.drop_drop]
  refine Run.mv [0, 3] _ _ (by rfl) (by decide) (by simp) (by simp) (ih (at0 + n, ts ++ [t]) ⟨?_, ?_, ?_⟩ ?_)
  ·simp only; omega
  ·simp only [List.length_append, List.length_cons, List.length_nil]; omega
  ·rw [hall, allF_some hc, hdd]
   simp only [List.append_assoc, List.cons_append, List.nil_append, Nat.add_assoc]
  ·simp only; omega
theorem all_tri (s : Bs) (hl : s.length ≤ 4000000000) : Tri Tryz.prog 74 [.str s] [] (fun v H => v = .tup [.vs ((allF s).1.map encS) 1, .int .i64 (allF s).2] ∧ H = []) := by
 refine Tri.of_run' Tryz.func74 rfl c74_ok (by simp [Tryz.ntmps74]) ?_
 (repeat (first | refine Run.adm rfl ?_ | refine Run.seq ?_ | ((first | apply Run.opS rfl | apply Run.condS); (· (simp -implicitDefEqProofs; first | exact ⟨rfl, rfl⟩ | exact rfl)))))
 refine Run.opC rfl rfl rfl (each_tri s hl) ?_
 rintro v h' ⟨rfl, rfl⟩
 (repeat (first | refine Run.adm rfl ?_ | refine Run.seq ?_ | ((first | apply Run.opS rfl | apply Run.condS); (· (simp -implicitDefEqProofs; first | exact ⟨rfl, rfl⟩ | exact rfl)))))
 refine Run.mv [] [(2, .vs ((allF s).1.map encS) 1), (3, .int .i64 (allF s).2)] [] (by rfl) (by decide) (by simp -implicitDefEqProofs) (by simp -implicitDefEqProofs) ?_
 refine Run.retI Tryz.func74 r74_ok trivial (by simp -implicitDefEqProofs [r74]; rfl) (by simp ) ?_ (by simp -implicitDefEqProofs ) (by simp -implicitDefEqProofs )
 simp
theorem all_at (s : Bs) (hl : s.length ≤ 4000000000) (H : List O) : Tri Tryz.prog 74 [.str s] H (fun v H' => v = .tup [.vs ((allF s).1.map encS) 1, .int .i64 (allF s).2] ∧ H' = H) := (all_tri s hl).at rfl rfl H
def frmB (s : Bs) : Bs := sealB (vput s.length ++ s)
theorem frameM_eq {s : Bs} (h : s.length ≤ 262144) : frameM s = (frmB s, 0) := by
 have h1 : ¬ 262144 < s.length := by omega
 have h2 : (vputM (s.length : Int)).1 = vput s.length := by
  unfold vputM
  rw [if_pos (by omega)]
  simp
 simp [frameM, textM, h1, h2, frmB]
theorem fr_len (s : Bs) : (frmB s).length = (vput s.length).length + s.length + 4 := by simp [frmB, sealB_len]
theorem tkText_put (s r : Bs) (h : s.length ≤ 262144) : tkText (vput s.length ++ s ++ r) = (s, (vput s.length).length + s.length, 0) := by
 have hv : vtake (vput s.length ++ s ++ r) = (s.length, (vput s.length).length, 0) := by
  rw [List.append_assoc]; exact vtake_put (by omega) _
 unfold tkText
 rw [hv]
 have h1 : ¬ 262144 < s.length := by omega
 have h2 : ¬ (vput s.length ++ s ++ r).length - (vput s.length).length < s.length := by
  simp only [List.length_append]; omega
 simp only [ne_eq, not_true_eq_false, if_false, h1, h2]
 have h3 : (vput s.length ++ s ++ r).take ((vput s.length).length + s.length) = vput s.length ++ s := by
  rw [List.take_append_of_le_length (by simp), List.take_of_length_le (by simp)]
 rw [h3]
 simp
theorem takeF_fr (s r : Bs) (h : s.length ≤ 262144) : takeF (frmB s ++ r) = some (s, (frmB s).length) := by
 have h1 : frmB s ++ r = vput s.length ++ s ++ (crcBytes (crcMore 0 (vput s.length ++ s)) ++ r) := by simp [frmB, sealB]
 have h2 : tkText (frmB s ++ r) = (s, (vput s.length).length + s.length, 0) := by rw [h1]; exact tkText_put s _ h
 unfold takeF
 rw [h2]
 have h3 : (vput s.length).length + s.length + 4 = (frmB s).length := (fr_len s).symm
 simp only [h3]
 rw [List.take_append_of_le_length (Nat.le_refl _), List.take_length]
 rw [if_pos ⟨trivial, by simp, check_seal _⟩]
theorem vtakeGo_short : ∀ (m n j k acc : Nat), j < (vput n).length → (vtakeGo m ((vput n).take j) k acc).2.2 ≠ 0
 | 0, n, j, k, acc, h => by simp [vtakeGo]
 | m + 1, n, 0, k, acc, h => by simp [vtakeGo]
 | m + 1, n, j + 1, k, acc, h => by
  by_cases hn : n < 128
  ·rw [vput_small hn] at h; simp at h
  ·rw [vput_big (by omega)] at h ⊢
   simp only [List.take_succ_cons, vtakeGo]
   have hb : (UInt8.ofNat (n % 128 + 128)).toNat = n % 128 + 128 := by simp [UInt8.toNat_ofNat']; omega
   have hge : 128 ≤ (UInt8.ofNat (n % 128 + 128)).toNat := by omega
   rw [if_pos hge]
   exact vtakeGo_short m (n / 128) j (k + 1) _ (by simp only [List.length_cons] at h; omega)
theorem takeF_err {l : Bs} (h : (tkText l).2.2 ≠ 0) : takeF l = none := by
 unfold takeF
 rw [if_neg fun hc => h hc.1]
theorem takeF_short (s : Bs) (h : s.length ≤ 262144) (k : Nat) (hk : k < (frmB s).length) : takeF ((frmB s).take k) = none := by
 have hfr : frmB s = vput s.length ++ (s ++ crcBytes (crcMore 0 (vput s.length ++ s))) := by simp [frmB, sealB]
 by_cases hv : k < (vput s.length).length
 ·have e : (frmB s).take k = (vput s.length).take k := by rw [hfr, List.take_append_of_le_length (by omega)]
  rw [e]
  refine takeF_err ?_
  have := vtakeGo_short 9 s.length k 0 0 hv
  unfold tkText vtake
  rw [if_pos this]
  exact this
 ·obtain ⟨r, hr⟩ : ∃ r, r = (s ++ crcBytes (crcMore 0 (vput s.length ++ s))).take (k - (vput s.length).length) := ⟨_, rfl⟩
  have e : (frmB s).take k = vput s.length ++ r := by
   rw [hr, hfr, List.take_append]
   rw [List.take_of_length_le (by omega)]
  have hlen : ((frmB s).take k).length = k := by rw [List.length_take]; omega
  have hvt : vtake ((frmB s).take k) = (s.length, (vput s.length).length, 0) := by rw [e]; exact vtake_put (by omega) _
  have hfl := fr_len s
  unfold takeF
  rw [if_neg]
  rintro ⟨h1, h2, -⟩
  unfold tkText at h1 h2
  rw [hvt] at h1 h2
  have n1 : ¬ 262144 < s.length := by omega
  simp only [ne_eq, not_true_eq_false, if_false, n1] at h1 h2
  split at h1
  ·simp at h1
  ·rename_i h3
   rw [if_neg h3] at h2
   simp only at h2
   omega
theorem allF_nil : allF [] = ([], 0) := by
 refine allF_none (takeF_err ?_)
 unfold tkText vtake
 simp [vtakeGo]
theorem allF_take : ∀ (ss : List Bs), (∀ s ∈ ss, s.length ≤ 262144) → ∀ k, ∃ j, j ≤ ss.length ∧ (allF ((ss.flatMap frmB).take k)).1 = ss.take j ∧ ∀ i, i ≤ ss.length → ((ss.take i).flatMap frmB).length ≤ k → i ≤ j
 | [], _, k => ⟨0, Nat.le_refl _, by simp [allF_nil], fun i hi _ => by simpa using hi⟩
 | s :: ss, h, k => by
  have hs := h s (by simp)
  by_cases hk : k < (frmB s).length
  ·have e : ((s :: ss).flatMap frmB).take k = (frmB s).take k := by rw [List.flatMap_cons, List.take_append_of_le_length (by omega)]
   refine ⟨0, Nat.zero_le _, by rw [e, allF_none (takeF_short s hs k hk)]; rfl, fun i hi hl => ?_⟩
   cases i with
   | zero => exact Nat.le_refl _
   | succ i =>
    rw [List.take_succ_cons, List.flatMap_cons, List.length_append] at hl
    omega
  ·obtain ⟨j, h1, h2, h3⟩ := allF_take ss (fun x hx => h x (List.mem_cons_of_mem _ hx)) (k - (frmB s).length)
   have e : ((s :: ss).flatMap frmB).take k = frmB s ++ (ss.flatMap frmB).take (k - (frmB s).length) := by
    rw [List.flatMap_cons, List.take_append, List.take_of_length_le (by omega)]
   have ht := takeF_fr s ((ss.flatMap frmB).take (k - (frmB s).length)) hs
   refine ⟨j + 1, by simp only [List.length_cons]; omega, ?_, fun i hi hl => ?_⟩
   ·rw [e, allF_some ht, List.drop_left, h2]; rfl
   ·cases i with
    | zero => omega
    | succ i =>
     rw [List.take_succ_cons, List.flatMap_cons, List.length_append] at hl
     have := h3 i (by simp only [List.length_cons] at hi; omega) (by omega)
     omega
theorem allF_whole (ss : List Bs) (h : ∀ s ∈ ss, s.length ≤ 262144) : (allF (ss.flatMap frmB)).1 = ss := by
 obtain ⟨j, h1, h2, h3⟩ := allF_take ss h (ss.flatMap frmB).length
 rw [List.take_length] at h2
 have := h3 ss.length (Nat.le_refl _) (by rw [List.take_length]; exact Nat.le_refl _)
 rw [h2, List.take_of_length_le (by omega)]
open Sx Go Go.RowKit Go.Shelf
attribute [local simp ↓] upd_app tl_cons tl_nil
theorem itoa_at (i : Nat) (hi : i < 100) (H : List O) : Tri Tryz.prog 124 [.int .i64 i] H (fun v H' => v = .str (Lib.decDigits i) ∧ H' = H) := by
 refine ⟨⟨Tryz.f124, Tryz.func124, by kernel_rfl, by kernel_rfl⟩, fun c w cargs hh hv => ?_⟩
 have hsz : cargs.size = 1 := by rw [← hv.1]; rfl
 have ha := (hv.2 0 (by simp) (by omega)).int_inv
 rw [args1 hsz, ha]
 refine Calls.mono (Any.strconv_Itoa_small { Tryz.itoa124 with } i hi w) ?_
 rintro e w' ⟨rfl, rfl⟩
 exact ⟨_, H, c, _, ⟨rfl, rfl⟩, rfl, .str .., hh, Adv.refl _ _ _⟩
theorem rep_extra : Builder.Extra Tryz.prog Tryz.repeat125_ren where
 sizeBuilder := by kernel_rfl
 liesBuilder := by kernel_rfl
 t5 := Tryz.repeat125.t5
 a5 := Tryz.repeat125.a5
 z5 := Tryz.repeat125.z5
 v5 := Tryz.repeat125.v5
 infoByte := by kernel_rfl
 cellsByte := by kernel_rfl
 sizeByte := by kernel_rfl
 neB5 := by decide
theorem repeat_at (s : Bs) (n : Nat) (hn : s.length * n ≤ 140737488355328) (hn2 : n ≤ 9223372036854775807) (H : List O) : Tri Tryz.prog 125 [.str s, .int .i64 n] H (fun v H' => v = .str (Lib.repeatL s n) ∧ H' = H) := by
 refine ⟨⟨Tryz.f125, Tryz.func125, by kernel_rfl, by kernel_rfl⟩, fun c w cargs hh hv => ?_⟩
 have hsz : cargs.size = 2 := by rw [← hv.1]; rfl
 have ha := (hv.2 0 (by simp) (by omega)).str_inv
 have hb := (hv.2 1 (by simp) (by omega)).int_inv
 rw [args2 hsz, ha, hb]
 have hlen : (⟨s.toArray⟩ : ByteArray).size * n ≤ 140737488355328 := by
  have : (⟨s.toArray⟩ : ByteArray).size = s.length := by show s.toArray.size = _; simp
  rw [this]; exact hn
 refine Calls.mono (Any.strings_Repeat Tryz.repeat125 rep_extra ⟨s.toArray⟩ n w hn2 hlen) ?_
 rintro e w' ⟨rfl, hbl⟩
 obtain ⟨g1, g2⟩ := hh.below hbl
 exact ⟨_, _, c, _, ⟨rfl, rfl⟩, rfl, .str .., g1, g2⟩
def logN (i : Nat) : Bs := [108, 111, 103, 45] ++ Lib.repeatL [48] (8 - (Lib.decDigits i).length) ++ Lib.decDigits i
theorem dig_len : ∀ i, i < 100 → (Lib.decDigits i).length ≤ 2 := by decide +kernel
theorem rep_len : ∀ n, n ≤ 8 → (Lib.repeatL [48] n).length = n := by decide +kernel
theorem lname_tri (i : Nat) (hi : i < 100) : Tri Tryz.prog 72 [.int .i64 i] [] (fun v H => v = .str (logN i) ∧ H = []) := by
 refine Tri.of_run' Tryz.func72 rfl c72_ok (by simp [Tryz.ntmps72]) ?_
 (repeat (first | refine Run.adm rfl ?_ | refine Run.seq ?_ | ((first | apply Run.opS rfl | apply Run.condS); (· (simp -implicitDefEqProofs; first | exact ⟨rfl, rfl⟩ | exact rfl)))))
 refine Run.opC rfl rfl rfl (itoa_at i hi _) ?_
 rintro v h' ⟨rfl, rfl⟩
 have hd := dig_len i hi
 have hw := wrap_small (n := ((8 - (Lib.decDigits i).length : Nat) : Int)) (by omega) (by omega)
 have hn : 8 - ((Lib.decDigits i).length : Int) = ((8 - (Lib.decDigits i).length : Nat) : Int) := by omega
 have hr := rep_len (8 - (Lib.decDigits i).length) (by omega)
 (repeat (first | refine Run.adm rfl ?_ | refine Run.seq ?_ | ((first | apply Run.opS rfl | apply Run.condS); (· (simp -implicitDefEqProofs [hw, hn]; first | exact ⟨rfl, rfl⟩ | exact rfl)))))
 refine Run.opC rfl rfl rfl (repeat_at [48] (8 - (Lib.decDigits i).length) (by simp only [List.length_cons, List.length_nil]; omega) (by omega) _) ?_
 rintro v h' ⟨rfl, rfl⟩
 have h1 : (Lib.repeatL [48] (8 - (Lib.decDigits i).length)).length + 4 ≤ 4611686018427387904 := by omega
 have h2 : (Lib.repeatL [48] (8 - (Lib.decDigits i).length)).length + 4 + (Lib.decDigits i).length ≤ 4611686018427387904 := by omega
 have hln : logN i = [108, 111, 103, 45] ++ Lib.repeatL [48] (8 - (Lib.decDigits i).length) ++ Lib.decDigits i := rfl
 generalize Lib.repeatL [48] (8 - (Lib.decDigits i).length) = R at *
 generalize Lib.decDigits i = G at *
 have h3 : 4 + R.length ≤ 4611686018427387904 := by omega
 have h4 : R.length + 4 + G.length ≤ 4611686018427387904 := by omega
 (repeat (first | refine Run.adm rfl ?_ | refine Run.seq ?_ | ((first | apply Run.opS rfl | apply Run.condS); (· (simp -implicitDefEqProofs [h1, h2, h3, h4]; first | exact ⟨rfl, rfl⟩ | exact rfl)))))
 refine Run.retI Tryz.func72 r72_ok trivial (by simp -implicitDefEqProofs [r72]; rfl) (by simp ) ?_ (by simp -implicitDefEqProofs ) (by simp -implicitDefEqProofs )
 simp [hln]
theorem lname_at (i : Nat) (hi : i < 100) (H : List O) : Tri Tryz.prog 72 [.int .i64 i] H (fun v H' => v = .str (logN i) ∧ H' = H) := (lname_tri i hi).at rfl rfl H
theorem logN_ok : ∀ i, i < 100 → (logN i).all okB = true ∧ (logN i).length = 12 ∧ Lib.trimPrefix (logN i) [108, 111, 103, 45] = (logN i).drop 4 := by decide +kernel
theorem logN_may {i : Nat} (h : i < 100) : mayN (logN i) = true := by
 obtain ⟨h1, h2, -⟩ := logN_ok i h
 exact mayN_of _ h1 (fun e => by rw [e] at h2; simp at h2) (by omega)
def numN (s : Bs) : Nat := ((s.getD 10 0).toNat - 48) * 10 + ((s.getD 11 0).toNat - 48)
theorem numN_log : ∀ i, i < 100 → numN (logN i) = i := by decide +kernel
theorem logN_inj {i j : Nat} (hi : i < 100) (hj : j < 100) (h : logN i = logN j) : i = j := by
 rw [← numN_log i hi, h, numN_log j hj]
theorem logN_step : ∀ i, i < 99 → leB (logN i) (logN (i + 1)) = true := by decide +kernel
theorem logN_le {i : Nat} : ∀ d, i + d < 100 → leB (logN i) (logN (i + d)) = true
 | 0, _ => by simp only [leB, Nat.add_zero, decide_eq_true_eq]; exact List.le_refl _
 | d + 1, h => by
  have h1 := logN_le d (i := i) (by omega)
  have h2 := logN_step (i + d) (by omega)
  simp only [leB, decide_eq_true_eq] at h1 h2 ⊢
  exact List.le_trans h1 h2
end Go.Proofs.YthphkcpbglhabaaGreatDoor
namespace Sx
open Go Go.RowKit
set_option linter.unusedSimpArgs false
set_option linter.unusedVariables false
inductive CSh where
 | b
 | i (k : IntKind)
 | s
 | l (es : List CSh)
mutual
def VSh : CSh → V → Prop
 | .b, v => ∃ x, v = .bool x
 | .i k, v => ∃ n, v = .int k n ∧ (Lit.int k n).wf = true
 | .s, v => ∃ l, v = .str l
 | .l es, v => ∃ els, v = .vs els es.length ∧ ∀ e ∈ els, VShs es e
def VShs : List CSh → List V → Prop
 | [], [] => True
 | c :: cs, v :: vs => VSh c v ∧ VShs cs vs
 | _, _ => False
end
mutual
def cSh (P : Program) : Nat → TypeId → Option (List CSh)
 | 0, _ => none
 | n + 1, t => match P.underlying t with
  | some .bool => some [.b]
  | some (.int k) => some [.i k]
  | some .string => some [.s]
  | some (.slice e) => match cSh P n e with
   | some l => if l.length = P.cellsOf e ∧ 0 < l.length then some [.l l] else none
   | none => none
  | some (.struct fs) => match cShF P n fs.toList 0 with
   | some l => if l.length = P.cellsOf t then some l else none
   | none => none
  | some (.array m e) => match cSh P n e with
   | some l => if l.length = P.cellsOf e ∧ m * l.length = P.cellsOf t then some (List.replicate m l).flatten else none
   | none => none
  | _ => none
def cShF (P : Program) : Nat → List Field → Nat → Option (List CSh)
 | _, [], _ => some []
 | 0, _ :: _, _ => none
 | n + 1, f :: fs, off => match cSh P n f.type, cShF P n fs (off + P.cellsOf f.type) with
  | some l, some r => if f.offset = off ∧ l.length = P.cellsOf f.type then some (l ++ r) else none
  | _, _ => none
end
theorem VShs.len : ∀ {sh vs}, VShs sh vs → sh.length = vs.length
 | [], [], _ => rfl
 | _ :: sh, _ :: vs, h => by simp only [VShs] at h; simp [h.2.len]
 | [], _ :: _, h => by simp only [VShs] at h
 | _ :: _, [], h => by simp only [VShs] at h
theorem VShs.app : ∀ {a b x y}, VShs a x → VShs b y → VShs (a ++ b) (x ++ y)
 | [], b, [], y, _, h => h
 | _ :: a, b, _ :: x, y, h, k => by simp only [VShs] at h; simp only [List.cons_append, VShs]; exact ⟨h.1, h.2.app k⟩
 | [], _, _ :: _, _, h, _ => by simp only [VShs] at h
 | _ :: _, _, [], _, h, _ => by simp only [VShs] at h
def roOf (w : World) : Ro := fun b => match w.heap[b]? with
 | some (.cells cc _ _) => some cc
 | _ => none
theorem roOf_some {w : World} {b : Nat} {cc : Array Value} (h : roOf w b = some cc) : ∃ e fr, w.heap[b]? = some (.cells cc e fr) := by
 unfold roOf at h
 split at h
 ·rename_i cc' e fr hw; cases h; exact ⟨e, fr, hw⟩
 ·cases h
theorem cell_some {w : World} {a : Addr} {v : Value} (h : w.cell? a = some v) : ∃ cc, roOf w a.block = some cc ∧ a.spot = none ∧ cc[a.off]? = some v := by
 unfold World.cell? at h
 unfold roOf
 split at h
 ·rename_i cc e fr hw
  split at h
  ·cases h
  ·rename_i hs
   refine ⟨cc, by simp [hw], by simpa using hs, h⟩
 ·cases h
structure Told (w : World) (sh : List CSh) (cs : List Value) (vs : List V) : Prop where
 sh : VShs sh vs
 len : vs.length = cs.length
 ones : V.ones vs = true
 rel : ∀ i (h : i < vs.length) (h' : i < cs.length), VRel (roOf w) Pl.none vs[i] cs[i]
theorem Told.app {w sh sh' cs cs' vs vs'} (h : Told w sh cs vs) (k : Told w sh' cs' vs') : Told w (sh ++ sh') (cs ++ cs') (vs ++ vs') := by
 refine ⟨h.sh.app k.sh, by simp [h.len, k.len], ones_append h.ones k.ones, fun i a b => ?_⟩
 by_cases hi : i < vs.length
 ·rw [List.getElem_append_left hi, List.getElem_append_left (by rw [← h.len]; exact hi)]; exact h.rel _ _ _
 ·rw [List.getElem_append_right (by omega), List.getElem_append_right (by rw [← h.len]; omega)]
  simp only [h.len]
  exact k.rel _ _ _
theorem Told.one {w c v cv} (h1 : VSh c v) (h2 : v.one = true) (h3 : VRel (roOf w) Pl.none v cv) : Told w [c] [cv] [v] :=
 ⟨by simp only [VShs]; exact ⟨h1, trivial⟩, rfl, by simp [V.ones, h2], fun i a b => by
  have : i = 0 := by simpa using a
  subst this; exact h3⟩
theorem mapM_get {α β} {f : α → Option β} {l : List α} {r : List β} (h : l.mapM f = some r) : l.length = r.length ∧ ∀ i (h : i < l.length) (h' : i < r.length), f l[i] = some r[i] := mapM_some f l r h
theorem choose_list {α : Type} (Q : Nat → α → Prop) : ∀ n, (∀ i, i < n → ∃ x, Q i x) → ∃ l : List α, l.length = n ∧ ∀ i (h : i < l.length), Q i l[i]
 | 0, _ => ⟨[], rfl, fun i h => by simp at h⟩
 | n + 1, h => by
  obtain ⟨l, h1, h2⟩ := choose_list Q n fun i hi => h i (by omega)
  obtain ⟨x, hx⟩ := h n (by omega)
  refine ⟨l ++ [x], by simp [h1], fun i hi => ?_⟩
  by_cases e : i < l.length
  ·rw [List.getElem_append_left e]; exact h2 i e
  ·have : i = n := by simp at hi; omega
   subst this
   rw [List.getElem_append_right (by omega)]; simpa using hx
section
variable {H : Type} {enc : TypeId × Value → H} {P : Program} {w : World} {base : Nat}
theorem rd_fields {fuel : Nat} (ih : ∀ {t : TypeId} {cs : List Value} {d ps n sh}, DataW.trod enc P w 0 (fun _ => true) true fuel t cs = some (d, ps) → cSh P n t = some sh → ∃ vs, Told w sh cs vs) :
  ∀ {fs : List Field} {off n : Nat} {sh : List CSh} {cs : List Value} {r}, cShF P n fs off = some sh → off + sh.length ≤ cs.length → fs.mapM (fun f => DataW.trod enc P w 0 (fun _ => true) true fuel f.type ((cs.drop f.offset).take (P.cellsOf f.type))) = some r →
   ∃ vs, Told w sh ((cs.drop off).take sh.length) vs
 | [], off, n, sh, cs, r, h1, h2, h3 => by
  cases n <;> (simp only [cShF] at h1; cases h1) <;> exact ⟨[], ⟨trivial, by simp, rfl, fun i h => by simp at h⟩⟩
 | f :: fs, off, 0, sh, cs, r, h1, h2, h3 => by simp only [cShF] at h1; cases h1
 | f :: fs, off, n + 1, sh, cs, r, h1, h2, h3 => by
  simp only [cShF] at h1
  split at h1
  ·rename_i l rr hl hr
   split at h1 <;> cases h1
   rename_i hc
   obtain ⟨rfl, hcl⟩ := hc
   simp only [List.mapM_cons] at h3
   cases hf : DataW.trod enc P w 0 (fun _ => true) true fuel f.type ((cs.drop f.offset).take (P.cellsOf f.type)) with
   | none => simp [hf] at h3
   | some dp =>
    cases hfs : fs.mapM (fun f => DataW.trod enc P w 0 (fun _ => true) true fuel f.type ((cs.drop f.offset).take (P.cellsOf f.type))) with
    | none => simp [hf, hfs] at h3
    | some r' =>
     obtain ⟨v1, k1⟩ := ih (d := dp.1) (ps := dp.2) hf hl
     simp only [List.length_append] at h2
     obtain ⟨v2, k2⟩ := rd_fields ih hr (by omega) hfs
     refine ⟨v1 ++ v2, ?_⟩
     have := k1.app k2
     have e : (cs.drop f.offset).take (P.cellsOf f.type) ++ (cs.drop (f.offset + P.cellsOf f.type)).take rr.length = (cs.drop f.offset).take (l ++ rr).length := by
      rw [List.length_append, hcl, List.take_add, List.drop_drop]
     rwa [e] at this
  ·cases h1
theorem rd_array {fuel : Nat} (ih : ∀ {t : TypeId} {cs : List Value} {d ps n sh}, DataW.trod enc P w 0 (fun _ => true) true fuel t cs = some (d, ps) → cSh P n t = some sh → ∃ vs, Told w sh cs vs) {e : TypeId} {n : Nat} {l : List CSh} (hl : cSh P n e = some l) (hc : l.length = P.cellsOf e) {cs : List Value} :
  ∀ m, m * l.length ≤ cs.length → (∀ i, i < m → ∃ x, DataW.trod enc P w 0 (fun _ => true) true fuel e ((cs.drop (i * P.cellsOf e)).take (P.cellsOf e)) = some x) → ∃ vs, Told w (List.replicate m l).flatten (cs.take (m * l.length)) vs
 | 0, _, _ => ⟨[], ⟨trivial, by simp, rfl, fun i h => by simp at h⟩⟩
 | m + 1, h1, h2 => by
  have hm : (m + 1) * l.length = m * l.length + l.length := by rw [Nat.add_mul, Nat.one_mul]
  obtain ⟨v1, k1⟩ := rd_array ih hl hc m (by omega) fun i hi => h2 i (by omega)
  obtain ⟨x, hx⟩ := h2 m (by omega)
  obtain ⟨v2, k2⟩ := ih (d := x.1) (ps := x.2) hx hl
  refine ⟨v1 ++ v2, ?_⟩
  have := k1.app k2
  have e1 : (List.replicate m l).flatten ++ l = (List.replicate (m + 1) l).flatten := by rw [List.replicate_succ', List.flatten_append]; simp
  have e2 : cs.take (m * l.length) ++ (cs.drop (m * P.cellsOf e)).take (P.cellsOf e) = cs.take ((m + 1) * l.length) := by rw [hm, List.take_add, hc]
  rwa [e1, e2] at this
theorem trod_bool {fuel t cs x} (hu : P.underlying t = some .bool) (h : DataW.trod enc P w 0 (fun _ => true) true (fuel + 1) t cs = some x) : ∃ b, cs = [.bool b] := by
 simp only [DataW.trod, hu] at h
 rcases cs with _ | ⟨v, _ | ⟨u, r⟩⟩
 ·simp at h
 ·cases v <;> simp at h; exact ⟨_, rfl⟩
 ·cases v <;> simp at h
theorem trod_int {fuel t cs x k} (hu : P.underlying t = some (.int k)) (h : DataW.trod enc P w 0 (fun _ => true) true (fuel + 1) t cs = some x) : ∃ n, cs = [.int k n] ∧ (Lit.int k n).wf = true := by
 simp only [DataW.trod, hu] at h
 rcases cs with _ | ⟨v, _ | ⟨u, r⟩⟩
 ·simp at h
 ·cases v <;> simp at h
  obtain ⟨⟨rfl, h2⟩, _⟩ := h
  exact ⟨_, rfl, h2⟩
 ·cases v <;> simp at h
theorem trod_str {fuel t cs x} (hu : P.underlying t = some .string) (h : DataW.trod enc P w 0 (fun _ => true) true (fuel + 1) t cs = some x) : ∃ s, cs = [.string s] := by
 simp only [DataW.trod, hu] at h
 rcases cs with _ | ⟨v, _ | ⟨u, r⟩⟩
 ·simp at h
 ·cases v <;> simp at h; exact ⟨_, rfl⟩
 ·cases v <;> simp at h
theorem trod_slice {fuel t cs x e} (hu : P.underlying t = some (.slice e)) (h : DataW.trod enc P w 0 (fun _ => true) true (fuel + 1) t cs = some x) : cs = [.slice none 0 0] ∨
  ∃ a len cap, cs = [.slice (some a) len cap] ∧ len ≤ cap ∧ ∀ i, i < cap → ∃ l y, w.cells? 0 (a.add (i * P.cellsOf e)) (P.cellsOf e) = some l ∧ DataW.trod enc P w 0 (fun _ => true) true fuel e l = some y := by
 simp only [DataW.trod, hu] at h
 rcases cs with _ | ⟨v, _ | ⟨u, r⟩⟩
 ·simp at h
 ·cases v <;> try (simp at h; done)
  rename_i a len cap
  cases a with
  | none =>
   left
   cases len <;> cases cap <;> simp at h ⊢
  | some a =>
   right
   refine ⟨a, len, cap, rfl, ?_⟩
   dsimp only at h
   split at h
   ·rename_i hc
    refine ⟨hc.2.1, fun i hi => ?_⟩
    simp only [Option.bind_eq_some_iff, if_true, Option.map_eq_some_iff] at h
    obtain ⟨elems, h1, rest, h2, _⟩ := h
    have key : ∃ y, (w.cells? 0 (a.add (i * P.cellsOf e)) (P.cellsOf e)).bind (DataW.trod enc P w 0 (fun _ => true) true fuel e) = some y := by
     by_cases hl : i < len
     ·obtain ⟨g1, g2⟩ := mapM_get h1
      have := g2 i (by simpa using hl) (by rw [← g1]; simpa using hl)
      simp only [List.getElem_range] at this
      exact ⟨_, this⟩
     ·obtain ⟨g1, g2⟩ := mapM_get h2
      have hj : i - len < cap - len := by omega
      have := g2 (i - len) (by simpa using hj) (by rw [← g1]; simpa using hj)
      simp only [List.getElem_range] at this
      rw [show len + (i - len) = i by omega] at this
      exact ⟨_, this⟩
    obtain ⟨y, hy⟩ := key
    obtain ⟨l, e1, e2⟩ := Option.bind_eq_some_iff.1 hy
    exact ⟨l, y, e1, e2⟩
   ·cases h
 ·cases v <;> simp at h
theorem trod_struct {fuel t cs x fs} (hu : P.underlying t = some (.struct fs)) (h : DataW.trod enc P w 0 (fun _ => true) true (fuel + 1) t cs = some x) : cs.length = P.cellsOf t ∧
  ∃ r, fs.toList.mapM (fun f => DataW.trod enc P w 0 (fun _ => true) true fuel f.type ((cs.drop f.offset).take (P.cellsOf f.type))) = some r := by
 simp only [DataW.trod, hu] at h
 split at h
 ·rename_i hc
  simp only [Option.map_eq_some_iff] at h
  obtain ⟨r, hr, _⟩ := h
  exact ⟨hc, r, hr⟩
 ·cases h
theorem trod_array {fuel t cs x m e} (hu : P.underlying t = some (.array m e)) (h : DataW.trod enc P w 0 (fun _ => true) true (fuel + 1) t cs = some x) : cs.length = P.cellsOf t ∧
  ∀ i, i < m → ∃ y, DataW.trod enc P w 0 (fun _ => true) true fuel e ((cs.drop (i * P.cellsOf e)).take (P.cellsOf e)) = some y := by
 simp only [DataW.trod, hu] at h
 split at h
 ·rename_i hc
  simp only [Option.map_eq_some_iff] at h
  obtain ⟨r, hr, _⟩ := h
  refine ⟨hc, fun i hi => ?_⟩
  obtain ⟨g1, g2⟩ := mapM_get hr
  have := g2 i (by simpa using hi) (by rw [← g1]; simpa using hi)
  simp only [List.getElem_range] at this
  exact ⟨_, this⟩
 ·cases h
theorem add_off (a : Addr) (n : Nat) (hs : a.spot = none) : a.add n = ⟨a.block, a.off + n, none⟩ := by
 unfold Addr.add
 split
 ·rename_i h; subst h; cases a; simp at hs; subst hs; rfl
 ·rfl
theorem rd : ∀ {fuel : Nat} {t : TypeId} {cs : List Value} {d ps n sh}, DataW.trod enc P w 0 (fun _ => true) true fuel t cs = some (d, ps) → cSh P n t = some sh → ∃ vs, Told w sh cs vs
 | 0, t, cs, d, ps, n, sh, h, _ => by simp [DataW.trod] at h
 | fuel + 1, t, cs, d, ps, 0, sh, h, hs => by simp [cSh] at hs
 | fuel + 1, t, cs, d, ps, n + 1, sh, h, hs => by
  have ih : ∀ {t : TypeId} {cs : List Value} {d ps n sh}, DataW.trod enc P w 0 (fun _ => true) true fuel t cs = some (d, ps) → cSh P n t = some sh → ∃ vs, Told w sh cs vs := rd
  simp only [cSh] at hs
  split at hs
  ·rename_i hu
   cases hs
   obtain ⟨b, rfl⟩ := trod_bool hu h
   exact ⟨_, Told.one (by simp only [VSh]; exact ⟨b, rfl⟩) rfl (.bool ..)⟩
  ·rename_i k hu
   cases hs
   obtain ⟨m, rfl, hw⟩ := trod_int hu h
   exact ⟨_, Told.one (by simp only [VSh]; exact ⟨m, rfl, hw⟩) rfl (.int ..)⟩
  ·rename_i hu
   cases hs
   obtain ⟨s, rfl⟩ := trod_str hu h
   refine ⟨[.str s.data.toList], Told.one (by simp only [VSh]; exact ⟨_, rfl⟩) rfl ?_⟩
   have : s = ⟨s.data.toList.toArray⟩ := by cases s; simp
   have h2 := VRel.str (ro := roOf w) Pl.none s.data.toList
   rw [← this] at h2; exact h2
  ·rename_i e hu
   split at hs
   ·rename_i l hl
    split at hs <;> cases hs
    rename_i hc
    obtain ⟨hc1, hc2⟩ := hc
    rcases trod_slice hu h with rfl | ⟨a, len, cap, rfl, hlc, hel⟩
    ·exact ⟨[.vs [] l.length], Told.one (by simp only [VSh]; exact ⟨[], rfl, fun e he => by simp at he⟩) rfl (.vsnil ..)⟩
    ·by_cases hcap : cap = 0
     ·subst hcap
      have : len = 0 := by omega
      subst this
      exact ⟨[.vs [] l.length], Told.one (by simp only [VSh]; exact ⟨[], rfl, fun e he => by simp at he⟩) rfl (.vsnil ..)⟩
     ·have hsz : 0 < P.cellsOf e := by omega
      -- the row that it lies in
      obtain ⟨l0, y0, c0, _⟩ := hel 0 (by omega)
      have hcell : ∀ {i : Nat} {l' : List Value}, w.cells? 0 (a.add (i * P.cellsOf e)) (P.cellsOf e) = some l' → l'.length = P.cellsOf e ∧ ∀ j (hj : j < l'.length), w.cell? ((a.add (i * P.cellsOf e)).add j) = some l'[j] := by
       intro i l' hl'
       simp only [World.cells?, Nat.zero_le, if_true] at hl'
       obtain ⟨g1, g2⟩ := mapM_get hl'
       refine ⟨by simpa using g1.symm, fun j hj => ?_⟩
       have := g2 j (by rw [g1]; exact hj) hj
       simpa using this
      obtain ⟨z1, z2⟩ := hcell c0
      have := z2 0 (by omega)
      have e0 : (a.add (0 * P.cellsOf e)).add 0 = a := by simp [Addr.add]
      rw [e0] at this
      obtain ⟨cc, hro, hspot, _⟩ := cell_some this
      have hget : ∀ i j (x : Value), w.cell? ((a.add (i * P.cellsOf e)).add j) = some x → cc[a.off + i * P.cellsOf e + j]? = some x := by
       intro i j x hx
       rw [add_off a _ hspot, add_off _ _ rfl] at hx
       obtain ⟨cc', h1, _, h3⟩ := cell_some hx
       simp only at h1 h3
       rw [hro] at h1; cases h1; exact h3
      obtain ⟨els, k1, k2⟩ := choose_list (fun i (vs : List V) => ∃ l' : List Value, (∀ j (hj : j < l'.length), cc[a.off + i * P.cellsOf e + j]? = some l'[j]) ∧ l'.length = P.cellsOf e ∧ Told w l l' vs) len fun i hi => by
       obtain ⟨l', y, e1, e2⟩ := hel i (by omega)
       obtain ⟨vs, hvs⟩ := ih (d := y.1) (ps := y.2) e2 hl
       obtain ⟨g1, g2⟩ := hcell e1
       exact ⟨vs, l', fun j hj => hget i j _ (g2 j hj), g1, hvs⟩
      have hlen : ∀ i (h : i < els.length), els[i].length = l.length := fun i h => by obtain ⟨_, _, _, ht⟩ := k2 i h; exact ht.sh.len.symm
      have hrel : VRel (roOf w) Pl.none (.vs els l.length) (.slice (some a) els.length cap) := by
       have ha : a = ⟨a.block, a.off, none⟩ := by cases a; simp at hspot; subst hspot; rfl
       rw [ha]
       refine .vs _ els l.length a.block a.off cap cc (fun i j => (cc[a.off + i * P.cellsOf e + j]?).getD undef) hro (by omega) hlen (fun x hx => ?_) (fun i j hi hj => ?_) (fun i hi j hj => ?_)
       ·obtain ⟨i, hi, rfl⟩ := List.mem_iff_getElem.1 hx
        obtain ⟨_, _, _, ht⟩ := k2 i hi; exact ht.ones
       ·obtain ⟨l', q1, q2, _⟩ := k2 i hi
        rw [hc1, q1 j (by omega)]; rfl
       ·obtain ⟨l', q1, q2, ht⟩ := k2 i hi
        have hj' : j < l'.length := by rw [← ht.len]; exact hj
        simp only [q1 j hj', Option.getD_some]
        exact ht.rel j hj hj'
      rw [k1] at hrel
      refine ⟨[.vs els l.length], Told.one (by
       simp only [VSh]
       refine ⟨els, rfl, fun x hx => ?_⟩
       obtain ⟨i, hi, rfl⟩ := List.mem_iff_getElem.1 hx
       obtain ⟨_, _, _, ht⟩ := k2 i hi; exact ht.sh) rfl hrel⟩
   ·cases hs
  ·rename_i fs hu
   split at hs
   ·rename_i l hl
    split at hs <;> cases hs
    rename_i hc
    obtain ⟨h1, r, h2⟩ := trod_struct hu h
    obtain ⟨vs, hvs⟩ := rd_fields ih hl (by omega) h2
    refine ⟨vs, ?_⟩
    rw [List.drop_zero, List.take_of_length_le (by omega)] at hvs
    exact hvs
   ·cases hs
  ·rename_i m e hu
   split at hs
   ·rename_i l hl
    split at hs <;> cases hs
    rename_i hc
    obtain ⟨h1, h2⟩ := trod_array hu h
    obtain ⟨vs, hvs⟩ := rd_array ih hl hc.1 m (by omega) h2
    refine ⟨vs, ?_⟩
    rw [List.take_of_length_le (by omega)] at hvs
    exact hvs
   ·cases hs
  ·cases hs
theorem rd_one {t : TypeId} {v : Value} {d ps n c} (h : DataW.Trod enc P w 0 (fun _ => true) true t v d ps) (hok : Value.okWide P w .any base t v) (hs : cSh P n t = some [c]) (hu : (match P.underlying t with | some (.struct _) | some (.array _ _) => false | _ => true) = true) :
  ∃ x, VSh c x ∧ VRel (roOf w) Pl.none x v := by
 obtain ⟨fuel, h⟩ := h
 obtain ⟨vs, hvs⟩ := rd h hs
 have hv : v.cells = #[v] := by
  cases v with
  | agg cs =>
   exfalso
   unfold Value.okWide at hok
   split at hok
   ·rename_i heq; simp [heq] at hu
   ·rename_i heq; simp [heq] at hu
   ·unfold Cell.okWide at hok
    split at hok <;> simp_all [Cell.ok]
  | _ => rfl
 rw [hv] at hvs
 obtain ⟨h1, h2, h3, h4⟩ := hvs
 match vs, h1, h2, h4 with
 | [x], h1, _, h4 =>
  simp only [VShs] at h1
  exact ⟨x, h1.1, h4 0 (by simp) (by simp)⟩
end
theorem vrels0 {ro m} : VRels ro m [] #[] := VRels.nil ro m
theorem vrelsC {ro m v x vs} {xs : Array Value} (h : VRel ro m v x) (k : VRels ro m vs xs) : VRels ro m (v :: vs) (#[x] ++ xs) := by
 refine ⟨by have := k.1; simp; omega, fun i a b => ?_⟩
 cases i with
 | zero => simpa using h
 | succ i =>
  have := k.2 i (by simpa using a) (by simp at b; omega)
  simpa [Array.getElem_append] using this
theorem vs_map {α : Type} {f : α → List V} : ∀ {els : List (List V)}, (∀ e ∈ els, ∃ x, e = f x) → ∃ l : List α, els = l.map f
 | [], _ => ⟨[], rfl⟩
 | e :: els, h => by
  obtain ⟨x, rfl⟩ := h e List.mem_cons_self
  obtain ⟨l, rfl⟩ := vs_map fun e he => h e (List.mem_cons_of_mem _ he)
  exact ⟨x :: l, rfl⟩
theorem dec_sl {α : Type} {f : α → List V} {es : List CSh} {n : Nat} (hn : es.length = n) (hd : ∀ e, VShs es e → ∃ x, e = f x) {v : V} (h : VSh (.l es) v) : ∃ l : List α, v = .vs (l.map f) n := by
 simp only [VSh] at h
 obtain ⟨els, rfl, h2⟩ := h
 obtain ⟨l, rfl⟩ := vs_map fun e he => hd e (h2 e he)
 exact ⟨l, by rw [hn]⟩
theorem dec_cons {c : CSh} {cs : List CSh} {e : List V} (h : VShs (c :: cs) e) : ∃ v vs, e = v :: vs ∧ VSh c v ∧ VShs cs vs := by
 cases e with
 | nil => simp only [VShs] at h
 | cons v vs => simp only [VShs] at h; exact ⟨v, vs, rfl, h⟩
theorem dec_nil {e : List V} (h : VShs [] e) : e = [] := by
 cases e with
 | nil => rfl
 | cons v vs => simp only [VShs] at h
theorem dec_i {k : IntKind} {v : V} (h : VSh (.i k) v) : ∃ n, v = .int k n ∧ (Lit.int k n).wf = true := by simpa only [VSh] using h
theorem dec_s {v : V} (h : VSh .s v) : ∃ l, v = .str l := by simpa only [VSh] using h
def GlW (w : World) : Prop := ∀ b cs, gl b = some cs → roOf w b = some cs
theorem tri_law {P : Program} {f : FuncId} {as0 : List V} (ht : Tri P f as0 [] (fun v H => v = .bool true ∧ H = [])) {w : World} {cargs : Array Value} (hg : GlW w) (ha : VRels (roOf w) Pl.none as0 cargs) :
  Calls P f cargs w fun e w' => e = .returned (.bool true) ∧ Below w.heap.size w w' := by
 have hh : HRel ⟨Pl.none, roOf w⟩ w [] := ⟨fun b cs hb => roOf_some hb, fun i p h => (by cases h), fun i o h => (by simp at h), fun i j p q hi => (by obtain ⟨o, ho, _⟩ := hi; simp at ho), hg⟩
 refine (ht.2 ⟨Pl.none, roOf w⟩ w cargs hh ha).mono ?_
 rintro e w' ⟨v, H', c', cv, ⟨rfl, rfl⟩, rfl, hv, _, hadv⟩
 rw [hv.bool_inv]
 refine ⟨rfl, hadv.os, hadv.tape, hadv.output, hadv.size, fun k hk => hadv.frame k hk ?_⟩
 rintro ⟨i, p, ⟨o, ho, _⟩, _⟩
 simp at ho
end Sx
namespace Go.Proofs.YthphkcpbglhabaaGreatDoor
open Sx Go Go.RowKit Go.Shelf
set_option maxRecDepth 100000
set_option linter.unusedSimpArgs false
set_option linter.unusedVariables false
set_option linter.unnecessarySimpa false
theorem glw_below {w w' : World} (h : GlW w) (hb : Below w.heap.size w w') : GlW w' := fun b cs hc => by
 have h1 := h b cs hc
 obtain ⟨e, fr, h2⟩ := roOf_some h1
 have h3 : w'.heap[b]? = some (.cells cs e fr) := (hb.block b (Array.getElem?_eq_some_iff.1 h2).1).trans h2
 simp only [roOf, h3]
theorem hrel_glw {c : Ctx} {w : World} {H : List O} (hh : HRel c w H) : GlW w := fun b cs hc => by
 obtain ⟨e, fr, h2⟩ := hh.ro b cs (hh.glob b cs hc)
 simp only [roOf, h2]
theorem lname_calls (i : Nat) (hi : i < 100) (w : World) (hg : GlW w) : Calls Tryz.prog 72 #[.int .i64 i] w fun e w' => e = .returned (.string ⟨(logN i).toArray⟩) ∧ Below w.heap.size w w' := by
 have hh : HRel ⟨Pl.none, roOf w⟩ w [] := ⟨fun b cs hb => roOf_some hb, fun i p h => (by cases h), fun i o h => (by simp at h), fun i j p q hi => (by obtain ⟨o, ho, _⟩ := hi; simp at ho), hg⟩
 refine ((lname_tri i hi).2 ⟨Pl.none, roOf w⟩ w #[.int .i64 i] hh (vrelsC (.int ..) vrels0)).mono ?_
 rintro e w' ⟨v, H', c', cv, ⟨rfl, rfl⟩, rfl, hv, _, hadv⟩
 rw [hv.str_inv]
 refine ⟨rfl, hadv.os, hadv.tape, hadv.output, hadv.size, fun k hk => hadv.frame k hk ?_⟩
 rintro ⟨i, p, ⟨o, ho, _⟩, _⟩
 simp at ho
theorem logN_atoi : ∀ i, i < 100 → Lib.atoiAll ((logN i).drop 4) = .ok (i : Int) := by decide +kernel
theorem number_calls (i : Nat) (hi : i < 100) (w : World) (hg : GlW w) : Calls Tryz.prog 122 #[.string ⟨(logN i).toArray⟩] w fun e w' => e = .returned (.tuple #[.int .i64 i, .bool true]) ∧ Below w.heap.size w w' := by
 obtain ⟨h1, h2, h3⟩ := logN_ok i hi
 have ht : ∀ W, Calls Tryz.prog 159 #[.string ⟨(logN i).toArray⟩, .string ⟨#[108, 111, 103, 45]⟩] W fun e w' => e = .returned (.string ⟨((logN i).drop 4).toArray⟩) ∧ w' = W := fun W => by
  have h : Calls Tryz.prog 159 #[.string ⟨(logN i).toArray⟩, .string ⟨#[108, 111, 103, 45]⟩] W fun e w' => e = .returned (.string ⟨(Lib.trimPrefix (⟨(logN i).toArray⟩ : ByteArray).data.toList (⟨#[108, 111, 103, 45]⟩ : ByteArray).data.toList).toArray⟩) ∧ w' = W := Any.strings_TrimPrefix Tryz.trim159 ⟨(logN i).toArray⟩ ⟨#[108, 111, 103, 45]⟩ W
  simpa [h3] using h
 have hl4 : ((logN i).drop 4).length = 8 := by rw [List.length_drop, h2]
 have ha : ∀ W, Calls Tryz.prog 158 #[.string ⟨((logN i).drop 4).toArray⟩] W fun e w' => e = .returned (.tuple #[.int .i64 (i : Int), .nilIface]) ∧ (w' = W ∨ ∃ t, w' = Lib.bytesWorld W 5 t) := fun W =>
  Any.strconv_Atoi_ok Tryz.atoi158 ⟨((logN i).drop 4).toArray⟩ (by show ((logN i).drop 4).toArray.size ≤ _; rw [List.size_toArray, hl4]; decide) i (by simpa using logN_atoi i hi) W
 have i1 : (0 : Int) ≤ i := by omega
 have i2 : (i : Int) ≤ 99999998 := by omega
 go_enter Tryz.func122, Tryz.ntmps122
 go_wp2_with (first
  | (go_at_call 159; refine (ht _).mono ?_; rintro e w' ⟨rfl, rfl⟩)
  | (go_at_call 158; refine (ha _).mono ?_; rintro e w' ⟨rfl, (rfl | ⟨t, rfl⟩)⟩)
  | (go_at_call 72; refine (lname_calls i hi _ (by first | exact hg | exact glw_below hg (Lib.bytesWorld_below _ 5 _))).mono ?_; rintro e w' ⟨rfl, hb⟩))
 ·go_ret2
  exact ⟨rfl, hb⟩
 ·go_ret2
  exact ⟨rfl, (Lib.bytesWorld_below _ 5 _).trans (hb.mono (Lib.bytesWorld_below _ 5 _).size)⟩
theorem number_at (i : Nat) (hi : i < 100) (H : List O) : Tri Tryz.prog 122 [.str (logN i)] H (fun v H' => v = .tup [.int .i64 i, .bool true] ∧ H' = H) := by
 refine ⟨⟨Tryz.f122, Tryz.func122, by kernel_rfl, by kernel_rfl⟩, fun c w cargs hh hv => ?_⟩
 have hsz : cargs.size = 1 := by rw [← hv.1]; rfl
 have ha := (hv.2 0 (by simp) (by omega)).str_inv
 rw [args1 hsz, ha]
 refine Calls.mono (number_calls i hi w (hrel_glw hh)) ?_
 rintro e w' ⟨rfl, hbl⟩
 obtain ⟨g1, g2⟩ := hh.below hbl
 refine ⟨_, _, c, _, ⟨rfl, rfl⟩, rfl, ?_, g1, g2⟩
 refine .tup _ _ _ rfl fun j h h' => ?_
 have : j = 0 ∨ j = 1 := by simp at h; omega
 rcases this with rfl | rfl
 ·exact .int ..
 ·exact .bool ..
open Sx Go
attribute [local simp] stepV condR boundsC appendG appendO copyV srcC guardB isCall opStep Opd.ev put readAt aBin aUn args0 V.celled V.ones V.one V.cells putAt bounds bound1 elemsOf srcOf appendV fillAt fillEl V.pures V.pure unwind evs ARes.ev mkRes V.ren V.renL O.ren eqCells eq1 aEq aMM hasTy hasTyN okTy mmGo Known HLe OLe VsLe.refl VLe.refl VLe.cap Stay VsLe V.frz V.frzL O.frz fr clearV rn KnownR Objs OLeO ObjsE nm back V.calls setAll ren_ite take_map_len List.take_of_length_le
attribute [local simp ↓] upd_app tl_cons tl_nil
attribute [local simp] encS_ren encS_ones encS_len encS_take KnownS VLe.refl
theorem given_tri (X : List O) {lg d : Nat} {s : V} {n : Int} (h : X[lg]? = some (.row [.ptr d 0, s, .int .i64 n])) : Tri Tryz.prog 76 [.ptr lg 0] X (fun v H => v = .bool true ∧ H = X) := by
 refine Tri.of_run' Tryz.func76 rfl c76_ok (by simp [Tryz.ntmps76]) ?_
 (repeat (first | refine Run.adm rfl ?_ | refine Run.seq ?_ | ((first | apply Run.opS rfl | apply Run.condS); (· (simp -implicitDefEqProofs [h]; first | exact ⟨rfl, rfl⟩ | exact rfl)))))
 refine Run.retS Tryz.func76 r76_ok trivial (by simp [r76]; rfl) ?_
 exact ⟨by simp, rfl⟩
theorem last_tri (X : List O) {lg d : Nat} {s : V} {n : Int} (h : X[lg]? = some (.row [.ptr d 0, s, .int .i64 n])) : Tri Tryz.prog 39 [.ptr lg 0] X (fun v H => v = .int .i64 n ∧ H = X) := by
 refine Tri.of_run' Tryz.func39 rfl c39_ok (by simp [Tryz.ntmps39]) ?_
 (repeat (first | refine Run.adm rfl ?_ | refine Run.seq ?_ | ((first | apply Run.opS rfl | apply Run.condS); (· (simp -implicitDefEqProofs; first | exact ⟨rfl, rfl⟩ | exact rfl)))))
 refine Run.opC rfl rfl rfl (given_tri X h) ?_
 rintro v H ⟨rfl, rfl⟩
 (repeat (first | refine Run.adm rfl ?_ | refine Run.seq ?_ | ((first | apply Run.opS rfl | apply Run.condS); (· (simp -implicitDefEqProofs [h]; first | exact ⟨rfl, rfl⟩ | exact rfl)))))
 refine Run.retS Tryz.func39 r39_ok trivial (by simp [r39]; rfl) ?_
 exact ⟨by simp, rfl⟩
theorem flush_own {X : List O} {L : List Nat} {d : Nat} {D : Dk} {Y : List O} (ho : Own X L d D Y) {lg : Nat} {s : V} {n : Nat} (hn : n < 100) (h : Y[lg]? = some (.row [.ptr d 0, s, .int .i64 n])) :
  Tri Tryz.prog 81 [.ptr lg 0] Y (fun v Z => v = .int .i64 (syncD D (logN n)).1 ∧ Own X L d (syncD D (logN n)).2 Z ∧ StayL L Y Z) := by
 refine Tri.of_run' Tryz.func81 rfl c81_ok (by simp [Tryz.ntmps81]) ?_
 (repeat (first | refine Run.adm rfl ?_ | refine Run.seq ?_ | ((first | apply Run.opS rfl | apply Run.condS); (· (simp -implicitDefEqProofs; first | exact ⟨rfl, rfl⟩ | exact rfl)))))
 refine Run.opC rfl rfl rfl (given_tri Y h) ?_
 rintro v H ⟨rfl, rfl⟩
 (repeat (first | refine Run.adm rfl ?_ | refine Run.seq ?_ | ((first | apply Run.opS rfl | apply Run.condS); (· (simp -implicitDefEqProofs; first | exact ⟨rfl, rfl⟩ | exact rfl)))))
 refine Run.qchain prog_mixed 9 (by kernel_rfl) ?_
 (repeat (first | refine execQ_E rfl ?_ | (apply execQ_S rfl; (· (simp -implicitDefEqProofs [h]; exact ⟨rfl, rfl⟩)))))
 refine execQ_C rfl rfl rfl (lname_at n hn _) ?_
 (repeat (first | refine execQ_E rfl ?_ | (apply execQ_S rfl; (· (simp -implicitDefEqProofs; exact ⟨rfl, rfl⟩)))))
 refine SeqR.C rfl rfl rfl (sync_own ho (logN n)) ?_
 rintro v Z ⟨rfl, hZ, hst⟩
 (repeat (first | refine SeqR.E rfl ?_ | (apply SeqR.o0 rfl; (· (simp -implicitDefEqProofs; exact ⟨rfl, rfl⟩))) | (apply SeqR.A rfl; (· (simp -implicitDefEqProofs; done)); (· (simp -implicitDefEqProofs; exact ⟨rfl, rfl⟩))) | (apply SeqR.N rfl; (· (simp -implicitDefEqProofs; done)))))
 (repeat (first | refine Run.adm rfl ?_ | refine Run.seq ?_ | ((first | apply Run.opS rfl | apply Run.condS); (· (simp -implicitDefEqProofs; first | exact ⟨rfl, rfl⟩ | exact rfl)))))
 refine Run.retS Tryz.func81 r81_ok trivial (by simp [r81]; rfl) ?_
 exact ⟨by simp, hZ, hst⟩
attribute [local simp ↓] upd_app tl_cons tl_nil
theorem made_own {X : List O} {L : List Nat} {d : Nat} {D : Dk} {Y : List O} (ho : Own X L d D Y) : Tri Tryz.prog 68 [.ptr d 0] Y (fun v Z => v = .bool true ∧ Own X L d D Z ∧ StayL L Y Z) := by
 refine Tri.of_run' Tryz.func68 rfl c68_ok (by simp [Tryz.ntmps68]) ?_
 (repeat (first | refine Run.adm rfl ?_ | refine Run.seq ?_ | ((first | apply Run.opS rfl | apply Run.condS); (· (simp -implicitDefEqProofs; first | exact ⟨rfl, rfl⟩ | exact rfl)))))
 refine Run.opC rfl rfl rfl (sure_own ho [97]) ?_
 rintro v Z ⟨rfl, hZ, hst⟩
 have hne : ¬ (sureD D [97]).2 = 1 := by
  unfold sureD lookE
  rw [if_pos may_a]
  by_cases h1 : D.off = true
  ·simp [h1]
  ·cases h2 : fileOf D.files [97] <;> simp [h1]
 generalize sureD D [97] = r at *
 (repeat (first | refine Run.adm rfl ?_ | refine Run.seq ?_ | ((first | apply Run.opS rfl | apply Run.condS); (· (simp -implicitDefEqProofs [hne]; first | exact ⟨rfl, rfl⟩ | exact rfl)))))
 refine Run.retS Tryz.func68 r68_ok trivial (by simp [r68]; rfl) ?_
 exact ⟨by simp [hne], hZ, hst⟩
attribute [local simp ↓] upd_app tl_cons tl_nil
def encT (x : Bs × Nat) : List V := [.str x.1, .int .i64 x.2]
theorem all_log (X : List O) {lg d a n : Nat} {ts : List (Bs × Nat)} (h1 : X[lg]? = some (.row [.ptr d 0, .sl a 0 ts.length 2 none, .int .i64 n])) (h2 : X[a]? = some (.arr (ts.map encT) 2)) (hl : ts.length ≤ 1000000000) :
  Tri Tryz.prog 35 [.ptr lg 0] X (fun v Z => v = .vs ((ts.map (·.1)).map encS) 1 ∧ Kept X Z []) := by
 refine Tri.of_run' Tryz.func35 rfl c35_ok (by simp [Tryz.ntmps35]) ?_
 (repeat (first | refine Run.adm rfl ?_ | refine Run.seq ?_ | ((first | apply Run.opS rfl | apply Run.condS); (· (simp -implicitDefEqProofs; first | exact ⟨rfl, rfl⟩ | exact rfl)))))
 refine Run.opC rfl rfl rfl (given_tri X h1) ?_
 rintro v H ⟨rfl, rfl⟩
 (repeat (first | refine Run.adm rfl ?_ | refine Run.seq ?_ | ((first | apply Run.opS rfl | apply Run.condS); (· (simp -implicitDefEqProofs [h1]; first | exact ⟨rfl, rfl⟩ | exact rfl)))))
 refine Run.nilA 3 1 (by simp) ?_
 refine Run.sl [(3, .sl H.length 0 0 1 none), (12, .sl a 0 ts.length 2 none), (13, .int .i64 ts.length), (14, .int .i64 (0 : Nat))] (by simp) ?_
 refine Run.loopS (fun (x : Nat × Nat × List O) => ([(3, .sl x.2.1 0 x.1 1 none), (12, .sl a 0 ts.length 2 none), (13, .int .i64 ts.length), (14, .int .i64 x.1)], x.2.2))
  (fun x => x.1 ≤ ts.length ∧ Kept H x.2.2 [] ∧ H.length ≤ x.2.1 ∧ x.2.2[x.2.1]? = some (.arr (((ts.take x.1).map (·.1)).map encS) 1)) (fun x => ts.length - x.1) ?_ (0, H.length, H ++ [.arr [] 1]) ⟨Nat.zero_le _, (Kept.refl H []).app _, Nat.le_refl _, by simp⟩
 rintro ⟨i, o, Z⟩ ⟨hi, hk, hol, ho⟩ ih
 simp only at hi hk hol ho ih ⊢
 have hal := lt_of_get h2
 have ha := hk.get h2 (by simp)
 have hlen : (((ts.take i).map (·.1)).map encS).length = i := by simp; omega
 by_cases hlt : i < ts.length
 ·obtain ⟨x, hx, hxi, -, -⟩ := getL hlt
  have hlt' : (i : Int) < ts.length := by omega
  have hw := wrap_small (n := (i : Int) + 1) (by omega) (by omega)
  have hsum : (i + 1) * 16 ≤ 70368744177664 := by omega
  have hnx : ((ts.take (i + 1)).map (·.1)).map encS = ((ts.take i).map (·.1)).map encS ++ [encS x.1] := by rw [List.take_add_one, hx]; simp
  generalize ((ts.take i).map (·.1)).map encS = es at *
  have hoZ := lt_of_get ho
  (repeat (first | refine Run.adm rfl ?_ | refine Run.seq ?_ | ((first | apply Run.opS rfl | apply Run.condS); (· (simp -implicitDefEqProofs [hlt, hlt', ha, hx, hxi, encT, encS, getA ho, hlen, hsum]; first | exact ⟨rfl, rfl⟩ | exact rfl)))))
  have hg : ∀ L o', ((Z ++ L).set o .gone ++ [o'])[Z.length + L.length]? = some o' := fun L o' => by
   rw [List.getElem?_append_right (by simp)]; simp
  refine Run.sl _ ?_ (ih (i + 1, Z.length + 2, (Z ++ [O.row [V.str x.1, V.int .i64 x.2], O.arr [[V.str x.1]] 1]).set o O.gone ++ [O.arr (es ++ [[V.str x.1]]) 1]) ⟨by simp only; omega, ((hk.app _).set _ _ (.inr hol)).app _, by simp only; have := hk.1; omega, ?_⟩ (by simp only; omega))
  ·simp [hw]
  ·simp only
   rw [hnx]
   exact hg [O.row [V.str x.1, V.int .i64 x.2], O.arr [[V.str x.1]] 1] _
 ·have : i = ts.length := by omega
  subst this
  rw [List.take_length] at ho hlen
  (repeat (first | refine Run.adm rfl ?_ | refine Run.seq ?_ | ((first | apply Run.opS rfl | apply Run.condS); (· (simp -implicitDefEqProofs; first | exact ⟨rfl, rfl⟩ | exact rfl)))))
  have htk : (((ts.map (·.1)).map encS)).take ts.length = (ts.map (·.1)).map encS := List.take_of_length_le (by simp)
  refine Run.frzS o ho ?_
  refine run_to [(2, .vs ((ts.map (·.1)).map encS) 1)] (fun Y => Kept H Y []) (by simp [htk]) (hk.set _ _ (.inr hol)) ?_
  intro W hW
  refine Run.retS Tryz.func35 r35_ok trivial (by simp [r35]; rfl) ?_
  exact ⟨by simp, hW⟩
attribute [local simp ↓] upd_app tl_cons tl_nil
theorem Own.sub {X L L' d D Y} (h : Own X L d D Y) (hs : ∀ i ∈ L', i ∈ L) : Own X L' d D Y := by
 obtain ⟨F, h1, h2, h3, h4⟩ := h
 exact ⟨F, h1, h2, h3, fun i hi => h4 i (hs i hi)⟩
theorem Own.lt {X L d D Y} (h : Own X L d D Y) {i : Nat} (hi : i ∈ L) : i < Y.length := by
 obtain ⟨F, h1, h2, h3, h4⟩ := h
 exact (h4 i hi).2.1
def LogAt (Y : List O) (lg a d : Nat) (ts : List (Bs × Nat)) (n : Nat) : Prop :=
 Y[lg]? = some (.row [.ptr d 0, .sl a 0 ts.length 2 none, .int .i64 n]) ∧ Y[a]? = some (.arr (ts.map encT) 2)
def WalOwn (X : List O) (L : List Nat) (d : Nat) (D : Dk) (lg : Nat) (ts : List (Bs × Nat)) (n : Nat) (Y : List O) : Prop :=
 ∃ a, Own X (a :: lg :: L) d D Y ∧ a ≠ lg ∧ a ∉ L ∧ lg ∉ L ∧ LogAt Y lg a d ts n
theorem LogAt.stay {Y Z lg a d ts n} {L : List Nat} (h : LogAt Y lg a d ts n) (hs : StayL (a :: lg :: L) Y Z) : LogAt Z lg a d ts n :=
 ⟨(hs lg (by simp)).trans h.1, (hs a (by simp)).trans h.2⟩
theorem StayL.tl {Y Z : List O} {i : Nat} {L : List Nat} (h : StayL (i :: L) Y Z) : StayL L Y Z := fun j hj => h j (List.mem_cons_of_mem _ hj)
theorem StayL.trans {Y Z W : List O} {L : List Nat} (h : StayL L Y Z) (k : StayL L Z W) : StayL L Y W := fun j hj => (k j hj).trans (h j hj)
theorem WalOwn.app {X : List O} {L : List Nat} {d : Nat} {D : Dk} {Z : List O} {lg a n : Nat} {ts : List (Bs × Nat)} (h : LogAt Z lg a d ts n) (hZ : Own X (a :: lg :: L) d D Z) (na : a ≠ lg) (naL : a ∉ L) (nlL : lg ∉ L) (B : O) (x : Bs × Nat) :
  WalOwn X L d D lg (ts ++ [x]) n (((Z ++ [B]).set a O.gone ++ [O.arr (ts.map encT ++ [encT x]) 2]).set lg (O.row [.ptr d 0, .sl (Z.length + 1) 0 (ts.length + 1) 2 none, .int .i64 n])) ∧
  StayL L Z (((Z ++ [B]).set a O.gone ++ [O.arr (ts.map encT ++ [encT x]) 2]).set lg (O.row [.ptr d 0, .sl (Z.length + 1) 0 (ts.length + 1) 2 none, .int .i64 n])) := by
 obtain ⟨g1, g2⟩ := h
 have hlt := lt_of_get g2
 have hlt1 := lt_of_get g1
 have o1 := (hZ.more [B] [] (by simp)).put (i := a) (by simp) .gone
 have o2 := (o1.more [O.arr (ts.map encT ++ [encT x]) 2] [Z.length + 1] (by intro i hi; simp at hi; simp [hi])).put (i := lg) (by simp) (O.row [.ptr d 0, .sl (Z.length + 1) 0 (ts.length + 1) 2 none, .int .i64 n])
 refine ⟨⟨Z.length + 1, o2.sub (fun i hi => ?_), by omega, fun hm => ?_, nlL, ?_, ?_⟩, fun i hi => ?_⟩
 ·simp only [List.mem_cons] at hi
  simp only [List.mem_append, List.mem_cons]
  rcases hi with hi | hi | hi
  ·exact .inr (.inl hi)
  ·exact .inl (.inl (.inr (.inl hi)))
  ·exact .inl (.inl (.inr (.inr hi)))
 ·have := hZ.lt (List.mem_cons_of_mem a (List.mem_cons_of_mem lg hm))
  omega
 ·rw [List.getElem?_set_self (by simp; omega)]
  simp
 ·rw [setN (by omega), List.getElem?_append_right (by simp)]
  simp
 ·have h1 := hZ.lt (List.mem_cons_of_mem a (List.mem_cons_of_mem lg hi))
  have n1 : lg ≠ i := fun e => nlL (e ▸ hi)
  have n2 : a ≠ i := fun e => naL (e ▸ hi)
  rw [setN n1, List.getElem?_append_left (by simp; omega), setN n2, List.getElem?_append_left h1]
def addD (D : Dk) (n : Nat) (s : Bs) : Int × Dk := appendD D (logN n) (frmB s)
def addT (D : Dk) (n : Nat) (s : Bs) (ts : List (Bs × Nat)) : List (Bs × Nat) := if (addD D n s).1 = 0 then ts ++ [(s, n)] else ts
theorem add_own {X : List O} {L : List Nat} {d : Nat} {D : Dk} {Y : List O} {lg n : Nat} {ts : List (Bs × Nat)} (h : WalOwn X L d D lg ts n Y) (hn : n < 100) (hl : ts.length ≤ 1000000000) (s : Bs) (hs : s.length ≤ 131072) :
  Tri Tryz.prog 79 [.ptr lg 0, .str s] Y (fun v Z => v = .int .i64 (addD D n s).1 ∧ WalOwn X L d (addD D n s).2 lg (addT D n s ts) n Z ∧ StayL L Y Z) := by
 obtain ⟨a, ho, na, naL, nlL, hlog⟩ := h
 refine Tri.of_run' Tryz.func79 rfl c79_ok (by simp [Tryz.ntmps79]) ?_
 have hs' : ¬ (131072 : Int) < s.length := by omega
 have hs2 : ¬ 131072 < s.length := by omega
 have hfm := frameM_eq (s := s) (by omega)
 have hfl : (frmB s).length ≤ 70368744177664 := by
  have h1 := fr_len s
  have h2 := vput_len9 (n := s.length) (by omega)
  omega
 (repeat (first | refine Run.adm rfl ?_ | refine Run.seq ?_ | ((first | apply Run.opS rfl | apply Run.condS); (· (simp -implicitDefEqProofs; first | exact ⟨rfl, rfl⟩ | exact rfl)))))
 refine Run.opC rfl rfl rfl (given_tri Y hlog.1) ?_
 rintro v H ⟨rfl, rfl⟩
 (repeat (first | refine Run.adm rfl ?_ | refine Run.seq ?_ | ((first | apply Run.opS rfl | apply Run.condS); (· (simp -implicitDefEqProofs [hs', hs2]; first | exact ⟨rfl, rfl⟩ | exact rfl)))))
 refine Run.opC rfl rfl rfl (fput_at s (by omega) _) ?_
 rintro v h' ⟨rfl, rfl⟩
 rw [hfm]
 (repeat (first | refine Run.adm rfl ?_ | refine Run.seq ?_ | ((first | apply Run.opS rfl | apply Run.condS); (· (simp -implicitDefEqProofs; first | exact ⟨rfl, rfl⟩ | exact rfl)))))
 refine Run.qchain prog_mixed 10 (by kernel_rfl) ?_
 (repeat (first | refine execQ_E rfl ?_ | (apply execQ_S rfl; (· (simp -implicitDefEqProofs [hlog.1]; exact ⟨rfl, rfl⟩)))))
 refine execQ_C rfl rfl rfl (lname_at n hn _) ?_
 (repeat (first | refine execQ_E rfl ?_ | (apply execQ_S rfl; (· (simp -implicitDefEqProofs; exact ⟨rfl, rfl⟩)))))
 refine SeqR.C rfl rfl rfl (append_own ho (logN n) (frmB s) hfl) ?_
 rintro v Z ⟨rfl, hZ, hst⟩
 (repeat (first | refine SeqR.E rfl ?_ | (apply SeqR.o0 rfl; (· (simp -implicitDefEqProofs; exact ⟨rfl, rfl⟩))) | (apply SeqR.A rfl; (· (simp -implicitDefEqProofs; done)); (· (simp -implicitDefEqProofs; exact ⟨rfl, rfl⟩))) | (apply SeqR.N rfl; (· (simp -implicitDefEqProofs; done)))))
 have hlog2 := hlog.stay hst
 unfold addT addD
 by_cases e : (appendD D (logN n) (frmB s)).1 = 0
 rotate_left
 ·(repeat (first | refine Run.adm rfl ?_ | refine Run.seq ?_ | ((first | apply Run.opS rfl | apply Run.condS); (· (simp -implicitDefEqProofs [e]; first | exact ⟨rfl, rfl⟩ | exact rfl)))))
  refine Run.retS Tryz.func79 r79_ok trivial (by simp [r79]; rfl) ?_
  exact ⟨by simp, ⟨a, hZ, na, naL, nlL, by rw [if_neg e]; exact hlog2⟩, hst.tl.tl⟩
 obtain ⟨g1, g2⟩ := hlog2
 have hlt := lt_of_get g2
 have hlt1 := lt_of_get g1
 have hbb : (ts.length + 1) * 24 ≤ 70368744177664 := by omega
 (repeat (first | refine Run.adm rfl ?_ | refine Run.seq ?_ | ((first | apply Run.opS rfl | apply Run.condS); (· (simp -implicitDefEqProofs [e]; first | exact ⟨rfl, rfl⟩ | exact rfl)))))
 refine Run.quietTo prog_mixed 11 (by kernel_rfl) ?_
 (repeat (first | refine execQ_E rfl ?_ | (apply execQ_S rfl; (· (simp -implicitDefEqProofs [g1]; exact ⟨rfl, rfl⟩)))))
 intro hpo
 refine RunD.chain (by kernel_rfl) hpo rfl ?_
 (apply AStep.S rfl; (· (simp -implicitDefEqProofs; exact ⟨rfl, rfl⟩)))
 refine RunD.chain (by kernel_rfl) (by
  show PendOk _ c79d1 _ _ [4, 3, 2, 1, 0]
  (repeat (first | exact PendOk.nil | (refine PendOk.S rfl rfl ?_ ?_; (· (simp -implicitDefEqProofs [g1, getA g1]; done)))))) rfl ?_
 (apply AStep.S rfl; (· (simp -implicitDefEqProofs [getA g2, hbb]; exact ⟨rfl, rfl⟩)))
 refine RunD.alt1 13 (by kernel_rfl) (by kernel_rfl) (by
  show PendOk _ c79d1 _ _ [0]
  (repeat (first | exact PendOk.nil | (refine PendOk.S rfl rfl ?_ ?_; (· (simp -implicitDefEqProofs; done)))))) ?_
 (apply AStep.S rfl; (· (simp -implicitDefEqProofs; exact ⟨rfl, rfl⟩)))
 refine RunD.alt1 14 (by kernel_rfl) (by kernel_rfl) (show PendOk _ c79d1 _ _ [] from trivial) ?_
 (apply AStep.S rfl; (· (simp -implicitDefEqProofs; exact ⟨rfl, rfl⟩)))
 have hq : ∀ B N, ((Z ++ [B]).set a O.gone ++ [N])[lg]? = some (.row [.ptr d 0, .sl a 0 ts.length 2 none, .int .i64 n]) := fun B N => getA (by rw [setN na]; exact getA g1 _) _
 refine RunD.alt1 15 (by kernel_rfl) (by kernel_rfl) (show PendOk _ c79d1 _ _ [] from trivial) ?_
 (apply AStep.S rfl; (· (simp -implicitDefEqProofs [hq]; exact ⟨rfl, rfl⟩)))
 refine RunD.fin (by kernel_rfl) (show PendOk _ c79d1 _ _ [] from trivial) ?_
 (repeat (first | refine Run.adm rfl ?_ | refine Run.seq ?_ | ((first | apply Run.opS rfl | apply Run.condS); (· (simp -implicitDefEqProofs; first | exact ⟨rfl, rfl⟩ | exact rfl)))))
 refine Run.retS Tryz.func79 r79_ok trivial (by simp [r79]; rfl) ?_
 rw [if_pos e]
 obtain ⟨w1, w2⟩ := WalOwn.app ⟨g1, g2⟩ hZ na naL nlL (O.arr [[V.str s, V.int .i64 n]] 2) (s, n)
 exact ⟨by simp [e], by simpa [encT] using w1, by simpa [encT] using hst.tl.tl.trans w2⟩
structure LF where
 num : Nat
 bytes : Bs
 sure : Nat
def LF.file (f : LF) : FileM := ⟨logN f.num, f.bytes, f.sure⟩
def LD (fs : List LF) (fu : Int) (off : Bool) : Dk := ⟨fs.map LF.file, fu, off⟩
def Ris (fs : List LF) : Prop := fs.Pairwise (fun a b => a.num < b.num) ∧ ∀ f ∈ fs, f.num < 100
def nxF (fu : Int) : Int := if 0 < fu then fu - 1 else fu
theorem Ris.mid {A B : List LF} {f : LF} (h : Ris (A ++ f :: B)) : (∀ a ∈ A, a.num < f.num) ∧ (∀ b ∈ B, f.num < b.num) ∧ f.num < 100 ∧ Ris (A ++ B) := by
 obtain ⟨h1, h2⟩ := h
 obtain ⟨p1, p2, p3⟩ := List.pairwise_append.1 h1
 obtain ⟨p4, p5⟩ := List.pairwise_cons.1 p2
 refine ⟨fun a ha => p3 a ha f (by simp), p4, h2 f (by simp), List.pairwise_append.2 ⟨p1, p5, fun a ha b hb => p3 a ha b (List.mem_cons_of_mem _ hb)⟩, fun g hg => h2 g ?_⟩
 rcases List.mem_append.1 hg with hg | hg
 ·exact List.mem_append_left _ hg
 ·exact List.mem_append_right _ (List.mem_cons_of_mem _ hg)
theorem Ris.put {A B : List LF} {f g : LF} (h : Ris (A ++ f :: B)) (hg : g.num = f.num) : Ris (A ++ g :: B) := by
 obtain ⟨m1, m2, m3, m4⟩ := h.mid
 obtain ⟨h1, h2⟩ := h
 obtain ⟨p1, p2, p3⟩ := List.pairwise_append.1 h1
 obtain ⟨p4, p5⟩ := List.pairwise_cons.1 p2
 refine ⟨List.pairwise_append.2 ⟨p1, List.pairwise_cons.2 ⟨fun b hb => by rw [hg]; exact p4 b hb, p5⟩, fun a ha b hb => ?_⟩, fun x hx => ?_⟩
 ·rcases List.mem_cons.1 hb with rfl | hb
  ·rw [hg]; exact m1 a ha
  ·exact p3 a ha b (List.mem_cons_of_mem _ hb)
 ·rcases List.mem_append.1 hx with hx | hx
  ·exact h2 x (List.mem_append_left _ hx)
  ·rcases List.mem_cons.1 hx with rfl | hx
   ·rw [hg]; exact m3
   ·exact h2 x (List.mem_append_right _ (List.mem_cons_of_mem _ hx))
theorem Ris.snoc {fs : List LF} {f : LF} (h : Ris fs) (hlt : ∀ a ∈ fs, a.num < f.num) (hf : f.num < 100) : Ris (fs ++ [f]) := by
 refine ⟨List.pairwise_append.2 ⟨h.1, by simp, fun a ha b hb => by rw [List.mem_singleton.1 hb]; exact hlt a ha⟩, fun x hx => ?_⟩
 rcases List.mem_append.1 hx with hx | hx
 ·exact h.2 x hx
 ·rw [List.mem_singleton.1 hx]; exact hf
theorem Ris.sub {fs gs : List LF} (h : Ris fs) (hs : gs.Sublist fs) : Ris gs := ⟨h.1.sublist hs, fun f hf => h.2 f (hs.subset hf)⟩
theorem rise_len : ∀ (fs : List LF) (k : Nat), k ≤ 100 → fs.Pairwise (fun a b => a.num < b.num) → (∀ f ∈ fs, k ≤ f.num ∧ f.num < 100) → fs.length + k ≤ 100
 | [], k, hk, _, _ => by simpa using hk
 | f :: r, k, hk, hp, hb => by
  obtain ⟨p1, p2⟩ := List.pairwise_cons.1 hp
  obtain ⟨b1, b2⟩ := hb f (by simp)
  have := rise_len r (f.num + 1) (by omega) p2 fun g hg => ⟨p1 g hg, (hb g (List.mem_cons_of_mem _ hg)).2⟩
  simp only [List.length_cons]; omega
theorem Ris.len {fs : List LF} (h : Ris fs) : fs.length ≤ 100 := by
 have := rise_len fs 0 (by omega) h.1 fun f hf => ⟨Nat.zero_le _, h.2 f hf⟩
 omega
theorem namesD_LD {fs : List LF} (h : Ris fs) (fu off) : namesD (LD fs fu off) = (fs.map (·.num)).map logN := by
 unfold namesD sortN LD
 have e : (fs.map LF.file).map (·.name) = (fs.map (·.num)).map logN := by simp [List.map_map, LF.file, Function.comp_def]
 rw [e]
 refine List.mergeSort_of_pairwise ?_
 rw [List.pairwise_map, List.pairwise_map]
 refine h.1.imp_of_mem fun {a b} ha hb hab => ?_
 have := logN_le (i := a.num) (b.num - a.num) (by have := h.2 b hb; omega)
 rwa [show a.num + (b.num - a.num) = b.num by omega] at this
theorem nmOk_LD {fs : List LF} (h : Ris fs) (fu off) : NmOk (LD fs fu off) := by
 intro f hf
 obtain ⟨g, hg, rfl⟩ := List.mem_map.1 hf
 show (logN g.num).length ≤ 32
 rw [(logN_ok g.num (h.2 g hg)).2.1]; decide
theorem ne_name {f g : LF} (hf : f.num < 100) (hg : g.num < 100) (h : f.num ≠ g.num) : ¬ f.file.name = logN g.num := fun e => h (logN_inj hf hg e)
theorem fileOf_LD {A B : List LF} {f : LF} (h : Ris (A ++ f :: B)) : fileOf ((A ++ f :: B).map LF.file) (logN f.num) = some f.file := by
 obtain ⟨m1, m2, m3, m4⟩ := h.mid
 unfold fileOf
 rw [List.map_append, List.find?_append]
 have : (A.map LF.file).find? (fun g => decide (g.name = logN f.num)) = none := by
  rw [List.find?_eq_none]
  intro x hx
  obtain ⟨a, ha, rfl⟩ := List.mem_map.1 hx
  have := ne_name (f := a) (g := f) (h.2 a (by simp [ha])) m3 (by have := m1 a ha; omega)
  simpa using this
 rw [this]
 simp [LF.file]
theorem fileOf_LD_none {fs : List LF} (h : Ris fs) {n : Nat} (hn : n < 100) (hne : ∀ f ∈ fs, f.num ≠ n) : fileOf (fs.map LF.file) (logN n) = none := by
 unfold fileOf
 rw [List.find?_eq_none]
 intro x hx
 obtain ⟨a, ha, rfl⟩ := List.mem_map.1 hx
 have : ¬ logN a.num = logN n := fun e => hne a ha (logN_inj (h.2 a ha) hn e)
 simp [LF.file, this]
theorem updF_LD {A B : List LF} {f g : LF} (h : Ris (A ++ f :: B)) (hg : g.num = f.num) (u : FileM → FileM) (hu : u f.file = g.file) : updF ((A ++ f :: B).map LF.file) (logN f.num) u = (A ++ g :: B).map LF.file := by
 obtain ⟨m1, m2, m3, m4⟩ := h.mid
 unfold updF
 rw [List.map_append, List.map_append, List.map_append, List.map_cons, List.map_cons, List.map_cons]
 have hne : ∀ a, a ∈ A ∨ a ∈ B → ¬ logN a.num = logN f.num := fun a ha e => by
  have := logN_inj (h.2 a (by rcases ha with ha | ha <;> simp [ha])) m3 e
  rcases ha with ha | ha
  ·have := m1 a ha; omega
  ·have := m2 a ha; omega
 congr 1
 ·rw [List.map_map]
  exact List.map_congr_left fun a ha => by simp [LF.file, hne a (.inl ha)]
 ·congr 1
  ·rw [if_pos (show f.file.name = logN f.num from rfl), hu]
  ·rw [List.map_map]
   exact List.map_congr_left fun a ha => by simp [LF.file, hne a (.inr ha)]
theorem delF_LD {A B : List LF} {f : LF} (h : Ris (A ++ f :: B)) : delF ((A ++ f :: B).map LF.file) (logN f.num) = (A ++ B).map LF.file := by
 obtain ⟨m1, m2, m3, m4⟩ := h.mid
 unfold delF
 have hne : ∀ a, a ∈ A ∨ a ∈ B → ¬ logN a.num = logN f.num := fun a ha e => by
  have := logN_inj (h.2 a (by rcases ha with ha | ha <;> simp [ha])) m3 e
  rcases ha with ha | ha
  ·have := m1 a ha; omega
  ·have := m2 a ha; omega
 have hk : ∀ C : List LF, (∀ a ∈ C, ¬ logN a.num = logN f.num) → (C.map LF.file).filter (fun x => !decide (x.name = logN f.num)) = C.map LF.file := fun C hC => by
  rw [List.filter_eq_self]
  intro x hx
  obtain ⟨a, ha, rfl⟩ := List.mem_map.1 hx
  simp [LF.file, hC a ha]
 rw [List.map_append, List.filter_append, hk A fun a ha => hne a (.inl ha), List.map_cons, List.filter_cons, hk B fun a ha => hne a (.inr ha)]
 simp [LF.file]
theorem doI_blow {fu : Int} {off : Bool} (h : off = true ∨ fu = 0) : doI true fu off = (50, fu, true) := by simp [doI, h]
theorem doI_go {fu : Int} {off : Bool} (h : ¬ (off = true ∨ fu = 0)) : doI true fu off = (0, nxF fu, false) := by
 unfold doI nxF
 rw [if_pos rfl, if_neg h]
section ops
variable {A B fs : List LF} {f : LF} {fu : Int} {off : Bool}
theorem sync_LD (h : Ris (A ++ f :: B)) : syncD (LD (A ++ f :: B) fu off) (logN f.num) = if off = true ∨ fu = 0 then (50, LD (A ++ f :: B) fu true) else (0, LD (A ++ ⟨f.num, f.bytes, f.bytes.length⟩ :: B) (nxF fu) false) := by
 have hm := logN_may h.mid.2.2.1
 by_cases hb : off = true ∨ fu = 0
 ·rw [if_pos hb]
  simp [syncD, LD, Dk.did, hm, doI_blow hb]
 ·rw [if_neg hb]
  have := updF_LD (g := ⟨f.num, f.bytes, f.bytes.length⟩) h rfl (fun f => ⟨f.name, f.bytes, f.bytes.length⟩) rfl
  simp only [syncD, LD, Dk.did, hm, doI_go hb, fileOf_LD h, this, if_true]
theorem append_LD (h : Ris (A ++ f :: B)) (s : Bs) (hs : f.bytes.length + s.length ≤ 4194304) : appendD (LD (A ++ f :: B) fu off) (logN f.num) s = if off = true ∨ fu = 0 then (50, LD (A ++ f :: B) fu true) else (0, LD (A ++ ⟨f.num, f.bytes ++ s, f.sure⟩ :: B) (nxF fu) false) := by
 have hm := logN_may h.mid.2.2.1
 by_cases hb : off = true ∨ fu = 0
 ·rw [if_pos hb]
  simp [appendD, LD, Dk.did, hm, doI_blow hb]
 ·rw [if_neg hb]
  have := updF_LD (g := ⟨f.num, f.bytes ++ s, f.sure⟩) h rfl (fun f => ⟨f.name, f.bytes ++ s, f.sure⟩) rfl
  have hn : ¬ 4194304 - f.file.bytes.length < s.length := by
   show ¬ 4194304 - f.bytes.length < s.length
   omega
  simp only [appendD, LD, Dk.did, hm, doI_go hb, fileOf_LD h, this, if_true, hn, if_false]
theorem make_LD (h : Ris fs) {n : Nat} (hn : n < 100) (hne : ∀ f ∈ fs, f.num ≠ n) : makeD (LD fs fu off) (logN n) = if off = true ∨ fu = 0 then (50, LD fs fu true) else (0, LD (fs ++ [⟨n, [], 0⟩]) (nxF fu) false) := by
 have hm := logN_may hn
 by_cases hb : off = true ∨ fu = 0
 ·rw [if_pos hb]
  simp [makeD, LD, Dk.did, hm, doI_blow hb]
 ·rw [if_neg hb]
  have h2 : ¬ 256 ≤ (fs.map LF.file).length := by have := h.len; simp; omega
  simp only [makeD, LD, Dk.did, hm, doI_go hb, fileOf_LD_none h hn hne, if_true, h2, if_false]
  simp [LF.file]
theorem remove_LD (h : Ris (A ++ f :: B)) : removeD (LD (A ++ f :: B) fu off) (logN f.num) = if off = true ∨ fu = 0 then (50, LD (A ++ f :: B) fu true) else (0, LD (A ++ B) (nxF fu) false) := by
 have hm := logN_may h.mid.2.2.1
 by_cases hb : off = true ∨ fu = 0
 ·rw [if_pos hb]
  simp [removeD, LD, Dk.did, hm, doI_blow hb]
 ·rw [if_neg hb]
  simp only [removeD, LD, Dk.did, hm, doI_go hb, fileOf_LD h, delF_LD h, if_true]
theorem read_LD (h : Ris (A ++ f :: B)) : readD (LD (A ++ f :: B) fu false) (logN f.num) = (f.bytes, 0) := by
 have hm := logN_may h.mid.2.2.1
 have hf := fileOf_LD h
 unfold readD lookE LD
 simp only [hm, hf]
 simp [LF.file]
end ops
attribute [local simp ↓] upd_app tl_cons tl_nil
theorem each_own {Y0 : List O} {d : Nat} (ns : List Nat) (hn : ∀ i ∈ ns, i < 100) (hl : ns.length ≤ 1000) (f : FuncId) (caps : List V) (I : Nat → List O → Prop) (Q : Int → List O → Prop)
  (hnm : Tri Tryz.prog 45 [.ptr d 0] Y0 (fun v Z => v = .vs ((ns.map logN).map encS) 1 ∧ I 0 Z))
  (hstep : ∀ i n, ns[i]? = some n → ∀ Z, I i Z → Tri Tryz.prog f ([.int .i64 n] ++ caps) Z (fun v W => (v = .int .i64 0 ∧ I (i + 1) W) ∨ ∃ e, e ≠ 0 ∧ v = .int .i64 e ∧ Q e W)) :
  Tri Tryz.prog 69 [.ptr d 0, .fn f caps] Y0 (fun v W => (v = .int .i64 0 ∧ I ns.length W) ∨ ∃ e, e ≠ 0 ∧ v = .int .i64 e ∧ Q e W) := by
 refine Tri.of_run' Tryz.func69 rfl c69_ok (by simp [Tryz.ntmps69]) ?_
 (repeat (first | refine Run.adm rfl ?_ | refine Run.seq ?_ | ((first | apply Run.opS rfl | apply Run.condS); (· (simp -implicitDefEqProofs; first | exact ⟨rfl, rfl⟩ | exact rfl)))))
 refine Run.opC rfl rfl rfl hnm ?_
 rintro v Y ⟨rfl, hY⟩
 have hlen : ((ns.map logN).map encS).length = ns.length := by simp
 (repeat (first | refine Run.adm rfl ?_ | refine Run.seq ?_ | ((first | apply Run.opS rfl | apply Run.condS); (· (simp -implicitDefEqProofs [hlen]; first | exact ⟨rfl, rfl⟩ | exact rfl)))))
 refine Run.sl [(1, .fn f caps), (11, .vs ((ns.map logN).map encS) 1), (12, .int .i64 ns.length), (13, .int .i64 (0 : Nat))] (by simp) ?_
 refine Run.loopS (fun (x : Nat × List O) => ([(1, .fn f caps), (11, .vs ((ns.map logN).map encS) 1), (12, .int .i64 ns.length), (13, .int .i64 x.1)], x.2))
  (fun x => x.1 ≤ ns.length ∧ I x.1 x.2) (fun x => ns.length - x.1) ?_ (0, Y) ⟨Nat.zero_le _, hY⟩
 rintro ⟨i, Z⟩ ⟨hi, hZ⟩ ih
 simp only at hi hZ ih ⊢
 by_cases hlt : i < ns.length
 ·obtain ⟨n, hx, hxi, -, hmem⟩ := getL hlt
  have hn100 := hn n hmem
  have hlt' : (i : Int) < ns.length := by omega
  have hw := wrap_small (n := (i : Int) + 1) (by omega) (by omega)
  (repeat (first | refine Run.adm rfl ?_ | refine Run.seq ?_ | ((first | apply Run.opS rfl | apply Run.condS); (· (simp -implicitDefEqProofs [hlt, hlt', hx, hxi, encS]; first | exact ⟨rfl, rfl⟩ | exact rfl)))))
  refine Run.opC rfl rfl rfl (number_at n hn100 _) ?_
  rintro v H ⟨rfl, rfl⟩
  (repeat (first | refine Run.adm rfl ?_ | refine Run.seq ?_ | ((first | apply Run.opS rfl | apply Run.condS); (· (simp -implicitDefEqProofs; first | exact ⟨rfl, rfl⟩ | exact rfl)))))
  refine Run.opC rfl rfl rfl (hstep i n hx _ hZ) ?_
  rintro v W (⟨rfl, hW⟩ | ⟨e, he, rfl, hW⟩)
  ·(repeat (first | refine Run.adm rfl ?_ | refine Run.seq ?_ | ((first | apply Run.opS rfl | apply Run.condS); (· (simp -implicitDefEqProofs; first | exact ⟨rfl, rfl⟩ | exact rfl)))))
   refine Run.sl _ ?_ (ih (i + 1, W) ⟨by simp only; omega, hW⟩ (by simp only; omega))
   simp [hw]
  ·(repeat (first | refine Run.adm rfl ?_ | refine Run.seq ?_ | ((first | apply Run.opS rfl | apply Run.condS); (· (simp -implicitDefEqProofs [he]; first | exact ⟨rfl, rfl⟩ | exact rfl)))))
   refine Run.retS Tryz.func69 r69_ok trivial (by simp [r69]; rfl) ?_
   exact .inr ⟨e, he, by simp, hW⟩
 ·have : i = ns.length := by omega
  subst this
  (repeat (first | refine Run.adm rfl ?_ | refine Run.seq ?_ | ((first | apply Run.opS rfl | apply Run.condS); (· (simp -implicitDefEqProofs; first | exact ⟨rfl, rfl⟩ | exact rfl)))))
  refine Run.retS Tryz.func69 r69_ok trivial (by simp [r69]; rfl) ?_
  exact .inl ⟨by simp, hZ⟩
attribute [local simp ↓] upd_app tl_cons tl_nil
section open1
variable {X : List O} {L : List Nat} {d lg fb db lv last frm : Nat} {A B : List LF} {f : LF} {Y : List O} {ts : List (Bs × Nat)}
theorem open1_rm (h : WalOwn X L d (LD (A ++ f :: B) (-1) false) lg ts last Y) (hR : Ris (A ++ f :: B)) (h1 : Y[fb]? = some (.row [.int .i64 frm])) (h2 : Y[db]? = some (.row [.ptr d 0])) (hlt : f.num < frm) :
  Tri Tryz.prog 70 [.int .i64 f.num, .ptr fb 0, .ptr db 0, .ptr lv 0] Y (fun v Z => v = .int .i64 0 ∧ WalOwn X L d (LD (A ++ B) (-1) false) lg ts last Z ∧ StayL L Y Z) := by
 obtain ⟨a, ho, na, naL, nlL, hlog⟩ := h
 have hn := hR.mid.2.2.1
 have hlt' : (f.num : Int) < frm := by omega
 have hrm := remove_own ho (logN f.num)
 rw [remove_LD hR, if_neg (by simp)] at hrm
 refine Tri.of_run' Tryz.func70 rfl c70_ok (by simp [Tryz.ntmps70]) ?_
 (repeat (first | refine Run.adm rfl ?_ | refine Run.seq ?_ | ((first | apply Run.opS rfl | apply Run.condS); (· (simp -implicitDefEqProofs [h1, hlt, hlt']; first | exact ⟨rfl, rfl⟩ | exact rfl)))))
 refine Run.qchain prog_mixed 3 (by kernel_rfl) ?_
 (repeat (first | refine execQ_E rfl ?_ | (apply execQ_S rfl; (· (simp -implicitDefEqProofs [h2]; exact ⟨rfl, rfl⟩)))))
 refine execQ_C rfl rfl rfl (lname_at f.num hn _) ?_
 (repeat (first | refine execQ_E rfl ?_ | (apply execQ_S rfl; (· (simp -implicitDefEqProofs; exact ⟨rfl, rfl⟩)))))
 refine SeqR.C rfl rfl rfl hrm ?_
 rintro v Z ⟨rfl, hZ, hst⟩
 (repeat (first | refine SeqR.E rfl ?_ | (apply SeqR.o0 rfl; (· (simp -implicitDefEqProofs; exact ⟨rfl, rfl⟩))) | (apply SeqR.A rfl; (· (simp -implicitDefEqProofs; done)); (· (simp -implicitDefEqProofs; exact ⟨rfl, rfl⟩))) | (apply SeqR.N rfl; (· (simp -implicitDefEqProofs; done)))))
 (repeat (first | refine Run.adm rfl ?_ | refine Run.seq ?_ | ((first | apply Run.opS rfl | apply Run.condS); (· (simp -implicitDefEqProofs; first | exact ⟨rfl, rfl⟩ | exact rfl)))))
 refine Run.retS Tryz.func70 r70_ok trivial (by simp [r70]; rfl) ?_
 exact ⟨by simp, ⟨a, hZ, na, naL, nlL, hlog.stay hst⟩, hst.tl.tl⟩
theorem open1_rd (h : WalOwn X L d (LD (A ++ f :: B) (-1) false) lg ts last Y) (hR : Ris (A ++ f :: B)) (h1 : Y[fb]? = some (.row [.int .i64 frm])) (h2 : Y[db]? = some (.row [.ptr d 0])) (h3 : Y[lv]? = some (.row [.ptr lg 0])) (m3 : lv ∈ L)
  (hb : f.bytes.length ≤ 4000000000) (hlen : ts.length + (allF f.bytes).1.length ≤ 1000000000) (hge : ¬ f.num < frm) :
  Tri Tryz.prog 70 [.int .i64 f.num, .ptr fb 0, .ptr db 0, .ptr lv 0] Y (fun v Z => v = .int .i64 0 ∧ WalOwn X L d (LD (A ++ f :: B) (-1) false) lg (ts ++ (allF f.bytes).1.map (fun s => (s, f.num))) (f.num + 1) Z ∧ StayL L Y Z) := by
 obtain ⟨a, ho, na, naL, nlL, hlog⟩ := h
 have hn := hR.mid.2.2.1
 have hge' : ¬ (f.num : Int) < frm := by omega
 have hrd := read_own ho (logN f.num)
 rw [read_LD hR] at hrd
 refine Tri.of_run' Tryz.func70 rfl c70_ok (by simp [Tryz.ntmps70]) ?_
 (repeat (first | refine Run.adm rfl ?_ | refine Run.seq ?_ | ((first | apply Run.opS rfl | apply Run.condS); (· (simp -implicitDefEqProofs [h1, hge, hge']; first | exact ⟨rfl, rfl⟩ | exact rfl)))))
 refine Run.quietTo prog_mixed 3 (by kernel_rfl) ?_
 (repeat (first | refine execQ_E rfl ?_ | (apply execQ_S rfl; (· (simp -implicitDefEqProofs [h2]; exact ⟨rfl, rfl⟩)))))
 refine execQ_C rfl rfl rfl (lname_at f.num hn _) ?_
 (repeat (first | refine execQ_E rfl ?_ | (apply execQ_S rfl; (· (simp -implicitDefEqProofs; exact ⟨rfl, rfl⟩)))))
 intro hpo
 refine RunD.alt1 3 (by kernel_rfl) (by kernel_rfl) hpo ?_
 refine AStep.C rfl rfl rfl hrd ?_
 rintro v Z ⟨rfl, hZ, hst⟩
 show RunD _ c70d1 [4, 5, 6, 7, 8] [] _ _ _
 refine RunD.flow [4, 5, 6, 7, 8] (by kernel_rfl) (by decide +kernel) (by decide +kernel) (by decide) trivial ?_; (repeat (first | refine execQ_E rfl ?_ | (apply execQ_S rfl; (· (simp -implicitDefEqProofs; exact ⟨rfl, rfl⟩))))); intro hpo
 refine RunD.fin (by kernel_rfl) hpo ?_
 (repeat (first | refine Run.adm rfl ?_ | refine Run.seq ?_ | ((first | apply Run.opS rfl | apply Run.condS); (· (simp -implicitDefEqProofs; first | exact ⟨rfl, rfl⟩ | exact rfl)))))
 refine Run.opC rfl rfl rfl (all_at f.bytes hb _) ?_
 rintro v Z ⟨rfl, rfl⟩
 generalize (allF f.bytes).1 = us at *
 have hw0 : (us.map encS).length = us.length := by simp
 have h3' := (hst lv (by simp [m3])).trans h3
 (repeat (first | refine Run.adm rfl ?_ | refine Run.seq ?_ | ((first | apply Run.opS rfl | apply Run.condS); (· (simp -implicitDefEqProofs [hw0]; first | exact ⟨rfl, rfl⟩ | exact rfl)))))
 refine Run.sl [(0, .int .i64 f.num), (3, .ptr lv 0), (7, .int .i64 0), (31, .vs (us.map encS) 1), (32, .int .i64 us.length), (33, .int .i64 (0 : Nat))] (by simp) ?_
 refine Run.loopS (fun (x : Nat × List O) => ([(0, .int .i64 f.num), (3, .ptr lv 0), (7, .int .i64 0), (31, .vs (us.map encS) 1), (32, .int .i64 us.length), (33, .int .i64 x.1)], x.2))
  (fun x => x.1 ≤ us.length ∧ WalOwn X L d (LD (A ++ f :: B) (-1) false) lg (ts ++ (us.take x.1).map (fun s => (s, f.num))) last x.2 ∧ StayL L Y x.2) (fun x => us.length - x.1) ?_ (0, Z) ⟨Nat.zero_le _, ⟨a, hZ, na, naL, nlL, by simpa using hlog.stay hst⟩, hst.tl.tl⟩
 rintro ⟨i, W⟩ ⟨hi, hW, hsW⟩ ih
 simp only at hi hW hsW ih ⊢
 obtain ⟨b, hoW, nb, nbL, -, hlogW⟩ := hW
 have g3 := (hsW lv m3).trans h3
 obtain ⟨g1, g2⟩ := hlogW
 by_cases hlt : i < us.length
 ·obtain ⟨x, hx, hxi, -, -⟩ := getL hlt
  have hlt' : (i : Int) < us.length := by omega
  have hw := wrap_small (n := (i : Int) + 1) (by omega) (by omega)
  have htl : (ts ++ (us.take i).map (fun s => (s, f.num))).length = ts.length + i := by simp; omega
  have hnx : ts ++ (us.take (i + 1)).map (fun s => (s, f.num)) = (ts ++ (us.take i).map (fun s => (s, f.num))) ++ [(x, f.num)] := by rw [List.take_add_one, hx]; simp
  generalize ts ++ (us.take i).map (fun s => (s, f.num)) = tt at *
  have hbb : (tt.length + 1) * 24 ≤ 70368744177664 := by omega
  have hlb := lt_of_get g2
  have hll := lt_of_get g1
  have hlv := lt_of_get g3
  (repeat (first | refine Run.adm rfl ?_ | refine Run.seq ?_ | ((first | apply Run.opS rfl | apply Run.condS); (· (simp -implicitDefEqProofs [hlt, hlt', hx, hxi, encS]; first | exact ⟨rfl, rfl⟩ | exact rfl)))))
  refine Run.quietTo prog_mixed 8 (by kernel_rfl) ?_
  (repeat (first | refine execQ_E rfl ?_ | (apply execQ_S rfl; (· (simp -implicitDefEqProofs [g3, g1]; exact ⟨rfl, rfl⟩)))))
  intro hpo
  refine RunD.chain (by kernel_rfl) hpo rfl ?_
  (apply AStep.S rfl; (· (simp -implicitDefEqProofs; exact ⟨rfl, rfl⟩)))
  refine RunD.chain (by kernel_rfl) (by
   show PendOk _ c70d2 _ _ [4, 3, 2, 1, 0]
   (repeat (first | exact PendOk.nil | (refine PendOk.S rfl rfl ?_ ?_; (· (simp -implicitDefEqProofs [getA g3, getA g1]; done)))))) rfl ?_
  (apply AStep.S rfl; (· (simp -implicitDefEqProofs [getA g2, hbb]; exact ⟨rfl, rfl⟩)))
  have nbv : b ≠ lv := fun e => nbL (e ▸ m3)
  have hqv : ∀ B N, ((W ++ [B]).set b O.gone ++ [N])[lv]? = some (.row [.ptr lg 0]) := fun B N => getA (by rw [setN nbv]; exact getA g3 _) _
  have hq : ∀ B N, ((W ++ [B]).set b O.gone ++ [N])[lg]? = some (.row [.ptr d 0, .sl b 0 tt.length 2 none, .int .i64 last]) := fun B N => getA (by rw [setN nb]; exact getA g1 _) _
  refine RunD.alt1 10 (by kernel_rfl) (by kernel_rfl) (by
   show PendOk _ c70d2 _ _ [0]
   (repeat (first | exact PendOk.nil | (refine PendOk.S rfl rfl ?_ ?_; (· (simp -implicitDefEqProofs [hqv]; done)))))) ?_
  (apply AStep.S rfl; (· (simp -implicitDefEqProofs; exact ⟨rfl, rfl⟩)))
  refine RunD.alt1 11 (by kernel_rfl) (by kernel_rfl) (show PendOk _ c70d2 _ _ [] from trivial) ?_
  (apply AStep.S rfl; (· (simp -implicitDefEqProofs; exact ⟨rfl, rfl⟩)))
  refine RunD.alt1 12 (by kernel_rfl) (by kernel_rfl) (show PendOk _ c70d2 _ _ [] from trivial) ?_
  (apply AStep.S rfl; (· (simp -implicitDefEqProofs [hq]; exact ⟨rfl, rfl⟩)))
  refine RunD.fin (by kernel_rfl) (show PendOk _ c70d2 _ _ [] from trivial) ?_
  (repeat (first | refine Run.adm rfl ?_ | refine Run.seq ?_ | ((first | apply Run.opS rfl | apply Run.condS); (· (simp -implicitDefEqProofs; first | exact ⟨rfl, rfl⟩ | exact rfl)))))
  obtain ⟨w1, w2⟩ := WalOwn.app ⟨g1, g2⟩ hoW nb nbL nlL (O.arr [[V.str x, V.int .i64 f.num]] 2) (x, f.num)
  refine Run.sl _ ?_ (ih (i + 1, _) ⟨by simp only; omega, by simp only; rw [hnx]; exact w1, hsW.trans w2⟩ (by simp only; omega))
  simp [hw]
 ·have : i = us.length := by omega
  subst this
  rw [List.take_length] at g1 g2
  have hw := wrap_small (n := (f.num : Int) + 1) (by omega) (by omega)
  have hc : (f.num : Int) + 1 = ((f.num + 1 : Nat) : Int) := by omega
  (repeat (first | refine Run.adm rfl ?_ | refine Run.seq ?_ | ((first | apply Run.opS rfl | apply Run.condS); (· (simp -implicitDefEqProofs [g3, g1, hw, setG g1]; first | exact ⟨rfl, rfl⟩ | exact rfl)))))
  refine Run.retS Tryz.func70 r70_ok trivial (by simp [r70]; rfl) ?_
  have n1 : b ≠ lg := nb
  refine ⟨by simp, ⟨b, hoW.put (by simp) _, nb, nbL, nlL, ?_, ?_⟩, fun j hj => ?_⟩
  ·rw [setG g1]; simp
  ·rw [setN (Ne.symm nb)]; exact g2
  ·have n2 : lg ≠ j := fun e => nlL (by rw [e]; exact hj)
   rw [setN n2]; exact hsW j hj
end open1
attribute [local simp ↓] upd_app tl_cons tl_nil
def opnT (fs : List LF) : List (Bs × Nat) := fs.flatMap fun f => (allF f.bytes).1.map fun s => (s, f.num)
def opnN (frm : Nat) (fs : List LF) : Nat := fs.foldl (fun _ f => f.num + 1) frm
def keepF (frm : Nat) (fs : List LF) : List LF := fs.filter fun f => decide (frm ≤ f.num)
theorem opnT_snoc (fs : List LF) (f : LF) : opnT (fs ++ [f]) = opnT fs ++ (allF f.bytes).1.map (fun s => (s, f.num)) := by simp [opnT]
theorem opnN_snoc (frm : Nat) (fs : List LF) (f : LF) : opnN frm (fs ++ [f]) = f.num + 1 := by simp [opnN]
theorem keepF_snoc (frm : Nat) (fs : List LF) (f : LF) : keepF frm (fs ++ [f]) = if frm ≤ f.num then keepF frm fs ++ [f] else keepF frm fs := by
 by_cases h : frm ≤ f.num <;> simp [keepF, List.filter_append, h]
theorem keepF_sub (frm : Nat) (fs : List LF) : (keepF frm fs).Sublist fs := List.filter_sublist
theorem opnN_spec (frm : Nat) : ∀ (fs : List LF), Ris fs → (∀ f ∈ fs, frm ≤ f.num) → (∀ f ∈ fs, f.num < opnN frm fs) ∧ frm ≤ opnN frm fs ∧ ∀ m, frm ≤ m → (∀ f ∈ fs, f.num < m) → opnN frm fs ≤ m := by
 intro fs hR hb
 rcases List.eq_nil_or_concat fs with rfl | ⟨gs, f, hc⟩
 ·exact ⟨fun f hf => by simp at hf, Nat.le_refl _, fun m hm _ => hm⟩
 ·rw [List.concat_eq_append] at hc
  subst hc
  rw [opnN_snoc]
  refine ⟨fun g hg => ?_, by have := hb f (by simp); omega, fun m hm hlt => by have := hlt f (by simp); omega⟩
  rcases List.mem_append.1 hg with hg | hg
  ·have := (Ris.mid (A := gs) (B := []) hR).1 g hg; omega
  ·rw [List.mem_singleton.1 hg]; omega
theorem opnT_len {fs gs : List LF} (h : gs.Sublist fs) : (opnT gs).length ≤ (opnT fs).length := by
 have hc : ∀ (f : LF) (l : List LF), (opnT (f :: l)).length = (allF f.bytes).1.length + (opnT l).length := fun f l => by simp [opnT]
 induction h with
 | slnil => exact Nat.le_refl _
 | cons a h ih => rw [hc]; omega
 | cons_cons a h ih => rw [hc, hc]; omega
theorem WalOwn.names {X : List O} {L : List Nat} {d : Nat} {D : Dk} {Y : List O} {lg n : Nat} {ts : List (Bs × Nat)} (h : WalOwn X L d D lg ts n Y) (hn : NmOk D) :
  Tri Tryz.prog 45 [.ptr d 0] Y (fun v Z => v = .vs ((namesD D).map encS) 1 ∧ WalOwn X L d D lg ts n Z ∧ StayL L Y Z) := by
 obtain ⟨a, ho, na, naL, nlL, hlog⟩ := h
 exact (names_own ho hn).mono fun v Z ⟨g1, g2, g3⟩ => ⟨g1, ⟨a, g2, na, naL, nlL, hlog.stay g3⟩, g3.tl.tl⟩
theorem WalOwn.make {X : List O} {L : List Nat} {d : Nat} {D : Dk} {Y : List O} {lg n : Nat} {ts : List (Bs × Nat)} (h : WalOwn X L d D lg ts n Y) (name : Bs) :
  Tri Tryz.prog 75 [.ptr d 0, .str name] Y (fun v Z => v = .int .i64 (makeD D name).1 ∧ WalOwn X L d (makeD D name).2 lg ts n Z ∧ StayL L Y Z) := by
 obtain ⟨a, ho, na, naL, nlL, hlog⟩ := h
 exact (make_own ho name).mono fun v Z ⟨g1, g2, g3⟩ => ⟨g1, ⟨a, g2, na, naL, nlL, hlog.stay g3⟩, g3.tl.tl⟩
theorem WalOwn.sub {X : List O} {L L' : List Nat} {d : Nat} {D : Dk} {Y : List O} {lg n : Nat} {ts : List (Bs × Nat)} (h : WalOwn X L d D lg ts n Y) (hs : ∀ i ∈ L', i ∈ L) : WalOwn X L' d D lg ts n Y := by
 obtain ⟨a, ho, na, naL, nlL, hlog⟩ := h
 refine ⟨a, ho.sub fun i hi => ?_, na, fun hm => naL (hs _ hm), fun hm => nlL (hs _ hm), hlog⟩
 simp only [List.mem_cons] at hi ⊢
 rcases hi with hi | hi | hi
 ·exact .inl hi
 ·exact .inr (.inl hi)
 ·exact .inr (.inr (hs i hi))
theorem WalOwn.row {X : List O} {L : List Nat} {d : Nat} {D : Dk} {Y : List O} {lg n : Nat} {ts : List (Bs × Nat)} (h : WalOwn X L d D lg ts n Y) : ∃ a, Y[lg]? = some (.row [.ptr d 0, .sl a 0 ts.length 2 none, .int .i64 n]) ∧ Y[a]? = some (.arr (ts.map encT) 2) := by
 obtain ⟨a, ho, na, naL, nlL, hlog⟩ := h
 exact ⟨a, hlog⟩
theorem open_own {X : List O} {L : List Nat} {d frm : Nat} {fs : List LF} {Y : List O} (h : Own X L d (LD fs (-1) false) Y) (hR : Ris fs) (hf : frm < 100) (hm : ∀ f ∈ fs, f.num < 99) (hb : ∀ f ∈ fs, f.bytes.length ≤ 4194304) (hT : (opnT fs).length ≤ 1000000000) :
  Tri Tryz.prog 34 [.ptr d 0, .int .i64 frm] Y (fun v Z => ∃ lg, v = .tup [.ptr lg 0, .int .i64 0] ∧ Y.length ≤ lg ∧ WalOwn X L d (LD (keepF frm fs ++ [⟨opnN frm (keepF frm fs), [], 0⟩]) (-1) false) lg (opnT (keepF frm fs)) (opnN frm (keepF frm fs)) Z ∧ StayL L Y Z) := by
 have hL : ∀ i ∈ L, i < Y.length := fun i hi => h.lt hi
 refine Tri.of_run' Tryz.func34 rfl c34_ok (by simp [Tryz.ntmps34]) ?_
 have f1 : ¬ (frm : Int) < 0 := by omega
 have f2 : ¬ (1048576 : Int) < frm := by omega
 have f3 : ¬ (1048576 < frm) := by omega
 (repeat (first | refine Run.adm rfl ?_ | refine Run.seq ?_ | ((first | apply Run.opS rfl | apply Run.condS); (· (simp -implicitDefEqProofs; first | exact ⟨rfl, rfl⟩ | exact rfl)))))
 have h1 := h.more [.row [.ptr d 0], .row [.int .i64 frm]] [Y.length, Y.length + 1] (by intro i hi; simp at hi; simp; omega)
 refine Run.opC rfl rfl rfl (made_own h1) ?_
 rintro v Z1 ⟨rfl, hZ1, st1⟩
 have hdb1 : Z1[Y.length]? = some (.row [.ptr d 0]) := (st1 _ (by simp)).trans (by simp)
 have hfb1 : Z1[Y.length + 1]? = some (.row [.int .i64 frm]) := (st1 _ (by simp)).trans (by simp)
 have hl1 := lt_of_get hfb1
 obtain ⟨db, hdb⟩ : ∃ db, db = Y.length := ⟨_, rfl⟩
 obtain ⟨fb, hfb⟩ : ∃ fb, fb = Y.length + 1 := ⟨_, rfl⟩
 rw [← hdb] at hdb1
 rw [← hfb] at hfb1 hl1
 rw [← hfb, ← hdb] at hZ1 st1
 rw [← hfb, ← hdb]
 (repeat (first | refine Run.adm rfl ?_ | refine Run.seq ?_ | ((first | apply Run.opS rfl | apply Run.condS); (· (simp -implicitDefEqProofs [hdb1, hfb1, f1, f2, f3]; first | exact ⟨rfl, rfl⟩ | exact rfl)))))
 refine Run.opC rfl rfl rfl (off_own hZ1) ?_
 rintro v H ⟨rfl, rfl⟩
 have hoff : (LD fs (-1) false).off = false := rfl
 (repeat (first | refine Run.adm rfl ?_ | refine Run.seq ?_ | ((first | apply Run.opS rfl | apply Run.condS); (· (simp -implicitDefEqProofs [hoff, hdb1, hfb1]; first | exact ⟨rfl, rfl⟩ | exact rfl)))))
 obtain ⟨lg, hlg⟩ : ∃ lg, lg = H.length := ⟨_, rfl⟩
 obtain ⟨lv, hlv⟩ : ∃ lv, lv = H.length + 1 := ⟨_, rfl⟩
 have hdl := lt_of_get hdb1
 have o1 := (hZ1.more [O.row [.ptr d 0, .nils, .int .i64 frm], O.row [.ptr H.length 0]] [H.length, H.length + 1] (by intro i hi; simp at hi; simp; omega)).put (i := H.length) (by simp) (O.row [.ptr d 0, .sl (H.length + 2) 0 0 2 none, .int .i64 frm])
 have o2 := o1.more [O.arr [] 2, O.ty (H.length + 2) 0 none] [H.length + 2] (by intro i hi; simp at hi; simp; omega)
 refine Run.nilC H.length 1 2 0 (by simp; rfl) (by simp) ?_
 have e2 : (H ++ [O.row [V.ptr d 0, .nils, .int .i64 frm], O.row [V.ptr H.length 0]]).length = H.length + 2 := by simp
 have stH : ∀ i, i < H.length → ∀ o1 o2 o3, ((H ++ o1).set H.length o2 ++ o3)[i]? = H[i]? := fun i hi o1 o2 o3 => by
  rw [List.getElem?_append_left (by simp; omega), setN (by omega), List.getElem?_append_left hi]
 have hlL : ∀ i ∈ L, i < H.length := fun i hi => by have := hL i hi; omega
 have k1 : ∀ x o3, ((H ++ [O.row [V.ptr d 0, .nils, .int .i64 frm], O.row [V.ptr H.length 0]]).set H.length x ++ o3)[H.length]? = some x := fun x o3 => by
  rw [List.getElem?_append_left (by simp), List.getElem?_set_self (by simp)]
 have k2 : ∀ x o3, ((H ++ [O.row [V.ptr d 0, .nils, .int .i64 frm], O.row [V.ptr H.length 0]]).set H.length x ++ o3)[H.length + 1]? = some (O.row [V.ptr H.length 0]) := fun x o3 => by
  rw [List.getElem?_append_left (by simp), setN (by omega)]; simp
 simp only [e2, List.set_cons_succ, List.set_cons_zero]
 refine run_to [(2, .ptr db 0), (3, .ptr fb 0), (6, .ptr lv 0)] (fun W => WalOwn X (fb :: db :: lv :: L) d (LD fs (-1) false) lg [] frm W ∧ StayL L Y W ∧ W[db]? = some (.row [.ptr d 0]) ∧ W[fb]? = some (.row [.int .i64 frm]) ∧ W[lv]? = some (.row [.ptr lg 0])) (by simp [hlv]) ⟨⟨lg + 2, o2.sub ?_, by omega, ?_, ?_, ?_, ?_⟩, ?_, ?_, ?_, ?_⟩ ?_
 ·intro i hi
  simp only [List.mem_cons] at hi
  simp only [List.mem_append, List.mem_cons, List.not_mem_nil, or_false, hlg, hlv] at hi ⊢
  rcases hi with hi | hi | hi | hi | hi | hi
  ·exact .inr hi
  ·exact .inl (.inr (.inl hi))
  ·exact .inl (.inl (.inr (.inr hi)))
  ·exact .inl (.inl (.inr (.inl hi)))
  ·exact .inl (.inr (.inr hi))
  ·exact .inl (.inl (.inl hi))
 ·intro hm
  simp only [List.mem_cons] at hm
  rcases hm with hm | hm | hm | hm
  ·omega
  ·omega
  ·omega
  ·have := hlL _ hm; omega
 ·intro hm
  simp only [List.mem_cons] at hm
  rcases hm with hm | hm | hm | hm
  ·omega
  ·omega
  ·omega
  ·have := hlL _ hm; omega
 ·rw [hlg]; exact k1 _ _
 ·rw [hlg, List.getElem?_append_right (by simp)]; simp
 ·intro i hi
  rw [stH i (hlL i hi)]
  refine (st1 i (by simp [hi])).trans ?_
  rw [List.getElem?_append_left (by have := hL i hi; omega)]
 ·rw [stH db hdl]; exact hdb1
 ·rw [stH fb hl1]; exact hfb1
 ·rw [hlv]; rw [k2, hlg]
 rintro W ⟨hW, stW, wdb, wfb, wlv⟩
 (repeat (first | refine Run.adm rfl ?_ | refine Run.seq ?_ | ((first | apply Run.opS rfl | apply Run.condS); (· (simp -implicitDefEqProofs [wdb]; first | exact ⟨rfl, rfl⟩ | exact rfl)))))
 have hnm := (WalOwn.names hW (nmOk_LD hR _ _))
 rw [namesD_LD hR] at hnm
 have hall := each_own (Y0 := W) (d := d) (fs.map (·.num)) (fun i hi => by
   obtain ⟨f, hf, rfl⟩ := List.mem_map.1 hi
   exact hR.2 f hf) (by have := hR.len; simp; omega) 70 [.ptr fb 0, .ptr db 0, .ptr lv 0]
  (fun i Z => WalOwn X (fb :: db :: lv :: L) d (LD (keepF frm (fs.take i) ++ fs.drop i) (-1) false) lg (opnT (keepF frm (fs.take i))) (opnN frm (keepF frm (fs.take i))) Z ∧ StayL (fb :: db :: lv :: L) W Z) (fun _ _ => False)
  (hnm.mono fun v Z ⟨g1, g2, g3⟩ => ⟨g1, by simpa [keepF, opnT, opnN] using g2, g3⟩) ?_
 ·refine Run.opC rfl rfl rfl hall ?_
  rintro v Z (⟨rfl, hZ, stZ⟩ | ⟨e, -, -, hF⟩)
  rotate_left
  ·exact hF.elim
  have htk : fs.take (fs.map (·.num)).length = fs := by simp
  have hdr : fs.drop (fs.map (·.num)).length = [] := by simp
  rw [htk, hdr, List.append_nil] at hZ
  have hKR : Ris (keepF frm fs) := hR.sub (keepF_sub frm fs)
  obtain ⟨s1, s2, s3⟩ := opnN_spec frm (keepF frm fs) hKR fun f hf => by
   have := (List.mem_filter.1 hf).2
   simpa using this
  have s4 : opnN frm (keepF frm fs) < 100 := by
   have := s3 99 (by omega) fun f hf => hm f ((keepF_sub frm fs).subset hf)
   omega
  generalize opnN frm (keepF frm fs) = last at *
  have zdb := (stZ db (by simp)).trans wdb
  have zlv := (stZ lv (by simp)).trans wlv
  obtain ⟨a, zlg, -⟩ := hZ.row
  have hbig : ¬ (99999998 : Int) < (last : Int) := by omega
  have hbig' : ¬ 99999998 < last := by omega
  have hmk := hZ.make (logN last)
  rw [make_LD hKR s4 (fun f hf => by have := s1 f hf; omega), if_neg (by simp)] at hmk
  (repeat (first | refine Run.adm rfl ?_ | refine Run.seq ?_ | ((first | apply Run.opS rfl | apply Run.condS); (· (simp -implicitDefEqProofs [zlv, zlg, hbig, hbig']; first | exact ⟨rfl, rfl⟩ | exact rfl)))))
  refine Run.qchain prog_mixed 6 (by kernel_rfl) ?_
  (repeat (first | refine execQ_E rfl ?_ | (apply execQ_S rfl; (· (simp -implicitDefEqProofs [zdb, zlv, zlg]; exact ⟨rfl, rfl⟩)))))
  refine execQ_C rfl rfl rfl (lname_at last s4 _) ?_
  (repeat (first | refine execQ_E rfl ?_ | (apply execQ_S rfl; (· (simp -implicitDefEqProofs; exact ⟨rfl, rfl⟩)))))
  refine SeqR.C rfl rfl rfl hmk ?_
  rintro v Z2 ⟨rfl, hZ2, stZ2⟩
  (repeat (first | refine SeqR.E rfl ?_ | (apply SeqR.o0 rfl; (· (simp -implicitDefEqProofs; exact ⟨rfl, rfl⟩))) | (apply SeqR.A rfl; (· (simp -implicitDefEqProofs; done)); (· (simp -implicitDefEqProofs; exact ⟨rfl, rfl⟩))) | (apply SeqR.N rfl; (· (simp -implicitDefEqProofs; done)))))
  have zlv2 := (stZ2 lv (by simp)).trans zlv
  (repeat (first | refine Run.adm rfl ?_ | refine Run.seq ?_ | ((first | apply Run.opS rfl | apply Run.condS); (· (simp -implicitDefEqProofs [zlv2]; first | exact ⟨rfl, rfl⟩ | exact rfl)))))
  refine Run.retS Tryz.func34 r34_ok trivial (by simp [r34]; rfl) ?_
  refine ⟨lg, by simp, by omega, hZ2.sub fun i hi => by simp [hi], fun i hi => ?_⟩
  rw [stZ2 i (by simp [hi]), stZ i (by simp [hi]), stW i hi]
 ·intro i n hi Z ⟨hZ, stZ⟩
  rw [List.getElem?_map] at hi
  cases hfi : fs[i]? with
  | none => rw [hfi] at hi; cases hi
  | some f =>
  rw [hfi] at hi
  simp only [Option.map_some, Option.some.injEq] at hi
  subst hi
  have hlt : i < fs.length := (List.getElem?_eq_some_iff.1 hfi).1
  have hdr : fs.drop i = f :: fs.drop (i + 1) := by rw [List.drop_eq_getElem_cons hlt, (List.getElem?_eq_some_iff.1 hfi).2]
  have htk : fs.take (i + 1) = fs.take i ++ [f] := by rw [List.take_add_one, hfi]; rfl
  have hsub : (keepF frm (fs.take i) ++ fs.drop i).Sublist fs := by
   have := ((keepF_sub frm (fs.take i)).append (List.Sublist.refl (fs.drop i)))
   rwa [List.take_append_drop] at this
  have hRi := hR.sub hsub
  rw [hdr] at hZ hRi
  have wfb' := (stZ fb (by simp)).trans wfb
  have wdb' := (stZ db (by simp)).trans wdb
  have wlv' := (stZ lv (by simp)).trans wlv
  have hmem : f ∈ fs := List.mem_of_getElem? hfi
  rw [htk, keepF_snoc]
  by_cases hlt2 : f.num < frm
  ·rw [if_neg (by omega)]
   exact (open1_rm hZ hRi wfb' wdb' hlt2).mono fun v Z2 ⟨g1, g2, g3⟩ => .inl ⟨g1, g2, stZ.trans g3⟩
  ·rw [if_pos (by omega), opnT_snoc, opnN_snoc, List.append_assoc]
   have hlen : (opnT (keepF frm (fs.take i))).length + (allF f.bytes).1.length ≤ 1000000000 := by
    have h1 : (keepF frm (fs.take i) ++ [f]).Sublist fs := by
     refine List.Sublist.trans ?_ (List.take_sublist (i + 1) fs)
     rw [htk]
     exact (keepF_sub frm (fs.take i)).append (List.Sublist.refl _)
    have h2 := opnT_len h1
    rw [opnT_snoc, List.length_append, List.length_map] at h2
    omega
   exact (open1_rd hZ hRi wfb' wdb' wlv' (by simp) (by have := hb f hmem; omega) hlen hlt2).mono fun v Z2 ⟨g1, g2, g3⟩ => .inl ⟨g1, g2, stZ.trans g3⟩
attribute [local simp ↓] upd_app tl_cons tl_nil
theorem del1_tri (X : List O) {bb : Nat} {b : Int} (h : X[bb]? = some (.row [.int .i64 b])) (x : Bs × Nat) : Tri Tryz.prog 84 [.agg (encT x), .ptr bb 0] X (fun v Z => v = .bool (decide ((x.2 : Int) < b)) ∧ Kept X Z []) := by
 refine Tri.of_run' Tryz.func84 rfl c84_ok (by simp [Tryz.ntmps84]) ?_
 (repeat (first | refine Run.adm rfl ?_ | refine Run.seq ?_ | ((first | apply Run.opS rfl | apply Run.condS); (· (simp -implicitDefEqProofs [encT, getA h]; first | exact ⟨rfl, rfl⟩ | exact rfl)))))
 refine Run.retS Tryz.func84 r84_ok trivial (by simp [r84]; rfl) ?_
 exact ⟨by simp, (Kept.refl X []).app _⟩
def lowI (b : Int) (ts : List (Bs × Nat)) : Nat := ts.findIdx fun x => decide ((x.2 : Int) < b)
def stayT (b : Int) (ts : List (Bs × Nat)) : List (Bs × Nat) := ts.filter fun x => !decide ((x.2 : Int) < b)
theorem index_tri (X : List O) {a bb : Nat} {b : Int} {ts : List (Bs × Nat)} (h1 : X[a]? = some (.arr (ts.map encT) 2)) (h2 : X[bb]? = some (.row [.int .i64 b])) (hl : ts.length ≤ 1000000000) :
  Tri Tryz.prog 135 [.sl a 0 ts.length 2 none, .fn 84 [.ptr bb 0]] X (fun v Z => v = .int .i64 (if lowI b ts < ts.length then (lowI b ts : Int) else -1) ∧ Kept X Z []) := by
 refine Tri.of_run' Tryz.func135 rfl c135_ok (by simp [Tryz.ntmps135]) ?_
 (repeat (first | refine Run.adm rfl ?_ | refine Run.seq ?_ | ((first | apply Run.opS rfl | apply Run.condS); (· (simp -implicitDefEqProofs; first | exact ⟨rfl, rfl⟩ | exact rfl)))))
 refine Run.sl [(0, .sl a 0 ts.length 2 none), (1, .fn 84 [.ptr bb 0]), (7, .int .i64 ts.length), (8, .int .i64 (0 : Nat))] (by simp) ?_
 refine Run.loopS (fun (x : Nat × List O) => ([(0, .sl a 0 ts.length 2 none), (1, .fn 84 [.ptr bb 0]), (7, .int .i64 ts.length), (8, .int .i64 x.1)], x.2))
  (fun x => x.1 ≤ ts.length ∧ Kept X x.2 [] ∧ ∀ j (h : j < ts.length), j < x.1 → ¬ ((ts[j].2 : Int) < b)) (fun x => ts.length - x.1) ?_ (0, X) ⟨Nat.zero_le _, Kept.refl _ _, fun j _ h => by simp at h⟩
 rintro ⟨i, Z⟩ ⟨hi, hk, hno⟩ ih
 simp only at hi hk hno ih ⊢
 by_cases hlt : i < ts.length
 ·obtain ⟨x, hx, hxi, -, -⟩ := getL hlt
  have hlt' : (i : Int) < ts.length := by omega
  have hw := wrap_small (n := (i : Int) + 1) (by omega) (by omega)
  have z1 := hk.get h1 (by simp)
  have z2 := hk.get h2 (by simp)
  have henc : encT x = [.str x.1, .int .i64 x.2] := rfl
  (repeat (first | refine Run.adm rfl ?_ | refine Run.seq ?_ | ((first | apply Run.opS rfl | apply Run.condS); (· (simp -implicitDefEqProofs [hlt, hlt', hx, hxi, z1, henc]; first | exact ⟨rfl, rfl⟩ | exact rfl)))))
  refine Run.opC rfl rfl rfl (del1_tri Z z2 x) ?_
  rintro v W ⟨rfl, hW⟩
  by_cases hb : (x.2 : Int) < b
  ·(repeat (first | refine Run.adm rfl ?_ | refine Run.seq ?_ | ((first | apply Run.opS rfl | apply Run.condS); (· (simp -implicitDefEqProofs [hb]; first | exact ⟨rfl, rfl⟩ | exact rfl)))))
   refine Run.retS Tryz.func135 r135_ok trivial (by simp [r135]; rfl) ?_
   have hidx : lowI b ts = i := by
    unfold lowI
    rw [List.findIdx_eq hlt]
    refine ⟨by simp [hxi, hb], fun j hj => ?_⟩
    have := hno j (by omega) hj
    simpa using this
   rw [hidx, if_pos hlt]
   exact ⟨by simp, hk.trans hW⟩
  ·(repeat (first | refine Run.adm rfl ?_ | refine Run.seq ?_ | ((first | apply Run.opS rfl | apply Run.condS); (· (simp -implicitDefEqProofs [hb]; first | exact ⟨rfl, rfl⟩ | exact rfl)))))
   refine Run.sl _ ?_ (ih (i + 1, W) ⟨by simp only; omega, hk.trans hW, fun j h hj => ?_⟩ (by simp only; omega))
   ·simp [hw]
   ·by_cases e : j = i
    ·subst e; rw [hxi]; exact hb
    ·exact hno j h (by simp only at hj; omega)
 ·have : i = ts.length := by omega
  subst this
  (repeat (first | refine Run.adm rfl ?_ | refine Run.seq ?_ | ((first | apply Run.opS rfl | apply Run.condS); (· (simp -implicitDefEqProofs; first | exact ⟨rfl, rfl⟩ | exact rfl)))))
  refine Run.retS Tryz.func135 r135_ok trivial (by simp [r135]; rfl) ?_
  have hidx : ¬ lowI b ts < ts.length := by
   intro hlt2
   have := List.findIdx_getElem (w := hlt2)
   exact hno _ hlt2 hlt2 (of_decide_eq_true this)
  rw [if_neg hidx]
  exact ⟨by simp, hk⟩
theorem stayT_len (b : Int) (ts : List (Bs × Nat)) : (stayT b ts).length ≤ ts.length := List.length_filter_le _ _
theorem stayT_snoc (b : Int) (ts : List (Bs × Nat)) (x : Bs × Nat) : stayT b (ts ++ [x]) = if (x.2 : Int) < b then stayT b ts else stayT b ts ++ [x] := by
 by_cases h : (x.2 : Int) < b <;> simp [stayT, List.filter_append, h]
theorem stayT_none {b : Int} {ts : List (Bs × Nat)} (h : ∀ j (h : j < ts.length), ¬ ((ts[j].2 : Int) < b)) : stayT b ts = ts := by
 unfold stayT
 rw [List.filter_eq_self]
 intro x hx
 obtain ⟨j, hj, rfl⟩ := List.mem_iff_getElem.1 hx
 have := h j hj
 simpa using this
theorem lowI_no {b : Int} {ts : List (Bs × Nat)} (j : Nat) (h : j < ts.length) (hj : j < lowI b ts) : ¬ ((ts[j].2 : Int) < b) := by
 have := List.not_of_lt_findIdx (p := fun x : Bs × Nat => decide ((x.2 : Int) < b)) (xs := ts) hj
 simpa using this
theorem delf_tri (X : List O) {a bb : Nat} {b : Int} {ts : List (Bs × Nat)} (h1 : X[a]? = some (.arr (ts.map encT) 2)) (h2 : X[bb]? = some (.row [.int .i64 b])) (hl : ts.length ≤ 1000000000) :
  Tri Tryz.prog 83 [.sl a 0 ts.length 2 none, .fn 84 [.ptr bb 0]] X
   (fun v Z => v = .sl a 0 (stayT b ts).length 2 none ∧ Kept X Z [a] ∧ ∃ us : List (Bs × Nat), Z[a]? = some (.arr (us.map encT) 2) ∧ us.take (stayT b ts).length = stayT b ts) := by
 have nab : a ≠ bb := fun e => by rw [e, h2] at h1; cases h1
 refine Tri.of_run' Tryz.func83 rfl c83_ok (by simp [Tryz.ntmps83]) ?_
 (repeat (first | refine Run.adm rfl ?_ | refine Run.seq ?_ | ((first | apply Run.opS rfl | apply Run.condS); (· (simp -implicitDefEqProofs; first | exact ⟨rfl, rfl⟩ | exact rfl)))))
 refine Run.opC rfl rfl rfl (index_tri X h1 h2 hl) ?_
 rintro v Z ⟨rfl, hZ⟩
 by_cases hlow : lowI b ts < ts.length
 rotate_left
 ·have hall : ∀ j (h : j < ts.length), ¬ ((ts[j].2 : Int) < b) := fun j h => lowI_no j h (by omega)
  rw [if_neg hlow, stayT_none hall]
  (repeat (first | refine Run.adm rfl ?_ | refine Run.seq ?_ | ((first | apply Run.opS rfl | apply Run.condS); (· (simp -implicitDefEqProofs; first | exact ⟨rfl, rfl⟩ | exact rfl)))))
  refine Run.retS Tryz.func83 r83_ok trivial (by simp [r83]; rfl) ?_
  exact ⟨by simp, hZ.mono (by simp), ts, hZ.get h1 (by simp), List.take_of_length_le (by simp)⟩
 rw [if_pos hlow]
 obtain ⟨i0, hi0⟩ : ∃ i0, i0 = lowI b ts := ⟨_, rfl⟩
 have hstay0 : stayT b (ts.take i0) = ts.take i0 := stayT_none fun j h => by
  rw [List.getElem_take]
  exact lowI_no j (by simp at h; omega) (by simp at h; omega)
 have hdel0 : stayT b (ts.take (i0 + 1)) = ts.take i0 := by
  have h3 : (ts[lowI b ts].2 : Int) < b := by
   exact of_decide_eq_true (List.findIdx_getElem (w := hlow))
  have : ts.take (i0 + 1) = ts.take i0 ++ [ts[lowI b ts]] := by rw [List.take_add_one, hi0, List.getElem?_eq_getElem hlow]; rfl
  rw [this, stayT_snoc, if_pos h3, hstay0]
 rw [← hi0] at hlow ⊢
 have hw0 := wrap_small (n := (i0 : Int) + 1) (by omega) (by omega)
 have hm1 : ¬ (i0 : Int) = -1 := by omega
 have hlen0 : (ts.take i0).length = i0 := by simp; omega
 (repeat (first | refine Run.adm rfl ?_ | refine Run.seq ?_ | ((first | apply Run.opS rfl | apply Run.condS); (· (simp -implicitDefEqProofs [hm1]; first | exact ⟨rfl, rfl⟩ | exact rfl)))))
 refine Run.sl [(0, .sl a 0 ts.length 2 none), (1, .fn 84 [.ptr bb 0]), (5, .int .i64 ((stayT b (ts.take (i0 + 1))).length : Nat)), (6, .int .i64 (i0 + 1 : Nat))] (by rw [hdel0, hlen0]; simp [hw0]) ?_
 refine Run.loopS (fun (x : Nat × List (Bs × Nat) × List O) => ([(0, .sl a 0 ts.length 2 none), (1, .fn 84 [.ptr bb 0]), (5, .int .i64 ((stayT b (ts.take x.1)).length : Nat)), (6, .int .i64 x.1)], x.2.2))
  (fun x => x.1 ≤ ts.length ∧ Kept X x.2.2 [a] ∧ x.2.2[a]? = some (.arr (x.2.1.map encT) 2) ∧ x.2.1.length = ts.length ∧ x.2.1.take (stayT b (ts.take x.1)).length = stayT b (ts.take x.1) ∧ x.2.1.drop x.1 = ts.drop x.1) (fun x => ts.length - x.1) ?_ (i0 + 1, ts, Z) ⟨by simp only; omega, hZ.mono (by simp), hZ.get h1 (by simp), rfl, by simp only; rw [hdel0, hlen0], rfl⟩
 rintro ⟨j, us, W⟩ ⟨hj, hk, ha, hel, htk, hdr⟩ ih
 simp only at hj hk ha hel htk hdr ih ⊢
 have hcl : (stayT b (ts.take j)).length ≤ j := by have := stayT_len b (ts.take j); simp at this; omega
 have hb' := hk.get h2 (by simp; omega)
 by_cases hlt : j < ts.length
 ·obtain ⟨x, hx, hxi, hxd, -⟩ := getL hlt
  have hlt' : (j : Int) < ts.length := by omega
  have hw := wrap_small (n := (j : Int) + 1) (by omega) (by omega)
  have husj : us[j]? = some x := by
   have := congrArg (·[0]?) hdr
   simp only [List.getElem?_drop, Nat.add_zero, hxd, List.getElem?_cons_zero] at this
   exact this
  have husj2 : us[j]'(by omega) = x := (List.getElem?_eq_some_iff.1 husj).2
  have hlt2 : j < us.length := by omega
  have htn : ts.take (j + 1) = ts.take j ++ [x] := by rw [List.take_add_one, hx]; rfl
  have henc : encT x = [.str x.1, .int .i64 x.2] := rfl
  have hal := lt_of_get ha
  (repeat (first | refine Run.adm rfl ?_ | refine Run.seq ?_ | ((first | apply Run.opS rfl | apply Run.condS); (· (simp -implicitDefEqProofs [hlt, hlt', hlt2, husj, husj2, ha, henc]; first | exact ⟨rfl, rfl⟩ | exact rfl)))))
  refine Run.opC rfl (by simp) rfl (del1_tri (W ++ [O.row [V.str x.1, V.int IntKind.i64 x.2]]) (getA hb' _) x) ?_
  rintro v U ⟨rfl, hU⟩
  have ua := hU.get (getA ha [O.row [V.str x.1, V.int IntKind.i64 x.2]]) (by simp)
  have uw : U[W.length]? = some (O.row [V.str x.1, V.int IntKind.i64 x.2]) := hU.get (by simp) (by simp)
  have hkU : Kept X U [a] := ((hk.app _).trans hU).mono (by simp)
  by_cases hb : (x.2 : Int) < b
  ·(repeat (first | refine Run.adm rfl ?_ | refine Run.seq ?_ | ((first | apply Run.opS rfl | apply Run.condS); (· (simp -implicitDefEqProofs [hb]; first | exact ⟨rfl, rfl⟩ | exact rfl)))))
   refine Run.sl _ ?_ (ih (j + 1, us, U) ⟨by simp only; omega, hkU, ua, hel, by simp only; rw [htn, stayT_snoc, if_pos hb]; exact htk, ?_⟩ (by simp only; omega))
   ·simp only [htn, stayT_snoc, if_pos hb]; simp [hw]
   ·simp only
    rw [← List.drop_drop, hdr, hxd]; simp
  ·have hcl2 : (stayT b (ts.take j)).length < us.length := by omega
   have hcl3 : ((stayT b (ts.take j)).length : Int) < ts.length := by omega
   have hcl4 : (stayT b (ts.take j)).length < ts.length := by omega
   have hwc := wrap_small (n := ((stayT b (ts.take j)).length : Int) + 1) (by omega) (by omega)
   have hst1 : stayT b (ts.take (j + 1)) = stayT b (ts.take j) ++ [x] := by rw [htn, stayT_snoc, if_neg hb]
   generalize stayT b (ts.take j) = st at *
   obtain ⟨y, hy, hyi, -, -⟩ := getL hcl2
   have hency : encT y = [.str y.1, .int .i64 y.2] := rfl
   (repeat (first | refine Run.adm rfl ?_ | refine Run.seq ?_ | ((first | apply Run.opS rfl | apply Run.condS); (· (simp -implicitDefEqProofs [hb, hlt, hlt', ua, uw, hcl2, hcl3, hcl4, hel, hy, hyi, hency]; first | exact ⟨rfl, rfl⟩ | exact rfl)))))
   refine Run.sl _ ?_ (ih (j + 1, us.set st.length x, U.set a (.arr ((us.map encT).set st.length (encT x)) 2)) ⟨by simp only; omega, hkU.set _ _ (.inl (by simp)), by simp only; rw [List.map_set]; exact setG ua _, by simp [hel], ?_, ?_⟩ (by simp only; omega))
   ·rw [hst1]; simp [hw, hwc]
   ·simp only
    rw [hst1, List.length_append, List.length_singleton, List.take_add_one, List.getElem?_set_self hcl2]
    simp [List.take_set, htk, List.set_eq_of_length_le (Nat.le_refl st.length)]
   ·simp only
    rw [List.drop_set, if_pos (by omega), ← List.drop_drop, hdr, hxd]; simp
 ·have : j = ts.length := by omega
  subst this
  rw [List.take_length] at htk ⊢
  have hcl5 := stayT_len b ts
  generalize stayT b ts = st at *
  have hcl6 : (st.length : Int) ≤ ts.length := by omega
  (repeat (first | refine Run.adm rfl ?_ | refine Run.seq ?_ | ((first | apply Run.opS rfl | apply Run.condS); (· (simp -implicitDefEqProofs [hcl5, hcl6, ha, hel]; first | exact ⟨rfl, rfl⟩ | exact rfl)))))
  refine Run.retS Tryz.func83 r83_ok trivial (by simp [r83]; rfl) ?_
  refine ⟨by simp, hk.set _ _ (.inl (by simp)) |>.mono (by simp), us.take st.length ++ List.replicate (ts.length - st.length) ([], 0), ?_, ?_⟩
  ·rw [setG ha]
   have hd : (us.map encT).drop ts.length = [] := List.drop_eq_nil_of_le (by simp [hel])
   simp [encT, hd, hel]
  ·rw [List.take_append_of_le_length (by simp; omega), List.take_take, Nat.min_self]; exact htk
attribute [local simp ↓] upd_app tl_cons tl_nil
def dropGo (b : Int) : List LF → List LF → Int → Bool → Int × List LF × Int × Bool
 | acc, [], fu, off => (0, acc, fu, off)
 | acc, f :: r, fu, off => if b ≤ (f.num : Int) then dropGo b (acc ++ [f]) r fu off else if off = true ∨ fu = 0 then (50, acc ++ f :: r, fu, true) else dropGo b acc r (nxF fu) false
def aboveF (b : Int) (fs : List LF) : List LF := fs.filter fun f => decide (b ≤ (f.num : Int))
theorem dropGo_calm (b : Int) : ∀ (r acc : List LF), dropGo b acc r (-1) false = (0, acc ++ aboveF b r, -1, false)
 | [], acc => by simp [dropGo, aboveF]
 | f :: r, acc => by
  unfold dropGo
  have hn : nxF (-1) = -1 := rfl
  by_cases h : b ≤ (f.num : Int)
  ·rw [if_pos h, dropGo_calm b r]; simp [aboveF, h]
  ·rw [if_neg h, if_neg (by simp), hn, dropGo_calm b r]; simp [aboveF, h]
theorem Own.kept {X L d D Y Z} {G : List Nat} (h : Own X L d D Y) (hk : Kept Y Z G) (hG : ∀ i ∈ G, i ∈ L) : Own X L d D Z := by
 obtain ⟨F, ⟨m, l, h1, hfs, rfl⟩, h2, h3, h4⟩ := h
 refine ⟨_, ⟨m, l, h1.apart (G := G) (fun j hj hm => (h4 j (hG j hm)).1 hj) hk, hfs, rfl⟩, ⟨Nat.le_trans h2.1 hk.1, fun i hi _ => ?_⟩, h3, fun i hi => ?_⟩
 ·rw [hk.2 i (Nat.lt_of_lt_of_le hi h2.1) (fun hm => by have := (h4 i (hG i hm)).2.2; omega), h2.2 i hi (by simp)]
 ·obtain ⟨g1, g2, g3⟩ := h4 i hi
  exact ⟨g1, Nat.lt_of_lt_of_le g2 hk.1, g3⟩
section drop
variable {X : List O} {L : List Nat} {d lg bb lb n : Nat} {A B fs : List LF} {f : LF} {fu b : Int} {off : Bool} {Y : List O} {ts : List (Bs × Nat)}
theorem drop1_tri (h : WalOwn X L d (LD (A ++ f :: B) fu off) lg ts n Y) (hR : Ris (A ++ f :: B)) (h1 : Y[bb]? = some (.row [.int .i64 b])) (h2 : Y[lb]? = some (.row [.ptr lg 0])) :
  Tri Tryz.prog 82 [.int .i64 f.num, .ptr bb 0, .ptr lb 0] Y (fun v Z => (b ≤ (f.num : Int) ∧ v = .int .i64 0 ∧ Z = Y) ∨
   (¬ b ≤ (f.num : Int) ∧ (off = true ∨ fu = 0) ∧ v = .int .i64 50 ∧ WalOwn X L d (LD (A ++ f :: B) fu true) lg ts n Z ∧ StayL L Y Z) ∨
   (¬ b ≤ (f.num : Int) ∧ ¬ (off = true ∨ fu = 0) ∧ v = .int .i64 0 ∧ WalOwn X L d (LD (A ++ B) (nxF fu) false) lg ts n Z ∧ StayL L Y Z)) := by
 obtain ⟨a, ho, na, naL, nlL, hlog⟩ := h
 have hn := hR.mid.2.2.1
 have hrm := remove_own ho (logN f.num)
 rw [remove_LD hR] at hrm
 refine Tri.of_run' Tryz.func82 rfl c82_ok (by simp [Tryz.ntmps82]) ?_
 by_cases hge : b ≤ (f.num : Int)
 ·(repeat (first | refine Run.adm rfl ?_ | refine Run.seq ?_ | ((first | apply Run.opS rfl | apply Run.condS); (· (simp -implicitDefEqProofs [h1, hge]; first | exact ⟨rfl, rfl⟩ | exact rfl)))))
  refine Run.retS Tryz.func82 r82_ok trivial (by simp [r82]; rfl) ?_
  exact .inl ⟨hge, by simp, rfl⟩
 ·(repeat (first | refine Run.adm rfl ?_ | refine Run.seq ?_ | ((first | apply Run.opS rfl | apply Run.condS); (· (simp -implicitDefEqProofs [h1, hge]; first | exact ⟨rfl, rfl⟩ | exact rfl)))))
  refine Run.qchain prog_mixed 6 (by kernel_rfl) ?_
  (repeat (first | refine execQ_E rfl ?_ | (apply execQ_S rfl; (· (simp -implicitDefEqProofs [h2, hlog.1]; exact ⟨rfl, rfl⟩)))))
  refine execQ_C rfl rfl rfl (lname_at f.num hn _) ?_
  (repeat (first | refine execQ_E rfl ?_ | (apply execQ_S rfl; (· (simp -implicitDefEqProofs; exact ⟨rfl, rfl⟩)))))
  refine SeqR.C rfl rfl rfl hrm ?_
  rintro v Z ⟨rfl, hZ, hst⟩
  (repeat (first | refine SeqR.E rfl ?_ | (apply SeqR.o0 rfl; (· (simp -implicitDefEqProofs; exact ⟨rfl, rfl⟩))) | (apply SeqR.A rfl; (· (simp -implicitDefEqProofs; done)); (· (simp -implicitDefEqProofs; exact ⟨rfl, rfl⟩))) | (apply SeqR.N rfl; (· (simp -implicitDefEqProofs; done)))))
  (repeat (first | refine Run.adm rfl ?_ | refine Run.seq ?_ | ((first | apply Run.opS rfl | apply Run.condS); (· (simp -implicitDefEqProofs; first | exact ⟨rfl, rfl⟩ | exact rfl)))))
  refine Run.retS Tryz.func82 r82_ok trivial (by simp [r82]; rfl) ?_
  by_cases hb : off = true ∨ fu = 0
  ·rw [if_pos hb] at hZ ⊢
   exact .inr (.inl ⟨hge, hb, by simp, ⟨a, hZ, na, naL, nlL, hlog.stay hst⟩, hst.tl.tl⟩)
  ·rw [if_neg hb] at hZ ⊢
   exact .inr (.inr ⟨hge, hb, by simp, ⟨a, hZ, na, naL, nlL, hlog.stay hst⟩, hst.tl.tl⟩)
theorem drop_own (h : WalOwn X L d (LD fs fu off) lg ts n Y) (hR : Ris fs) (hl : ts.length ≤ 1000000000) :
  Tri Tryz.prog 38 [.ptr lg 0, .int .i64 b] Y (fun v Z => ((n : Int) < b ∧ v = .int .i64 1 ∧ WalOwn X L d (LD fs fu off) lg ts n Z ∧ StayL L Y Z) ∨
   (¬ (n : Int) < b ∧ v = .int .i64 (dropGo b [] fs fu off).1 ∧ WalOwn X L d (LD (dropGo b [] fs fu off).2.1 (dropGo b [] fs fu off).2.2.1 (dropGo b [] fs fu off).2.2.2) lg (if (dropGo b [] fs fu off).1 = 0 then stayT b ts else ts) n Z ∧ StayL L Y Z)) := by
 obtain ⟨a, ho, na, naL, nlL, hlog⟩ := h
 have hll := lt_of_get hlog.1
 have hla := lt_of_get hlog.2
 have hLl : ∀ i ∈ L, i < Y.length := fun i hi => ho.lt (by simp [hi])
 obtain ⟨lb, hlb⟩ : ∃ lb, lb = Y.length := ⟨_, rfl⟩
 obtain ⟨bb, hbb⟩ : ∃ bb, bb = Y.length + 1 := ⟨_, rfl⟩
 have o1 := ho.more [.row [.ptr lg 0], .row [.int .i64 b]] [lb, bb] (by intro i hi; simp at hi; simp; omega)
 refine Tri.of_run' Tryz.func38 rfl c38_ok (by simp [Tryz.ntmps38]) ?_
 (repeat (first | refine Run.adm rfl ?_ | refine Run.seq ?_ | ((first | apply Run.opS rfl | apply Run.condS); (· (simp -implicitDefEqProofs; first | exact ⟨rfl, rfl⟩ | exact rfl)))))
 refine run_to [(2, .ptr lb 0), (3, .ptr bb 0)] (fun W => WalOwn X (lb :: bb :: L) d (LD fs fu off) lg ts n W ∧ StayL L Y W ∧ W[lb]? = some (.row [.ptr lg 0]) ∧ W[bb]? = some (.row [.int .i64 b])) (by simp [hlb, hbb]) ⟨⟨a, o1.sub ?_, na, ?_, ?_, getA hlog.1 _, getA hlog.2 _⟩, ?_, by simp [hlb], by simp [hbb]⟩ ?_
 ·intro i hi
  simp only [List.mem_cons] at hi
  simp only [List.mem_append, List.mem_cons, List.not_mem_nil, or_false]
  rcases hi with hi | hi | hi | hi | hi
  ·exact .inl (.inl hi)
  ·exact .inl (.inr (.inl hi))
  ·exact .inr (.inl hi)
  ·exact .inr (.inr hi)
  ·exact .inl (.inr (.inr hi))
 ·intro hm
  simp only [List.mem_cons] at hm
  rcases hm with hm | hm | hm
  ·omega
  ·omega
  ·exact naL hm
 ·intro hm
  simp only [List.mem_cons] at hm
  rcases hm with hm | hm | hm
  ·omega
  ·omega
  ·exact nlL hm
 ·intro i hi
  rw [List.getElem?_append_left (hLl i hi)]
 clear o1 hlog hla hll na naL ho
 rintro W ⟨hW, stW, wlb, wbb⟩
 obtain ⟨a, wlg, -⟩ := hW.row
 refine Run.quiet prog_mixed (by kernel_rfl) ?_
 (repeat (first | refine execQ_E rfl ?_ | (apply execQ_S rfl; (· (simp -implicitDefEqProofs [wlb]; exact ⟨rfl, rfl⟩)))))
 refine execQ_C rfl rfl rfl (given_tri W wlg) ?_
 by_cases hbig : (n : Int) < b
 ·(repeat (first | refine execQ_E rfl ?_ | (apply execQ_S rfl; (· (simp -implicitDefEqProofs [wlb, wbb, wlg, hbig]; exact ⟨rfl, rfl⟩)))))
  (repeat (first | refine Run.adm rfl ?_ | refine Run.seq ?_ | ((first | apply Run.opS rfl | apply Run.condS); (· (simp -implicitDefEqProofs; first | exact ⟨rfl, rfl⟩ | exact rfl)))))
  refine Run.retS Tryz.func38 r38_ok trivial (by simp [r38]; rfl) ?_
  exact .inl ⟨hbig, by simp, hW.sub fun i hi => by simp [hi], stW⟩
 (repeat (first | refine execQ_E rfl ?_ | (apply execQ_S rfl; (· (simp -implicitDefEqProofs [wlb, wbb, wlg, hbig]; exact ⟨rfl, rfl⟩)))))
 (repeat (first | refine Run.adm rfl ?_ | refine Run.seq ?_ | ((first | apply Run.opS rfl | apply Run.condS); (· (simp -implicitDefEqProofs [wlb, wlg]; first | exact ⟨rfl, rfl⟩ | exact rfl)))))
 have hnm := (WalOwn.names hW (nmOk_LD hR _ _))
 rw [namesD_LD hR] at hnm
 have hall := each_own (Y0 := W) (d := d) (fs.map (·.num)) (fun i hi => by
   obtain ⟨f, hf, rfl⟩ := List.mem_map.1 hi
   exact hR.2 f hf) (by have := hR.len; simp; omega) 82 [.ptr bb 0, .ptr lb 0]
  (fun i Z => ∃ acc fu' off', dropGo b [] fs fu off = dropGo b acc (fs.drop i) fu' off' ∧ Ris (acc ++ fs.drop i) ∧ WalOwn X (lb :: bb :: L) d (LD (acc ++ fs.drop i) fu' off') lg ts n Z ∧ StayL (lb :: bb :: L) W Z)
  (fun e Z => ∃ fs' fu' off', dropGo b [] fs fu off = (e, fs', fu', off') ∧ WalOwn X (lb :: bb :: L) d (LD fs' fu' off') lg ts n Z ∧ StayL (lb :: bb :: L) W Z)
  (hnm.mono fun v Z ⟨g1, g2, g3⟩ => ⟨g1, [], fu, off, rfl, by simpa using hR, by simpa using g2, g3⟩) ?_
 rotate_left
 ·intro i m hi Z ⟨acc, fu', off', e1, hRi, hZ, stZ⟩
  rw [List.getElem?_map] at hi
  cases hfi : fs[i]? with
  | none => rw [hfi] at hi; cases hi
  | some f =>
  rw [hfi] at hi
  simp only [Option.map_some, Option.some.injEq] at hi
  subst hi
  have hlt : i < fs.length := (List.getElem?_eq_some_iff.1 hfi).1
  have hdr : fs.drop i = f :: fs.drop (i + 1) := by rw [List.drop_eq_getElem_cons hlt, (List.getElem?_eq_some_iff.1 hfi).2]
  rw [hdr] at hZ hRi e1
  refine (drop1_tri (b := b) hZ hRi ((stZ bb (by simp)).trans wbb) ((stZ lb (by simp)).trans wlb)).mono ?_
  rintro v Z2 (⟨g0, g1, rfl⟩ | ⟨g0, g1, g2, g3, g4⟩ | ⟨g0, g1, g2, g3, g4⟩)
  ·refine .inl ⟨g1, acc ++ [f], fu', off', ?_, by simpa using hRi, by simpa using hZ, stZ⟩
   rw [e1, dropGo, if_pos g0]
  ·refine .inr ⟨50, by decide, g2, acc ++ f :: fs.drop (i + 1), fu', true, ?_, g3, stZ.trans g4⟩
   rw [e1, dropGo, if_neg g0, if_pos g1]
  ·refine .inl ⟨g2, acc, nxF fu', false, ?_, hRi.mid.2.2.2, g3, stZ.trans g4⟩
   rw [e1, dropGo, if_neg g0, if_neg g1]
 refine Run.opC rfl rfl rfl hall ?_
 rintro v Z (⟨rfl, acc, fu', off', e1, -, hZ, stZ⟩ | ⟨e, he, rfl, fs', fu', off', e1, hZ, stZ⟩)
 rotate_left
 ·(repeat (first | refine Run.adm rfl ?_ | refine Run.seq ?_ | ((first | apply Run.opS rfl | apply Run.condS); (· (simp -implicitDefEqProofs [he]; first | exact ⟨rfl, rfl⟩ | exact rfl)))))
  refine Run.retS Tryz.func38 r38_ok trivial (by simp [r38]; rfl) ?_
  rw [e1]
  refine .inr ⟨hbig, by simp, ?_, stW.trans stZ.tl.tl⟩
  simp only
  rw [if_neg he]
  exact hZ.sub fun i hi => by simp [hi]
 have hdr : fs.drop (fs.map (·.num)).length = [] := by simp
 rw [hdr, List.append_nil] at hZ
 rw [hdr, dropGo] at e1
 rw [e1]
 have zlb := (stZ lb (by simp)).trans wlb
 have zbb := (stZ bb (by simp)).trans wbb
 obtain ⟨a, ho, na, naL, nlL, g1, g2⟩ := hZ
 have nabb : a ≠ bb := fun e => naL (by simp [e])
 have nalb : a ≠ lb := fun e => naL (by simp [e])
 (repeat (first | refine Run.adm rfl ?_ | refine Run.seq ?_ | ((first | apply Run.opS rfl | apply Run.condS); (· (simp -implicitDefEqProofs; first | exact ⟨rfl, rfl⟩ | exact rfl)))))
 refine Run.quietTo prog_mixed 6 (by kernel_rfl) ?_
 (repeat (first | refine execQ_E rfl ?_ | (apply execQ_S rfl; (· (simp -implicitDefEqProofs [zlb, g1]; exact ⟨rfl, rfl⟩)))))
 intro hpo
 refine RunD.alt1 6 (by kernel_rfl) (by kernel_rfl) hpo ?_
 refine AStep.C rfl rfl rfl (delf_tri Z g2 zbb hl) ?_
 rintro v U ⟨rfl, hU, us, ua, htk⟩
 have ulb := hU.get zlb (by simpa using fun e => nalb e.symm)
 have ulg := hU.get g1 (by simpa using fun e => na e.symm)
 refine RunD.alt1 7 (by kernel_rfl) (by kernel_rfl) (by
  show PendOk _ c38d1 _ _ [0]
  (repeat (first | exact PendOk.nil | (refine PendOk.S rfl rfl ?_ ?_; (· (simp -implicitDefEqProofs [ulb]; done)))))) ?_
 (apply AStep.S rfl; (· (simp -implicitDefEqProofs; exact ⟨rfl, rfl⟩)))
 refine RunD.alt1 8 (by kernel_rfl) (by kernel_rfl) (show PendOk _ c38d1 _ _ [] from trivial) ?_
 (apply AStep.S rfl; (· (simp -implicitDefEqProofs; exact ⟨rfl, rfl⟩)))
 refine RunD.alt1 9 (by kernel_rfl) (by kernel_rfl) (show PendOk _ c38d1 _ _ [] from trivial) ?_
 (apply AStep.S rfl; (· (simp -implicitDefEqProofs [ulg]; exact ⟨rfl, rfl⟩)))
 refine RunD.fin (by kernel_rfl) (show PendOk _ c38d1 _ _ [] from trivial) ?_
 refine Run.leS a (stayT b ts).length (by rw [setN (Ne.symm na)]; exact ua) ?_
 (repeat (first | refine Run.adm rfl ?_ | refine Run.seq ?_ | ((first | apply Run.opS rfl | apply Run.condS); (· (simp -implicitDefEqProofs; first | exact ⟨rfl, rfl⟩ | exact rfl)))))
 refine Run.retS Tryz.func38 r38_ok trivial (by simp [r38]; rfl) ?_
 have htk2 : (us.map encT).take (stayT b ts).length = (stayT b ts).map encT := by rw [← List.map_take, htk]
 have oU := ho.kept hU (by simp)
 refine .inr ⟨hbig, by simp, ⟨a, ((oU.put (by simp) _).put (by simp) _).sub ?_, na, fun hm => naL (by simp [hm]), fun hm => nlL (by simp [hm]), ?_, ?_⟩, fun i hi => ?_⟩
 ·intro i hi
  simp only [List.mem_cons] at hi ⊢
  rcases hi with hi | hi | hi
  ·exact .inl hi
  ·exact .inr (.inl hi)
  ·exact .inr (.inr (.inr (.inr hi)))
 ·rw [setN na, setG ulg]; simp
 ·rw [setG (by rw [setN (Ne.symm na)]; exact ua), htk2]; simp
 ·have n1 : a ≠ i := fun e => naL (by simp [e, hi])
  have n2 : lg ≠ i := fun e => nlL (by simp [e, hi])
  have hli := ho.lt (i := i) (by simp [hi])
  rw [setN n1, setN n2, hU.2 i hli (by simpa using Ne.symm n1), stZ i (by simp [hi]), stW i hi]
end drop
attribute [local simp ↓] upd_app tl_cons tl_nil
section calls
variable {X : List O} {L : List Nat} {d lg n : Nat} {A fs : List LF} {f : LF} {fu : Int} {off : Bool} {Y : List O} {ts : List (Bs × Nat)}
theorem WalOwn.add (h : WalOwn X L d (LD (A ++ [f]) fu off) lg ts f.num Y) (hR : Ris (A ++ [f])) (hl : ts.length ≤ 1000000000) (s : Bs) (hs : s.length ≤ 131072) (hb : f.bytes.length + (frmB s).length ≤ 4194304) :
  Tri Tryz.prog 79 [.ptr lg 0, .str s] Y (fun v Z => ((off = true ∨ fu = 0) ∧ v = .int .i64 50 ∧ WalOwn X L d (LD (A ++ [f]) fu true) lg ts f.num Z ∧ StayL L Y Z) ∨
   (¬ (off = true ∨ fu = 0) ∧ v = .int .i64 0 ∧ WalOwn X L d (LD (A ++ [⟨f.num, f.bytes ++ frmB s, f.sure⟩]) (nxF fu) false) lg (ts ++ [(s, f.num)]) f.num Z ∧ StayL L Y Z)) := by
 have hap := append_LD (B := []) (fu := fu) (off := off) hR (frmB s) hb
 refine (add_own h (hR.2 f (by simp)) hl s hs).mono fun v Z ⟨g1, g2, g3⟩ => ?_
 unfold addT addD at g2
 unfold addD at g1
 rw [hap] at g1 g2
 by_cases hb : off = true ∨ fu = 0
 ·rw [if_pos hb] at g1 g2
  exact .inl ⟨hb, g1, by simpa using g2, g3⟩
 ·rw [if_neg hb] at g1 g2
  exact .inr ⟨hb, g1, by simpa using g2, g3⟩
theorem WalOwn.flush (h : WalOwn X L d (LD (A ++ [f]) fu off) lg ts f.num Y) (hR : Ris (A ++ [f])) :
  Tri Tryz.prog 81 [.ptr lg 0] Y (fun v Z => ((off = true ∨ fu = 0) ∧ v = .int .i64 50 ∧ WalOwn X L d (LD (A ++ [f]) fu true) lg ts f.num Z ∧ StayL L Y Z) ∨
   (¬ (off = true ∨ fu = 0) ∧ v = .int .i64 0 ∧ WalOwn X L d (LD (A ++ [⟨f.num, f.bytes, f.bytes.length⟩]) (nxF fu) false) lg ts f.num Z ∧ StayL L Y Z)) := by
 have hap := sync_LD (B := []) (fu := fu) (off := off) hR
 obtain ⟨a, ho, na, naL, nlL, hlog⟩ := h
 refine (flush_own ho (hR.2 f (by simp)) hlog.1).mono fun v Z ⟨g1, g2, g3⟩ => ?_
 rw [hap] at g1 g2
 by_cases hb : off = true ∨ fu = 0
 ·rw [if_pos hb] at g1 g2
  exact .inl ⟨hb, g1, ⟨a, g2, na, naL, nlL, hlog.stay g3⟩, g3.tl.tl⟩
 ·rw [if_neg hb] at g1 g2
  exact .inr ⟨hb, g1, ⟨a, g2, na, naL, nlL, hlog.stay g3⟩, g3.tl.tl⟩
theorem WalOwn.all (h : WalOwn X L d (LD fs fu off) lg ts n Y) (hl : ts.length ≤ 1000000000) : Tri Tryz.prog 35 [.ptr lg 0] Y (fun v Z => v = .vs ((ts.map (·.1)).map encS) 1 ∧ WalOwn X L d (LD fs fu off) lg ts n Z ∧ StayL L Y Z) := by
 obtain ⟨a, ho, na, naL, nlL, hlog⟩ := h
 refine (all_log Y hlog.1 hlog.2 hl).mono fun v Z ⟨g1, g2⟩ => ?_
 obtain ⟨k1, k2⟩ := ho.keep g2
 exact ⟨g1, ⟨a, k1, na, naL, nlL, hlog.stay k2⟩, k2.tl.tl⟩
theorem WalOwn.last {D : Dk} (h : WalOwn X L d D lg ts n Y) : Tri Tryz.prog 39 [.ptr lg 0] Y (fun v Z => v = .int .i64 n ∧ Z = Y) := by
 obtain ⟨a, g1, -⟩ := h.row
 exact last_tri Y g1
theorem WalOwn.disk {D : Dk} (h : WalOwn X L d D lg ts n Y) : Own X L d D Y := by
 obtain ⟨a, ho, -⟩ := h
 exact ho.sub fun i hi => by simp [hi]
def cutL (nf : Bs → Nat) (f : LF) : LF := ⟨f.num, f.bytes.take (cutLen (nf (logN f.num)) f.file), cutLen (nf (logN f.num)) f.file⟩
theorem cutL_spec (nf : Bs → Nat) (f : LF) (h : f.sure ≤ f.bytes.length) : ∃ c, f.sure ≤ c ∧ c ≤ f.bytes.length ∧ cutL nf f = ⟨f.num, f.bytes.take c, c⟩ ∧ ((∀ x, nf x = 0) → c = f.sure) := by
 refine ⟨cutLen (nf (logN f.num)) f.file, ?_, ?_, rfl, fun h0 => ?_⟩
 ·simp only [cutLen, LF.file]; omega
 ·simp only [cutLen, LF.file]; omega
 ·simp only [cutLen, LF.file, h0]; omega
theorem crash_LD (h : Own X L d (LD fs fu off) Y) (hR : Ris fs) (keep : List Int) (hk : keep.length ≤ 1000) :
  Tri Tryz.prog 15 [.ptr d 0, .vs (keep.map encN) 1] Y (fun v Z => v = .int .i64 0 ∧ ∃ nf : Bs → Nat, (keep = [] → ∀ x, nf x = 0) ∧ Own X L d (LD (fs.map (cutL nf)) (-1) false) Z ∧ StayL L Y Z) := by
 refine (crash_own h (nmOk_LD hR _ _) keep hk).mono fun v Z ⟨g1, nf, g2, g3, g4⟩ => ⟨g1, nf, g2, ?_, g4⟩
 have e : (LD fs fu off).files.map (fun f => cutF (nf f.name) f) = (fs.map (cutL nf)).map LF.file := by
  simp only [LD, List.map_map]
  exact List.map_congr_left fun f _ => rfl
 rw [e] at g3
 exact g3
theorem crash0_LD (h : Own X L d (LD fs fu off) Y) (hR : Ris fs) :
  Tri Tryz.prog 15 [.ptr d 0, .nils] Y (fun v Z => v = .int .i64 0 ∧ ∃ nf : Bs → Nat, (∀ x, nf x = 0) ∧ Own X L d (LD (fs.map (cutL nf)) (-1) false) Z ∧ StayL L Y Z) := by
 have hv : VsLe [V.ptr d 0, .nils] [.ptr d 0, .vs (([] : List Int).map encN) 1] := ⟨VLe.refl _, VLe.nils _, trivial⟩
 exact (Tri.args hv (crash_LD h hR [] (by simp))).mono fun v Z ⟨g1, nf, g2, g3, g4⟩ => ⟨g1, nf, g2 rfl, g3, g4⟩
end calls
section
variable {m : Nat}
def HFb (m : Nat) (gs : List (List Bs)) : List LF := gs.mapIdx fun i g => ⟨m + i, g.flatMap frmB, (g.flatMap frmB).length⟩
theorem HFb_snoc (gs : List (List Bs)) (g : List Bs) : HFb m (gs ++ [g]) = HFb m gs ++ [⟨m + gs.length, g.flatMap frmB, (g.flatMap frmB).length⟩] := by simp [HFb]
theorem cutb_full (nf : Bs → Nat) (f : LF) (h : f.sure = f.bytes.length) : cutL nf f = f := by
 obtain ⟨c, h1, h2, h3, -⟩ := cutL_spec nf f (by omega)
 have : c = f.bytes.length := by omega
 rw [h3, this, List.take_length]
 cases f
 simp only at h ⊢
 rw [h]
theorem opnb_fst (fs : List LF) : (opnT fs).map (·.1) = fs.flatMap fun f => (allF f.bytes).1 := by
 simp [opnT, List.map_flatMap, Function.comp_def]
theorem HFb_texts : ∀ (gs : List (List Bs)), (∀ g ∈ gs, ∀ s ∈ g, s.length ≤ 262144) → (HFb m gs).flatMap (fun f => (allF f.bytes).1) = gs.flatten := by
 intro gs
 induction h : gs.length generalizing gs with
 | zero =>
  intro _
  have : gs = [] := List.length_eq_zero_iff.1 h
  subst this; simp [HFb]
 | succ n ih =>
  intro hl
  rcases List.eq_nil_or_concat gs with rfl | ⟨hs, g, hc⟩
  ·simp at h
  ·rw [List.concat_eq_append] at hc
   subst hc
   simp only [List.length_append, List.length_singleton] at h
   rw [HFb_snoc, List.flatMap_append, ih hs (by omega) (fun g hg => hl g (by simp [hg])), List.flatten_append]
   have := allF_whole g (hl g (by simp))
   simp [this]
theorem openedb (gs : List (List Bs)) (us : List Bs) (B : Bs) (k : Nat) (h : ∀ g ∈ gs, ∀ s ∈ g, s.length ≤ 262144) (hB : (allF B).1 = us) :
  (opnT (HFb m gs ++ [⟨m + gs.length, B, k⟩])).map (·.1) = gs.flatten ++ us ∧ opnN 0 (HFb m gs ++ [⟨m + gs.length, B, k⟩]) = m + gs.length + 1 := by
 refine ⟨?_, by rw [opnN_snoc]⟩
 rw [opnb_fst, List.flatMap_append, HFb_texts gs h]
 simp [hB]
end
attribute [local simp ↓] upd_app tl_cons tl_nil
theorem hasTyN_of {Y : List O} {g r ty n : Nat} (h : Y[g]? = some (.ty r ty (some n))) : hasTyN Y r ty n = true := by
 unfold hasTyN
 rw [List.any_eq_true]
 exact ⟨_, List.mem_of_getElem? h, by simp⟩
theorem hasTy_of {Y : List O} {g r ty : Nat} {n : Option Nat} (h : Y[g]? = some (.ty r ty n)) : hasTy Y r ty = true := by
 unfold hasTy
 rw [List.any_eq_true]
 exact ⟨_, List.mem_of_getElem? h, by simp⟩
theorem copyO_tri {Y : List O} {r : Nat} {A : V} {rest : List V} (hr : Y[r]? = some (.row (A :: rest))) (hA : A = .nilp ∨ A = .ptr r 0) (hg : hasTyN Y r 232 3 = true) :
  Tri Tryz.prog 167 [.ptr r 0] Y (fun v Z => v = .tup [] ∧ Z = Y.set r (.row (.ptr r 0 :: rest))) := by
 refine Tri.of_run' Tryz.func167 rfl c167_ok (by simp [Tryz.ntmps167]) ?_
 rcases hA with rfl | rfl
 ·(repeat (first | refine Run.adm rfl ?_ | refine Run.seq ?_ | ((first | apply Run.opS rfl | apply Run.condS); (· (simp -implicitDefEqProofs [hr, hg, -hasTyN]; first | exact ⟨rfl, rfl⟩ | exact rfl)))))
  refine Run.retS Tryz.func167 r167_ok trivial (by simp [r167]; rfl) ?_
  exact ⟨by simp, rfl⟩
 ·(repeat (first | refine Run.adm rfl ?_ | refine Run.seq ?_ | ((first | apply Run.opS rfl | apply Run.condS); (· (simp -implicitDefEqProofs [hr]; first | exact ⟨rfl, rfl⟩ | exact rfl)))))
  refine Run.retS Tryz.func167 r167_ok trivial (by simp [r167]; rfl) ?_
  exact ⟨by simp, (set_same hr).symm⟩
def BufAt (Y : List O) (bv : V) (s : Bs) (F : List Nat) : Prop := (bv = .nils ∧ s = [] ∧ F = []) ∨ ∃ a g, F = [a, g] ∧ s ≠ [] ∧ bv = .sl a 0 s.length 1 none ∧ Y[a]? = some (.arr (byteEls s) 1) ∧ Y[g]? = some (.ty a 5 none)
def OutAt (r : Nat) (s : Bs) (ok : Bool) (F : List Nat) (Y : List O) : Prop :=
 ∃ A bv g F', F = r :: g :: F' ∧ (A = .nilp ∨ A = .ptr r 0) ∧ Y[r]? = some (.row [A, bv, .bool ok]) ∧ Y[g]? = some (.ty r 232 (some 3)) ∧ BufAt Y bv s F' ∧ r ∉ F' ∧ r ≠ g
def InAt (r : Nat) (s : Bs) (_ok : Bool) (F : List Nat) (Y : List O) : Prop := F = [r] ∧ Y[r]? = some (.row [.str s, .bool true])
def Way (k : Bool) (L : List Nat) (r : Nat) (s : Bs) (ok : Bool) (Y : List O) : Prop := ∃ F, (if k = true then OutAt r s ok F Y else InAt r s ok F Y) ∧ ∀ i ∈ L, i ∉ F ∧ i < Y.length
theorem OutAt.lt {r s ok F Y} (h : OutAt r s ok F Y) : ∀ i ∈ F, i < Y.length := by
 obtain ⟨A, bv, g, F', rfl, hA, h1, h2, h3, -, -⟩ := h
 intro i hi
 simp only [List.mem_cons] at hi
 rcases hi with rfl | rfl | hi
 ·exact lt_of_get h1
 ·exact lt_of_get h2
 ·rcases h3 with ⟨-, -, rfl⟩ | ⟨a, g', rfl, -, -, g1, g2⟩
  ·simp at hi
  ·simp only [List.mem_cons, List.not_mem_nil, or_false] at hi
   rcases hi with rfl | rfl
   ·exact lt_of_get g1
   ·exact lt_of_get g2
theorem OutAt.kept {r s ok F Y Z G} (h : OutAt r s ok F Y) (hk : Kept Y Z G) (hG : ∀ i ∈ F, i ∉ G) : OutAt r s ok F Z := by
 obtain ⟨A, bv, g, F', rfl, hA, h1, h2, h3, h4, h5⟩ := h
 refine ⟨A, bv, g, F', rfl, hA, hk.get h1 (hG r (by simp)), hk.get h2 (hG g (by simp)), ?_, h4, h5⟩
 rcases h3 with h3 | ⟨a, g', rfl, e0, e, g1, g2⟩
 ·exact .inl h3
 ·exact .inr ⟨a, g', rfl, e0, e, hk.get g1 (hG a (by simp)), hk.get g2 (hG g' (by simp))⟩
theorem InAt.kept {r s ok F Y Z G} (h : InAt r s ok F Y) (hk : Kept Y Z G) (hG : ∀ i ∈ F, i ∉ G) : InAt r s ok F Z := by
 obtain ⟨rfl, h1⟩ := h
 exact ⟨rfl, hk.get h1 (hG r (by simp))⟩
theorem Way.kept {k L r s ok Y Z G} (h : Way k L r s ok Y) (hk : Kept Y Z G) (hG : ∀ i ∈ G, i ∈ L ∨ Y.length ≤ i) : Way k L r s ok Z := by
 obtain ⟨F, h1, h2⟩ := h
 refine ⟨F, ?_, fun i hi => ⟨(h2 i hi).1, Nat.lt_of_lt_of_le (h2 i hi).2 hk.1⟩⟩
 have hlt : ∀ i ∈ F, i ∉ G := by
  intro i hi hm
  rcases hG i hm with h | h
  ·exact (h2 i h).1 hi
  ·have : i < Y.length := by
    cases k with
    | true => exact OutAt.lt (by simpa using h1) i hi
    | false =>
     obtain ⟨rfl, g⟩ : InAt r s ok F Y := by simpa using h1
     rw [List.mem_singleton.1 hi]; exact lt_of_get g
   omega
 cases k with
 | true => simp only [if_true] at h1 ⊢; exact h1.kept hk hlt
 | false => simp only [if_neg Bool.false_ne_true] at h1 ⊢; exact h1.kept hk hlt
theorem Way.put {k L r s ok Y} (h : Way k L r s ok Y) {i : Nat} (hi : i ∈ L) (o : O) : Way k L r s ok (Y.set i o) := h.kept (G := [i]) ((Kept.refl Y _).set _ _ (.inl (by simp))) (by simp [hi])
theorem Way.more {k L r s ok Y} (h : Way k L r s ok Y) (o : O) : Way k (Y.length :: L) r s ok (Y ++ [o]) := by
 have hlt : ∀ F, (if k = true then OutAt r s ok F Y else InAt r s ok F Y) → ∀ i ∈ F, i < Y.length := by
  intro F h1 i hi
  cases k with
  | true => exact OutAt.lt (by simpa using h1) i hi
  | false =>
   obtain ⟨rfl, g⟩ : InAt r s ok F Y := by simpa using h1
   rw [List.mem_singleton.1 hi]; exact lt_of_get g
 obtain ⟨F, h1, h2⟩ := h
 have hl := hlt F h1
 refine ⟨F, ?_, fun i hi => ?_⟩
 ·cases k with
  | true => simp only [if_true] at h1 ⊢; exact h1.kept ((Kept.refl Y []).app _) (by simp)
  | false => simp only [if_neg Bool.false_ne_true] at h1 ⊢; exact h1.kept ((Kept.refl Y []).app _) (by simp)
 ·rcases List.mem_cons.1 hi with rfl | hi
  ·exact ⟨fun hm => by have := hl _ hm; omega, by simp⟩
  ·exact ⟨(h2 i hi).1, by have := (h2 i hi).2; simp; omega⟩
theorem Way.sub {k L L' r s ok Y} (h : Way k L r s ok Y) (hl : ∀ i ∈ L', i ∈ L) : Way k L' r s ok Y := by
 obtain ⟨F, h1, h2⟩ := h
 exact ⟨F, h1, fun i hi => h2 i (hl i hi)⟩
theorem writeO_tri {Y : List O} {r : Nat} {s : Bs} {ok : Bool} {F : List Nat} (h : OutAt r s ok F Y) (b : Bs) (hs : s.length + b.length ≤ 70368744177664) :
  Tri Tryz.prog 132 [.ptr r 0, .str b] Y (fun v Z => ∃ F', OutAt r (s ++ b) ok F' Z ∧ Kept Y Z F ∧ ∀ i ∈ F', i ∈ F ∨ Y.length ≤ i) := by
 obtain ⟨A, bv, g, F', rfl, hA, h1, h2, h3, h4, h5⟩ := h
 refine Tri.of_run' Tryz.func132 rfl c132_ok (by simp [Tryz.ntmps132]) ?_
 (repeat (first | refine Run.adm rfl ?_ | refine Run.seq ?_ | ((first | apply Run.opS rfl | apply Run.condS); (· (simp -implicitDefEqProofs; first | exact ⟨rfl, rfl⟩ | exact rfl)))))
 refine Run.opC rfl rfl rfl (copyO_tri h1 hA (hasTyN_of h2)) ?_
 rintro v H ⟨rfl, hH⟩
 have k1 : H[r]? = some (.row [.ptr r 0, bv, .bool ok]) := by rw [hH]; exact setG h1 _
 have kk : Kept Y H [r] := by rw [hH]; exact (Kept.refl Y _).set _ _ (.inl (by simp))
 have k2 : H[g]? = some (.ty r 232 (some 3)) := kk.get h2 (by simp [Ne.symm h5])
 have hHl : H.length = Y.length := by rw [hH]; simp
 rcases h3 with ⟨rfl, rfl, rfl⟩ | ⟨a, g', rfl, hse, rfl, g1, g2⟩
 ·by_cases hb0 : b = []
  ·(repeat (first | refine Run.adm rfl ?_ | refine Run.seq ?_ | ((first | apply Run.opS rfl | apply Run.condS); (· (simp -implicitDefEqProofs [k1]; first | exact ⟨rfl, rfl⟩ | exact rfl)))))
   refine Run.opAN rfl rfl (by simp) (by simp [hb0]) ?_
   (repeat (first | refine Run.adm rfl ?_ | refine Run.seq ?_ | ((first | apply Run.opS rfl | apply Run.condS); (· (simp -implicitDefEqProofs [k1]; first | exact ⟨rfl, rfl⟩ | exact rfl)))))
   refine Run.retS Tryz.func132 r132_ok trivial (by simp [r132]; rfl) ?_
   exact ⟨[r, g], ⟨_, _, g, [], rfl, .inr rfl, setG k1 _, by rw [setN h5]; exact k2, .inl ⟨rfl, by simp [hb0], rfl⟩, by simp, h5⟩, (kk.mono (by simp)).set _ _ (.inl (by simp)), fun i hi => .inl hi⟩
  have hb : b.length ≤ 70368744177664 := by simpa using hs
  have hlt := lt_of_get k1
  have kr : ∀ x y : O, (H ++ [x, y])[r]? = some (.row [.ptr r 0, .nils, .bool ok]) := fun x y => getA k1 _
  (repeat (first | refine Run.adm rfl ?_ | refine Run.seq ?_ | ((first | apply Run.opS rfl | apply Run.condS); (· (simp -implicitDefEqProofs [k1, hb, byteEls_len, kr]; first | exact ⟨rfl, rfl⟩ | exact rfl)))))
  refine Run.retS Tryz.func132 r132_ok trivial (by simp [r132]; rfl) ?_
  refine ⟨[r, g, H.length, H.length + 1], ⟨_, _, g, [H.length, H.length + 1], rfl, .inr rfl, setG (getA k1 _) _, ?_, .inr ⟨H.length, H.length + 1, rfl, by simpa using hb0, ?_, ?_, ?_⟩, ?_, h5⟩, ?_, ?_⟩
  ·rw [setN h5]; exact getA k2 _
  ·simp
  ·rw [setN (by omega)]; simp
  ·rw [setN (by omega)]; simp
  ·simp; omega
  ·exact ((kk.mono (by simp)).app _).set _ _ (.inl (by simp))
  ·intro i hi
   simp at hi ⊢; omega
 ·have hra : r ≠ a := fun e => h4 (by simp [e])
  have k3 : H[a]? = some (.arr (byteEls s) 1) := kk.get g1 (by simp [Ne.symm hra])
  have hrg : r ≠ g' := fun e => h4 (by simp [e])
  have k4 : H[g']? = some (.ty a 5 none) := kk.get g2 (by simp [Ne.symm hrg])
  have hlt := lt_of_get k1
  have kr : ∀ x y : O, (H.set a .gone ++ [x, y])[r]? = some (.row [.ptr r 0, .sl a 0 s.length 1 none, .bool ok]) := fun x y => getA (by rw [setN (Ne.symm hra)]; exact k1) _
  (repeat (first | refine Run.adm rfl ?_ | refine Run.seq ?_ | ((first | apply Run.opS rfl | apply Run.condS); (· (simp -implicitDefEqProofs [k1, k3, hasTy_of k4, -hasTy, hs, byteEls_len, kr]; first | exact ⟨rfl, rfl⟩ | exact rfl)))))
  refine Run.retS Tryz.func132 r132_ok trivial (by simp [r132]; rfl) ?_
  refine ⟨[r, g, H.length, H.length + 1], ⟨_, _, g, [H.length, H.length + 1], rfl, .inr rfl, setG (getA (by rw [setN (Ne.symm hra)]; exact k1) _) _, ?_, .inr ⟨H.length, H.length + 1, rfl, by simp [hse], ?_, ?_, ?_⟩, ?_, h5⟩, ?_, ?_⟩
  ·rw [setN h5]
   have hag : a ≠ g := fun e => by subst e; rw [k2] at k3; cases k3
   exact getA (by rw [setN hag]; exact k2) _
  ·simp
  ·rw [setN (by omega)]; simp [byteEls_app]
  ·rw [setN (by omega)]; simp
  ·simp; omega
  ·exact (((kk.mono (by simp)).set _ _ (.inl (by simp))).app _).set _ _ (.inl (by simp))
  ·intro i hi
   simp at hi ⊢; omega
theorem stringO_tri {Y : List O} {r : Nat} {s : Bs} {ok : Bool} {F : List Nat} (h : OutAt r s ok F Y) (hl : s.length ≤ 70368744177664) :
  Tri Tryz.prog 133 [.ptr r 0] Y (fun v Z => v = .str s ∧ Z[r]? = Y[r]?) := by
 obtain ⟨A, bv, g, F', rfl, hA, h1, h2, h3, h4, h5⟩ := h
 rcases h3 with ⟨rfl, rfl, rfl⟩ | ⟨a, g', rfl, hs, rfl, g1, g2⟩
 ·refine Tri.of_run' Tryz.func133 rfl c133_ok (by simp [Tryz.ntmps133]) ?_
  (repeat (first | refine Run.adm rfl ?_ | refine Run.seq ?_ | ((first | apply Run.opS rfl | apply Run.condS); (· (simp -implicitDefEqProofs; first | exact ⟨rfl, rfl⟩ | exact rfl)))))
  refine Run.qchain prog_mixed 10 (by kernel_rfl) ?_
  (repeat (first | refine execQ_E rfl ?_ | (apply execQ_S rfl; (· (simp -implicitDefEqProofs [h1]; exact ⟨rfl, rfl⟩)))))
  (repeat (first | refine SeqR.E rfl ?_ | (apply SeqR.o0 rfl; (· (simp -implicitDefEqProofs [h1]; exact ⟨rfl, rfl⟩))) | (apply SeqR.A rfl; (· (simp -implicitDefEqProofs [h1]; done)); (· (simp -implicitDefEqProofs [h1]; exact ⟨rfl, rfl⟩))) | (apply SeqR.N rfl; (· (simp -implicitDefEqProofs [h1]; done)))))
  (repeat (first | refine Run.adm rfl ?_ | refine Run.seq ?_ | ((first | apply Run.opS rfl | apply Run.condS); (· (simp -implicitDefEqProofs; first | exact ⟨rfl, rfl⟩ | exact rfl)))))
  refine Run.retS Tryz.func133 r133_ok trivial (by simp [r133]; rfl) ?_
  exact ⟨by simp, rfl⟩
 have hpos : 0 < s.length := List.length_pos_iff.2 hs
 have hpos' : 0 < (s.length : Int) := by omega
 have h63 : (s.length : Int) ≤ 9223372036854775807 := by omega
 have htk : (byteEls s).take s.length = byteEls s := by rw [List.take_of_length_le]; simp [byteEls]
 refine Tri.of_run' Tryz.func133 rfl c133_ok (by simp [Tryz.ntmps133]) ?_
 (repeat (first | refine Run.adm rfl ?_ | refine Run.seq ?_ | ((first | apply Run.opS rfl | apply Run.condS); (· (simp -implicitDefEqProofs; first | exact ⟨rfl, rfl⟩ | exact rfl)))))
 refine Run.qchain prog_mixed 10 (by kernel_rfl) ?_
 (repeat (first | refine execQ_E rfl ?_ | (apply execQ_S rfl; (· (simp -implicitDefEqProofs [h1, hpos]; exact ⟨rfl, rfl⟩)))))
 (repeat (first | refine SeqR.E rfl ?_ | (apply SeqR.o0 rfl; (· (simp -implicitDefEqProofs [h1, g1, hasTy_of g2, -hasTy, hpos, hpos', h63, byteEls_len, htk, bytesOf_byteEls, byteOk_byteEls]; exact ⟨rfl, rfl⟩))) | (apply SeqR.A rfl; (· (simp -implicitDefEqProofs [h1, g1, hasTy_of g2, -hasTy, hpos, hpos', h63, byteEls_len, htk, bytesOf_byteEls, byteOk_byteEls]; done)); (· (simp -implicitDefEqProofs [h1, g1, hasTy_of g2, -hasTy, hpos, hpos', h63, byteEls_len, htk, bytesOf_byteEls, byteOk_byteEls]; exact ⟨rfl, rfl⟩))) | (apply SeqR.N rfl; (· (simp -implicitDefEqProofs [h1, g1, hasTy_of g2, -hasTy, hpos, hpos', h63, byteEls_len, htk, bytesOf_byteEls, byteOk_byteEls]; done)))))
 (repeat (first | refine Run.adm rfl ?_ | refine Run.seq ?_ | ((first | apply Run.opS rfl | apply Run.condS); (· (simp -implicitDefEqProofs; first | exact ⟨rfl, rfl⟩ | exact rfl)))))
 refine Run.retS Tryz.func133 r133_ok trivial (by simp [r133]; rfl) ?_
 exact ⟨by simp, by rw [setN fun e => h4 (by simp [e])]⟩
attribute [local simp ↓] upd_app tl_cons tl_nil
theorem set_at {cs : List V} {off : Nat} {x : V} (h : cs[off]? = some x) (v : V) : cs.take off ++ v :: cs.drop (off + 1) = cs.set off v := (List.set_eq_take_append_cons_drop (l := cs) (i := off) (a := v)).trans (by rw [if_pos (List.getElem?_eq_some_iff.1 h).1]) |>.symm
theorem lset_same {α : Type} {l : List α} {i : Nat} {a : α} (h : l[i]? = some a) : l.set i a = l := by
 obtain ⟨h1, rfl⟩ := List.getElem?_eq_some_iff.1 h; simp
theorem stext_all (s : Bs) (H : List O) : Tri Tryz.prog 166 [.str s] H (fun v H' => v = .tup [.str (textM s).1, .int .i64 (textM s).2] ∧ H' = H) := by
 by_cases h : s.length ≤ 4000000000
 ·exact stext_at s h H
 ·refine Tri.at (v0 := .tup [.str (textM s).1, .int .i64 (textM s).2]) ?_ rfl rfl H
  refine Tri.of_run' Tryz.func166 rfl c166_ok (by simp [Tryz.ntmps166]) ?_
  have h1 : 262144 < s.length := by omega
  have h' : (262144 : Int) < s.length := by omega
  (repeat (first | refine Run.adm rfl ?_ | refine Run.seq ?_ | ((first | apply Run.opS rfl | apply Run.condS); (· (simp -implicitDefEqProofs [h1, h']; first | exact ⟨rfl, rfl⟩ | exact rfl)))))
  refine Run.retI Tryz.func166 r166_ok trivial (by simp -implicitDefEqProofs [r166]; rfl) (by simp ) ?_ (by simp -implicitDefEqProofs ) (by simp -implicitDefEqProofs )
  simp [textM, h1]
def nB (n : Int) : Bs := (vputM n).1
def nOk (n : Int) : Bool := decide ((vputM n).2 = 0) && decide (n ≤ 1099511627775)
def xB (s : Bs) : Bs := (textM s).1
def xOk (s : Bs) : Bool := decide ((textM s).2 = 0) && decide (s.length ≤ 256)
def bI (b : Bool) : Int := if b then 1 else 0
theorem nB_len (n : Int) : (nB n).length ≤ 9 := vputM_len n
theorem nOk_spec {n : Int} (h : nOk n = true) : 0 ≤ n ∧ n ≤ 1099511627775 := by
 simp only [nOk, vputM, Bool.and_eq_true, decide_eq_true_eq] at h
 obtain ⟨h1, h2⟩ := h
 split at h1
 ·rename_i h; exact ⟨h.1, h2⟩
 ·cases h1
theorem nOk_of {n : Int} (h : 0 ≤ n ∧ n ≤ 1099511627775) : nOk n = true := by
 have : vputM n = (vput n.toNat, 0) := if_pos (by omega)
 simp [nOk, this, h.2]
theorem nOk_b (b : Bool) : nOk (bI b) = true := nOk_of (by unfold bI; split <;> omega)
theorem vtake_n {n : Int} (h : nOk n = true) (t : Bs) : vtake (nB n ++ t) = (n.toNat, (nB n).length, 0) := by
 obtain ⟨h1, h2⟩ := nOk_spec h
 have : nB n = vput n.toNat := by simp only [nB, vputM]; rw [if_pos (by omega)]
 rw [this]
 exact vtake_put (by omega) t
theorem xOk_spec {s : Bs} (h : xOk s = true) : s.length ≤ 256 := by simp only [xOk, Bool.and_eq_true, decide_eq_true_eq] at h; exact h.2
theorem xOk_of {s : Bs} (h : s.length ≤ 256) : xOk s = true := by
 have : textM s = ((vputM s.length).1 ++ s, 0) := if_neg (by omega)
 simp [xOk, this, h]
theorem xB_of {s : Bs} (h : s.length ≤ 256) : xB s = nB s.length ++ s := by simp only [xB, textM, nB]; rw [if_neg (by omega)]
theorem xB_len (s : Bs) : (xB s).length ≤ 262153 := by
 have := vputM_len s.length
 simp only [xB, textM]
 split
 ·simp
 ·simp only [List.length_append]; omega
theorem tkText_x {s : Bs} (h : xOk s = true) (t : Bs) : tkText (xB s ++ t) = (s, (xB s).length, 0) := by
 have hl := xOk_spec h
 have hv : vtake (xB s ++ t) = (s.length, (nB s.length).length, 0) := by
  rw [xB_of hl, List.append_assoc, vtake_n (nOk_of (by omega))]; simp
 unfold tkText
 rw [hv]
 simp only [ne_eq, not_true_eq_false, if_false]
 rw [if_neg (by omega), if_neg (by rw [xB_of hl]; simp), xB_of hl, List.append_assoc, List.take_append, List.take_of_length_le (by omega), List.drop_left]
 simp
theorem dropB (b t : Bs) : (b ++ t).drop b.length = t := by simp
abbrev io (k : Bool) (a t : Bs) : Bs := if k = true then a else t
def WNum : Bool → Nat | true => 255 | false => 253
def WTxt : Bool → Nat | true => 256 | false => 254
def StayX (L : List Nat) (m : Nat) (Y Z : List O) : Prop := ∀ i ∈ L, i ≠ m → Z[i]? = Y[i]?
theorem output {r g : Nat} {A bv : V} {s : Bs} {ok q : Bool} {F' : List Nat} {Y : List O} (hA : A = .nilp ∨ A = .ptr r 0) (g1 : Y[r]? = some (.row [A, bv, .bool ok])) (g2 : Y[g]? = some (.ty r 232 (some 3))) (g3 : BufAt Y bv s F') (g4 : r ∉ F') (g5 : r ≠ g) :
  OutAt r s q (r :: g :: F') (Y.set r (.row [A, bv, .bool q])) := by
 refine ⟨A, bv, g, F', rfl, hA, setG g1 _, by rw [setN g5]; exact g2, ?_, g4, g5⟩
 rcases g3 with g3 | ⟨a, g', rfl, e0, e, k1, k2⟩
 ·exact .inl g3
 ·exact .inr ⟨a, g', rfl, e0, e, by rw [setN fun e => g4 (by simp [e])]; exact k1, by rw [setN fun e => g4 (by simp [e])]; exact k2⟩
theorem outpost {L : List Nat} {r g : Nat} {o : O} {s b : Bs} {q : Bool} {F' : List Nat} {Y Z : List O} (hL : ∀ i ∈ L, i ∉ r :: g :: F' ∧ i < Y.length)
  (hz : ∃ F2, OutAt r (s ++ b) q F2 Z ∧ Kept (Y.set r o) Z (r :: g :: F') ∧ ∀ i ∈ F2, i ∈ r :: g :: F' ∨ (Y.set r o).length ≤ i) : Way true L r (s ++ b) q Z ∧ StayL L Y Z := by
 obtain ⟨F2, z1, z2, z3⟩ := hz
 rw [List.length_set] at z3
 refine ⟨⟨F2, by simpa using z1, fun i hi => ⟨fun hm => ?_, ?_⟩⟩, fun i hi => ?_⟩
 ·rcases z3 i hm with h | h
  ·exact (hL i hi).1 h
  ·have := (hL i hi).2; omega
 ·have := (hL i hi).2; have := z2.1; rw [List.length_set] at this; omega
 ·rw [z2.2 i (by have := (hL i hi).2; simpa using this) (hL i hi).1, setN fun e => (hL i hi).1 (by simp [← e])]
theorem onum_tri {L r s ok m off n} {Y : List O} {cs : List V} (h : Way true L r s ok Y) (hm : m ∈ L) (hY : Y[m]? = some (.row cs)) (hc : cs[off]? = some (.int .i64 n)) (hl : s.length + 9 ≤ 70368744177664) :
  Tri Tryz.prog 255 [.ptr r 0, .ptr m off] Y (fun v Z => v = .tup [] ∧ Way true L r (s ++ nB n) (ok && nOk n) Z ∧ StayL L Y Z) := by
 obtain ⟨F, h1, hL⟩ := h
 simp only [if_true] at h1
 obtain ⟨A, bv, g, F', rfl, hA, g1, g2, g3, g4, g5⟩ := h1
 have hln := nB_len n
 have hX := fun q => output (q := q) hA g1 g2 g3 g4 g5
 have hb : s.length + (nB n).length ≤ 70368744177664 := by omega
 refine Tri.of_run' Tryz.func255 rfl c255_ok (by simp [Tryz.ntmps255]) ?_
 (repeat (first | refine Run.adm rfl ?_ | refine Run.seq ?_ | ((first | apply Run.opS rfl | apply Run.condS); (· (simp -implicitDefEqProofs [hY, hc]; first | exact ⟨rfl, rfl⟩ | exact rfl)))))
 refine Run.opC rfl rfl rfl (vput_at n _) ?_
 rintro v H ⟨rfl, e⟩
 replace e := e.symm
 subst e
 have hnb : (vputM n).1 = nB n := rfl
 cases ok with
 | false =>
  (repeat (first | refine Run.adm rfl ?_ | refine Run.seq ?_ | ((first | apply Run.opS rfl | apply Run.condS); (· (simp -implicitDefEqProofs [g1, hY, hc]; first | exact ⟨rfl, rfl⟩ | exact rfl)))))
  refine Run.opC rfl rfl rfl (writeO_tri (hX _) (nB n) hb) ?_
  intro v Z hz
  (repeat (first | refine Run.adm rfl ?_ | refine Run.seq ?_ | ((first | apply Run.opS rfl | apply Run.condS); (· (simp -implicitDefEqProofs; first | exact ⟨rfl, rfl⟩ | exact rfl)))))
  refine Run.retS Tryz.func255 r255_ok trivial (by simp [r255]; rfl) ?_
  exact ⟨rfl, outpost hL hz⟩
 | true =>
  by_cases he : (vputM n).2 = 0
  rotate_left
  ·(repeat (first | refine Run.adm rfl ?_ | refine Run.seq ?_ | ((first | apply Run.opS rfl | apply Run.condS); (· (simp -implicitDefEqProofs [g1, hY, hc, he]; first | exact ⟨rfl, rfl⟩ | exact rfl))))); refine Run.opC rfl rfl rfl (writeO_tri (hX _) (nB n) hb) ?_; intro v Z hz; (repeat (first | refine Run.adm rfl ?_ | refine Run.seq ?_ | ((first | apply Run.opS rfl | apply Run.condS); (· (simp -implicitDefEqProofs; first | exact ⟨rfl, rfl⟩ | exact rfl))))); refine Run.retS Tryz.func255 r255_ok trivial (by simp [r255]; rfl) ?_; refine ⟨rfl, ?_⟩; exact outpost hL (by simpa [nOk, he] using hz)
  by_cases hn : n ≤ 1099511627775
  rotate_left
  ·(repeat (first | refine Run.adm rfl ?_ | refine Run.seq ?_ | ((first | apply Run.opS rfl | apply Run.condS); (· (simp -implicitDefEqProofs [g1, hY, hc, he, hn]; first | exact ⟨rfl, rfl⟩ | exact rfl))))); refine Run.opC rfl rfl rfl (writeO_tri (hX _) (nB n) hb) ?_; intro v Z hz; (repeat (first | refine Run.adm rfl ?_ | refine Run.seq ?_ | ((first | apply Run.opS rfl | apply Run.condS); (· (simp -implicitDefEqProofs; first | exact ⟨rfl, rfl⟩ | exact rfl))))); refine Run.retS Tryz.func255 r255_ok trivial (by simp [r255]; rfl) ?_; refine ⟨rfl, ?_⟩; exact outpost hL (by simpa [nOk, he, hn] using hz)
  (repeat (first | refine Run.adm rfl ?_ | refine Run.seq ?_ | ((first | apply Run.opS rfl | apply Run.condS); (· (simp -implicitDefEqProofs [g1, hY, hc, he, hn]; first | exact ⟨rfl, rfl⟩ | exact rfl))))); refine Run.opC rfl rfl rfl (writeO_tri (hX _) (nB n) hb) ?_; intro v Z hz; (repeat (first | refine Run.adm rfl ?_ | refine Run.seq ?_ | ((first | apply Run.opS rfl | apply Run.condS); (· (simp -implicitDefEqProofs; first | exact ⟨rfl, rfl⟩ | exact rfl))))); refine Run.retS Tryz.func255 r255_ok trivial (by simp [r255]; rfl) ?_; refine ⟨rfl, ?_⟩; exact outpost hL (by simpa [nOk, he, hn] using hz)
theorem otext_tri {L r s ok m off x} {Y : List O} {cs : List V} (h : Way true L r s ok Y) (hm : m ∈ L) (hY : Y[m]? = some (.row cs)) (hc : cs[off]? = some (.str x)) (hl : s.length + 262153 ≤ 70368744177664) :
  Tri Tryz.prog 256 [.ptr r 0, .ptr m off] Y (fun v Z => v = .tup [] ∧ Way true L r (s ++ xB x) (ok && xOk x) Z ∧ StayL L Y Z) := by
 obtain ⟨F, h1, hL⟩ := h
 simp only [if_true] at h1
 obtain ⟨A, bv, g, F', rfl, hA, g1, g2, g3, g4, g5⟩ := h1
 have hln := xB_len x
 have hX := fun q => output (q := q) hA g1 g2 g3 g4 g5
 have hb : s.length + (xB x).length ≤ 70368744177664 := by omega
 refine Tri.of_run' Tryz.func256 rfl c256_ok (by simp [Tryz.ntmps256]) ?_
 (repeat (first | refine Run.adm rfl ?_ | refine Run.seq ?_ | ((first | apply Run.opS rfl | apply Run.condS); (· (simp -implicitDefEqProofs [hY, hc]; first | exact ⟨rfl, rfl⟩ | exact rfl)))))
 refine Run.opC rfl rfl rfl (stext_all x _) ?_
 rintro v H ⟨rfl, e⟩
 replace e := e.symm
 subst e
 have hnb : (textM x).1 = xB x := rfl
 cases ok with
 | false =>
  (repeat (first | refine Run.adm rfl ?_ | refine Run.seq ?_ | ((first | apply Run.opS rfl | apply Run.condS); (· (simp -implicitDefEqProofs [g1, hY, hc]; first | exact ⟨rfl, rfl⟩ | exact rfl)))))
  refine Run.opC rfl rfl rfl (writeO_tri (hX _) (xB x) hb) ?_
  intro v Z hz
  (repeat (first | refine Run.adm rfl ?_ | refine Run.seq ?_ | ((first | apply Run.opS rfl | apply Run.condS); (· (simp -implicitDefEqProofs; first | exact ⟨rfl, rfl⟩ | exact rfl)))))
  refine Run.retS Tryz.func256 r256_ok trivial (by simp [r256]; rfl) ?_
  exact ⟨rfl, outpost hL hz⟩
 | true =>
  by_cases hn0 : x.length ≤ 256
  ·have hn : (x.length : Int) ≤ 256 := by omega
   have he : (textM x).2 = 0 := by have := xOk_of hn0; simp only [xOk, Bool.and_eq_true, decide_eq_true_eq] at this; exact this.1
   (repeat (first | refine Run.adm rfl ?_ | refine Run.seq ?_ | ((first | apply Run.opS rfl | apply Run.condS); (· (simp -implicitDefEqProofs [g1, hY, hc, he, hn]; first | exact ⟨rfl, rfl⟩ | exact rfl)))))
   refine Run.opC rfl rfl rfl (writeO_tri (hX _) (xB x) hb) ?_
   intro v Z hz
   (repeat (first | refine Run.adm rfl ?_ | refine Run.seq ?_ | ((first | apply Run.opS rfl | apply Run.condS); (· (simp -implicitDefEqProofs; first | exact ⟨rfl, rfl⟩ | exact rfl)))))
   refine Run.retS Tryz.func256 r256_ok trivial (by simp [r256]; rfl) ?_
   rw [xOk_of hn0]
   exact ⟨rfl, outpost hL hz⟩
  ·have hn : ¬ (x.length : Int) ≤ 256 := by omega
   have hx : xOk x = false := by simp [xOk, hn0]
   by_cases he : (textM x).2 = 0
   ·(repeat (first | refine Run.adm rfl ?_ | refine Run.seq ?_ | ((first | apply Run.opS rfl | apply Run.condS); (· (simp -implicitDefEqProofs [g1, hY, hc, he, hn]; first | exact ⟨rfl, rfl⟩ | exact rfl)))))
    refine Run.opC rfl rfl rfl (writeO_tri (hX _) (xB x) hb) ?_
    intro v Z hz
    (repeat (first | refine Run.adm rfl ?_ | refine Run.seq ?_ | ((first | apply Run.opS rfl | apply Run.condS); (· (simp -implicitDefEqProofs; first | exact ⟨rfl, rfl⟩ | exact rfl)))))
    refine Run.retS Tryz.func256 r256_ok trivial (by simp [r256]; rfl) ?_
    rw [hx]
    exact ⟨rfl, outpost hL hz⟩
   ·(repeat (first | refine Run.adm rfl ?_ | refine Run.seq ?_ | ((first | apply Run.opS rfl | apply Run.condS); (· (simp -implicitDefEqProofs [g1, hY, hc, he, hn]; first | exact ⟨rfl, rfl⟩ | exact rfl)))))
    refine Run.opC rfl rfl rfl (writeO_tri (hX _) (xB x) hb) ?_
    intro v Z hz
    (repeat (first | refine Run.adm rfl ?_ | refine Run.seq ?_ | ((first | apply Run.opS rfl | apply Run.condS); (· (simp -implicitDefEqProofs; first | exact ⟨rfl, rfl⟩ | exact rfl)))))
    refine Run.retS Tryz.func256 r256_ok trivial (by simp [r256]; rfl) ?_
    rw [hx]
    exact ⟨rfl, outpost hL hz⟩
theorem inum_tri {L r t m off n z ok q} {Y : List O} {cs : List V} (h : Way false L r (nB n ++ t) ok Y) (hm : m ∈ L) (hY : Y[m]? = some (.row cs)) (hc : cs[off]? = some (.int .i64 z)) (hn : nOk n = true) (hl : (nB n ++ t).length ≤ 70368744177664) :
  Tri Tryz.prog 253 [.ptr r 0, .ptr m off] Y (fun v Z => v = .tup [] ∧ Way false L r t q Z ∧ Z[m]? = some (.row (cs.set off (.int .i64 n))) ∧ StayX L m Y Z) := by
 obtain ⟨F, h1, hL⟩ := h
 simp only [if_neg Bool.false_ne_true] at h1
 obtain ⟨rfl, g1⟩ := h1
 have hmr : m ≠ r := fun e => (hL m hm).1 (by simp [e])
 have hv := vtake_n hn t
 obtain ⟨n1, n2⟩ := nOk_spec hn
 have hn1 : ((n.toNat : Nat) : Int) = n := by omega
 have hd : (nB n ++ t).drop (nB n).length = t := dropB _ _
 have hdr : (nB n).length ≤ (nB n ++ t).length := by simp
 generalize nB n ++ t = s at *
 have hdI : ((nB n).length : Int) ≤ s.length := by omega
 have hlo : off + 1 ≤ cs.length := (List.getElem?_eq_some_iff.1 hc).1
 refine Tri.of_run' Tryz.func253 rfl c253_ok (by simp [Tryz.ntmps253]) ?_
 (repeat (first | refine Run.adm rfl ?_ | refine Run.seq ?_ | ((first | apply Run.opS rfl | apply Run.condS); (· (simp -implicitDefEqProofs [g1]; first | exact ⟨rfl, rfl⟩ | exact rfl)))))
 refine Run.opC rfl rfl rfl (vtake_at _ hl _) ?_
 rintro v H ⟨rfl, e⟩
 replace e := e.symm
 subst e
 unfold vtakeV
 rw [hv]
 have k1 : (Y.set r (O.row [V.str s, V.bool true]))[m]? = some (.row cs) := by rw [setN (Ne.symm hmr)]; exact hY
 have k2 : (Y.set r (O.row [V.str s, V.bool true]))[r]? = some (.row [V.str s, V.bool true]) := setG g1 _
 have k3 : ∀ o, ((Y.set r (O.row [V.str s, V.bool true])).set m o)[r]? = some (.row [V.str s, V.bool true]) := fun o => by rw [setN hmr]; exact k2
 (repeat (first | refine Run.adm rfl ?_ | refine Run.seq ?_ | ((first | apply Run.opS rfl | apply Run.condS); (· (simp -implicitDefEqProofs [g1, hn1, n2]; first | exact ⟨rfl, rfl⟩ | exact rfl)))))
 refine Run.drawn prog_mixed ?_
 show RunD _ c253d0 [0, 1, 2, 3, 4, 5, 6, 7, 8, 9, 10, 11, 12, 13] [] _ _ _
 refine RunD.flow [0, 1, 2, 3, 4, 5, 6, 7, 8, 9] (by kernel_rfl) (by decide +kernel) (by decide +kernel) (by decide) trivial ?_; (repeat (first | refine execQ_E rfl ?_ | (apply execQ_S rfl; (· (simp -implicitDefEqProofs [k1, k2, hdr, hdI, hd]; exact ⟨rfl, rfl⟩))))); intro hpo
 refine RunD.alt1 10 (by kernel_rfl) (by kernel_rfl) hpo ?_
 (apply AStep.S rfl; (· (simp -implicitDefEqProofs [k1, hlo]; exact ⟨rfl, rfl⟩)))
 refine RunD.flow [11, 12] (by kernel_rfl) (by decide +kernel) (by decide +kernel) (by decide) (by
  show PendOk _ c253d0 _ _ [8, 7, 1]
  (repeat (first | exact PendOk.nil | (refine PendOk.S rfl rfl ?_ ?_; (· (simp -implicitDefEqProofs [k1, k2, k3, hdr, hdI, hd]; done)))))) ?_; (repeat (first | refine execQ_E rfl ?_ | (apply execQ_S rfl; (· (simp -implicitDefEqProofs; exact ⟨rfl, rfl⟩))))); intro hpo
 refine RunD.alt1 13 (by kernel_rfl) (by kernel_rfl) hpo ?_
 (apply AStep.S rfl; (· (simp -implicitDefEqProofs [k3, set_at hc]; exact ⟨rfl, rfl⟩)))
 refine RunD.fin (by kernel_rfl) (show PendOk _ c253d0 _ _ [] from trivial) ?_
 (repeat (first | refine Run.adm rfl ?_ | refine Run.seq ?_ | ((first | apply Run.opS rfl | apply Run.condS); (· (simp -implicitDefEqProofs; first | exact ⟨rfl, rfl⟩ | exact rfl)))))
 refine Run.retS Tryz.func253 r253_ok trivial (by simp [r253]; rfl) ?_
 have hne : ∀ i ∈ L, i ≠ r := fun i hi e => (hL i hi).1 (by simp [e])
 refine ⟨rfl, ⟨[r], ?_, fun i hi => ⟨(hL i hi).1, by have := (hL i hi).2; simpa using this⟩⟩, ?_, fun i hi hn => ?_⟩
 ·simp only [if_neg Bool.false_ne_true]
  exact ⟨rfl, setG (k3 _) _⟩
 ·rw [setN (Ne.symm hmr)]; exact setG k1 _
 ·rw [setN (Ne.symm (hne i hi)), setN (Ne.symm hn), setN (Ne.symm (hne i hi))]
theorem itext_tri {L r t m off x z ok q} {Y : List O} {cs : List V} (h : Way false L r (xB x ++ t) ok Y) (hm : m ∈ L) (hY : Y[m]? = some (.row cs)) (hc : cs[off]? = some (.str z)) (hn : xOk x = true) (hl : (xB x ++ t).length ≤ 70368744177664) :
  Tri Tryz.prog 254 [.ptr r 0, .ptr m off] Y (fun v Z => v = .tup [] ∧ Way false L r t q Z ∧ Z[m]? = some (.row (cs.set off (.str x))) ∧ StayX L m Y Z) := by
 obtain ⟨F, h1, hL⟩ := h
 simp only [if_neg Bool.false_ne_true] at h1
 obtain ⟨rfl, g1⟩ := h1
 have hmr : m ≠ r := fun e => (hL m hm).1 (by simp [e])
 have hv := tkText_x hn t
 have n2 : (x.length : Int) ≤ 256 := by have := xOk_spec hn; omega
 have hd : (xB x ++ t).drop (xB x).length = t := dropB _ _
 have hdr : (xB x).length ≤ (xB x ++ t).length := by simp
 generalize xB x ++ t = s at *
 have hdI : ((xB x).length : Int) ≤ s.length := by omega
 have hlo : off + 1 ≤ cs.length := (List.getElem?_eq_some_iff.1 hc).1
 refine Tri.of_run' Tryz.func254 rfl c254_ok (by simp [Tryz.ntmps254]) ?_
 (repeat (first | refine Run.adm rfl ?_ | refine Run.seq ?_ | ((first | apply Run.opS rfl | apply Run.condS); (· (simp -implicitDefEqProofs [g1]; first | exact ⟨rfl, rfl⟩ | exact rfl)))))
 refine Run.opC rfl rfl rfl (ttext_at _ hl _) ?_
 rintro v H ⟨rfl, e⟩
 replace e := e.symm
 subst e
 unfold tkTextV
 rw [hv]
 have k1 : (Y.set r (O.row [V.str s, V.bool true]))[m]? = some (.row cs) := by rw [setN (Ne.symm hmr)]; exact hY
 have k2 : (Y.set r (O.row [V.str s, V.bool true]))[r]? = some (.row [V.str s, V.bool true]) := setG g1 _
 have k3 : ∀ o, ((Y.set r (O.row [V.str s, V.bool true])).set m o)[r]? = some (.row [V.str s, V.bool true]) := fun o => by rw [setN hmr]; exact k2
 (repeat (first | refine Run.adm rfl ?_ | refine Run.seq ?_ | ((first | apply Run.opS rfl | apply Run.condS); (· (simp -implicitDefEqProofs [g1, n2]; first | exact ⟨rfl, rfl⟩ | exact rfl)))))
 refine Run.drawn prog_mixed ?_
 show RunD _ c254d0 [0, 1, 2, 3, 4, 5, 6, 7, 8, 9, 10, 11, 12, 13] [] _ _ _
 refine RunD.flow [0, 1, 2, 3, 4, 5, 6, 7, 8, 9] (by kernel_rfl) (by decide +kernel) (by decide +kernel) (by decide) trivial ?_; (repeat (first | refine execQ_E rfl ?_ | (apply execQ_S rfl; (· (simp -implicitDefEqProofs [k1, k2, hdr, hdI, hd]; exact ⟨rfl, rfl⟩))))); intro hpo
 refine RunD.alt1 10 (by kernel_rfl) (by kernel_rfl) hpo ?_
 (apply AStep.S rfl; (· (simp -implicitDefEqProofs [k1, hlo]; exact ⟨rfl, rfl⟩)))
 refine RunD.flow [11, 12] (by kernel_rfl) (by decide +kernel) (by decide +kernel) (by decide) (by
  show PendOk _ c254d0 _ _ [8, 7, 1]
  (repeat (first | exact PendOk.nil | (refine PendOk.S rfl rfl ?_ ?_; (· (simp -implicitDefEqProofs [k1, k2, k3, hdr, hdI, hd]; done)))))) ?_; (repeat (first | refine execQ_E rfl ?_ | (apply execQ_S rfl; (· (simp -implicitDefEqProofs; exact ⟨rfl, rfl⟩))))); intro hpo
 refine RunD.alt1 13 (by kernel_rfl) (by kernel_rfl) hpo ?_
 (apply AStep.S rfl; (· (simp -implicitDefEqProofs [k3, set_at hc]; exact ⟨rfl, rfl⟩)))
 refine RunD.fin (by kernel_rfl) (show PendOk _ c254d0 _ _ [] from trivial) ?_
 (repeat (first | refine Run.adm rfl ?_ | refine Run.seq ?_ | ((first | apply Run.opS rfl | apply Run.condS); (· (simp -implicitDefEqProofs; first | exact ⟨rfl, rfl⟩ | exact rfl)))))
 refine Run.retS Tryz.func254 r254_ok trivial (by simp [r254]; rfl) ?_
 have hne : ∀ i ∈ L, i ≠ r := fun i hi e => (hL i hi).1 (by simp [e])
 refine ⟨rfl, ⟨[r], ?_, fun i hi => ⟨(hL i hi).1, by have := (hL i hi).2; simpa using this⟩⟩, ?_, fun i hi hn => ?_⟩
 ·simp only [if_neg Bool.false_ne_true]
  exact ⟨rfl, setG (k3 _) _⟩
 ·rw [setN (Ne.symm hmr)]; exact setG k1 _
 ·rw [setN (Ne.symm (hne i hi)), setN (Ne.symm hn), setN (Ne.symm (hne i hi))]
theorem num_way {k : Bool} {L : List Nat} {r m off : Nat} {a t : Bs} {ok : Bool} {n z : Int} {Y : List O} {cs : List V} (h : Way k L r (io k a (nB n ++ t)) ok Y) (hm : m ∈ L) (hY : Y[m]? = some (.row cs)) (hc : cs[off]? = some (.int .i64 z))
  (ho : k = true → z = n) (hi : k = false → nOk n = true) (hl : a.length + ((nB n).length + t.length) ≤ 70368740000000) :
  Tri Tryz.prog (WNum k) [.ptr r 0, .ptr m off] Y (fun v Z => v = .tup [] ∧ Way k L r (io k (a ++ nB n) t) (ok && nOk n) Z ∧ Z[m]? = some (.row (cs.set off (.int .i64 n))) ∧ StayX L m Y Z) := by
 cases k with
 | true =>
  obtain rfl := ho rfl
  refine (onum_tri h hm hY hc (by simp [io]; omega)).mono fun v Z ⟨e, g1, g2⟩ => ⟨e, g1, ?_, fun i hi _ => g2 i hi⟩
  rw [g2 m hm, hY, lset_same hc]
 | false =>
  have h1 := hi rfl
  refine (inum_tri (q := ok && nOk n) h hm hY hc h1 (by simp [io]; omega)).mono fun v Z ⟨e, g1, g2, g3⟩ => ⟨e, by simpa [io] using g1, g2, g3⟩
theorem txt_way {k : Bool} {L : List Nat} {r m off : Nat} {a t : Bs} {ok : Bool} {x z : Bs} {Y : List O} {cs : List V} (h : Way k L r (io k a (xB x ++ t)) ok Y) (hm : m ∈ L) (hY : Y[m]? = some (.row cs)) (hc : cs[off]? = some (.str z))
  (ho : k = true → z = x) (hi : k = false → xOk x = true) (hl : a.length + ((xB x).length + t.length) ≤ 70368740000000) :
  Tri Tryz.prog (WTxt k) [.ptr r 0, .ptr m off] Y (fun v Z => v = .tup [] ∧ Way k L r (io k (a ++ xB x) t) (ok && xOk x) Z ∧ Z[m]? = some (.row (cs.set off (.str x))) ∧ StayX L m Y Z) := by
 cases k with
 | true =>
  obtain rfl := ho rfl
  refine (otext_tri h hm hY hc (by simp [io]; omega)).mono fun v Z ⟨e, g1, g2⟩ => ⟨e, g1, ?_, fun i hi _ => g2 i hi⟩
  rw [g2 m hm, hY, lset_same hc]
 | false =>
  have h1 := hi rfl
  refine (itext_tri (q := ok && xOk x) h hm hY hc h1 (by simp [io]; omega)).mono fun v Z ⟨e, g1, g2, g3⟩ => ⟨e, by simpa [io] using g1, g2, g3⟩
attribute [local simp ↓] upd_app tl_cons tl_nil
def WTy : Bool → Nat | true => 230 | false => 217
theorem wnum_tbl (k : Bool) : List.lookup (WTy k) [(217, 253), (230, 255)] = some (WNum k) := by cases k <;> rfl
theorem wtxt_tbl (k : Bool) : List.lookup (WTy k) [(217, 254), (230, 256)] = some (WTxt k) := by cases k <;> rfl
theorem wnum_m (k : Bool) : (WTy k, "sorrel/post.number") ∈ mths := by cases k <;> decide
theorem wtxt_m (k : Bool) : (WTy k, "sorrel/post.text") ∈ mths := by cases k <;> decide
structure WS (k : Bool) (L : List Nat) (r m : Nat) (a t : Bs) (ok : Bool) (cs : List V) (Y : List O) : Prop where
 way : Way k L r (io k a t) ok Y
 mem : m ∈ L
 row : Y[m]? = some (.row cs)
 len : a.length + t.length ≤ 70368740000000
section ws
variable {k : Bool} {L : List Nat} {r m off : Nat} {a t : Bs} {ok : Bool} {cs : List V} {Y : List O}
theorem ws_num {n z : Int} (h : WS k L r m a (nB n ++ t) ok cs Y) (hc : cs[off]? = some (.int .i64 z)) (ho : k = true → z = n) (hi : k = false → nOk n = true) :
  Tri Tryz.prog (WNum k) [.ptr r 0, .ptr m off] Y (fun v Z => v = .tup [] ∧ WS k L r m (a ++ nB n) t (ok && nOk n) (cs.set off (.int .i64 n)) Z ∧ StayX L m Y Z) := by
 have hl := h.len
 rw [List.length_append] at hl
 exact (num_way h.way h.mem h.row hc ho hi hl).mono fun v Z ⟨e, g1, g2, g3⟩ => ⟨e, ⟨g1, h.mem, g2, by rw [List.length_append]; omega⟩, g3⟩
theorem ws_txt {x z : Bs} (h : WS k L r m a (xB x ++ t) ok cs Y) (hc : cs[off]? = some (.str z)) (ho : k = true → z = x) (hi : k = false → xOk x = true) :
  Tri Tryz.prog (WTxt k) [.ptr r 0, .ptr m off] Y (fun v Z => v = .tup [] ∧ WS k L r m (a ++ xB x) t (ok && xOk x) (cs.set off (.str x)) Z ∧ StayX L m Y Z) := by
 have hl := h.len
 rw [List.length_append] at hl
 exact (txt_way h.way h.mem h.row hc ho hi hl).mono fun v Z ⟨e, g1, g2, g3⟩ => ⟨e, ⟨g1, h.mem, g2, by rw [List.length_append]; omega⟩, g3⟩
theorem WS.lt (h : WS k L r m a t ok cs Y) : ∀ i ∈ L, i < Y.length := fun i hi => by
 obtain ⟨F, -, h2⟩ := h.way
 exact (h2 i hi).2
theorem WS.put (h : WS k L r m a t ok cs Y) (cs' : List V) : WS k L r m a t ok cs' (Y.set m (.row cs')) := ⟨h.way.put h.mem _, h.mem, setG h.row _, h.len⟩
theorem flag_tri {b z : Bool} (h : WS k L r m a (nB (bI b) ++ t) ok cs Y) (hc : cs[off]? = some (.bool z)) (ho : k = true → z = b) :
  Tri Tryz.prog 171 [.ifc (WTy k) r, .ptr m off] Y (fun v Z => v = .bool true ∧ WS k L r m (a ++ nB (bI b)) t ok (cs.set off (.bool b)) Z ∧ StayX L m Y Z) := by
 have hw := h.way.more (.row [.int .i64 (bI z)])
 have hlt := h.lt m h.mem
 have h1 : WS k (Y.length :: L) r Y.length a (nB (bI b) ++ t) ok [.int .i64 (bI z)] (Y ++ [.row [.int .i64 (bI z)]]) := ⟨hw, by simp, by simp, h.len⟩
 have hY := h.row
 have hYm : ∀ o, (Y ++ [o])[m]? = some (.row cs) := fun o => getA hY _
 have hlo : off + 1 ≤ cs.length := (List.getElem?_eq_some_iff.1 hc).1
 have htri := ws_num (off := 0) h1 rfl (fun e => by rw [ho e]) (fun _ => nOk_b b)
 have fin : ∀ Z, WS k (Y.length :: L) r Y.length (a ++ nB (bI b)) t (ok && nOk (bI b)) ([V.int .i64 (bI z)].set 0 (.int .i64 (bI b))) Z → StayX (Y.length :: L) Y.length (Y ++ [.row [.int .i64 (bI z)]]) Z → Z[Y.length]? = some (.row [.int .i64 (bI b)]) ∧ Z[m]? = some (.row cs) ∧
   WS k L r m (a ++ nB (bI b)) t ok (cs.set off (.bool b)) (Z.set m (.row (cs.set off (.bool b)))) ∧ StayX L m Y (Z.set m (.row (cs.set off (.bool b)))) := by
  intro Z h2 st
  have g0 : ∀ i ∈ L, Z[i]? = Y[i]? := fun i hi => by
   have := h.lt i hi
   rw [st i (by simp [hi]) (by omega), List.getElem?_append_left this]
  have g1 : Z[m]? = some (.row cs) := by rw [g0 m h.mem]; exact hY
  have g2 : WS k L r m (a ++ nB (bI b)) t ok cs Z := ⟨by rw [nOk_b, Bool.and_true] at h2; exact h2.way.sub (fun i hi => by simp [hi]), h.mem, g1, h2.len⟩
  exact ⟨h2.row, g1, g2.put _, fun i hi hn => by rw [setN (Ne.symm hn)]; exact g0 i hi⟩
 refine Tri.of_run' Tryz.func171 rfl c171_ok (by simp [Tryz.ntmps171]) ?_
 (repeat (first | refine Run.adm rfl ?_ | refine Run.seq ?_ | ((first | apply Run.opS rfl | apply Run.condS); (· (simp -implicitDefEqProofs [hYm, hc]; first | exact ⟨rfl, rfl⟩ | exact rfl)))))
 cases z
 all_goals
  (repeat (first | refine Run.adm rfl ?_ | refine Run.seq ?_ | ((first | apply Run.opS rfl | apply Run.condS); (· (simp -implicitDefEqProofs [hYm, hc]; first | exact ⟨rfl, rfl⟩ | exact rfl)))))
  refine Run.opC rfl rfl (by simp [wnum_tbl, Opd.ev]) htri ?_
  rintro v Z ⟨rfl, h2, st⟩
  obtain ⟨z1, z2, z3, z4⟩ := fin Z h2 st
  have hmn : m ≠ Y.length := by omega
  have z1' : ∀ o, (Z.set m o)[Y.length]? = some (.row [.int .i64 (bI b)]) := fun o => by rw [setN hmn]; exact z1
  cases b
  all_goals
   simp only [bI, if_true, if_neg Bool.false_ne_true] at z1 z1'
   (repeat (first | refine Run.adm rfl ?_ | refine Run.seq ?_ | ((first | apply Run.opS rfl | apply Run.condS); (· (simp -implicitDefEqProofs [z1, z2, z1', hlo, set_at hc]; first | exact ⟨rfl, rfl⟩ | exact rfl)))))
   refine Run.retS Tryz.func171 r171_ok trivial (by simp [r171]; rfl) ?_
   exact ⟨by simp, z3, z4⟩
end ws
end Go.Proofs.YthphkcpbglhabaaGreatDoor
