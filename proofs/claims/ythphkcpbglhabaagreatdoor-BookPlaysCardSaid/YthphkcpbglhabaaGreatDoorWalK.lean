/-
  Layer 06, part K: the plain law of a disk that holds a log's files.
-/
import Derived.Test.YthphkcpbglhabaaGreatDoorWalJ
namespace Go.Proofs.YthphkcpbglhabaaGreatDoor
open Sx Go
set_option maxRecDepth 100000
set_option linter.unusedSimpArgs false
set_option linter.unusedVariables false
set_option linter.unnecessarySimpa false

/-- a log's file -/
structure LF where
  num : Nat
  bytes : Bs
  sure : Nat
def LF.file (f : LF) : FileM := ⟨logN f.num, f.bytes, f.sure⟩
def LD (fs : List LF) (fu : Int) (off : Bool) : Dk := ⟨fs.map LF.file, fu, off⟩
/-- the numbers rise -/
def Ris (fs : List LF) : Prop := fs.Pairwise (fun a b => a.num < b.num) ∧ ∀ f ∈ fs, f.num < 100
/-- the fuse behind a doing -/
def nxF (fu : Int) : Int := if 0 < fu then fu - 1 else fu

theorem Ris.mid {A B : List LF} {f : LF} (h : Ris (A ++ f :: B)) : (∀ a ∈ A, a.num < f.num) ∧ (∀ b ∈ B, f.num < b.num) ∧ f.num < 100 ∧ Ris (A ++ B) := by
  obtain ⟨h1, h2⟩ := h
  obtain ⟨p1, p2, p3⟩ := List.pairwise_append.1 h1
  obtain ⟨p4, p5⟩ := List.pairwise_cons.1 p2
  refine ⟨fun a ha => p3 a ha f (by simp), p4, h2 f (by simp), List.pairwise_append.2 ⟨p1, p5, fun a ha b hb => p3 a ha b (List.mem_cons_of_mem _ hb)⟩, fun g hg => h2 g ?_⟩
  rcases List.mem_append.1 hg with hg | hg
  · exact List.mem_append_left _ hg
  · exact List.mem_append_right _ (List.mem_cons_of_mem _ hg)
theorem Ris.put {A B : List LF} {f g : LF} (h : Ris (A ++ f :: B)) (hg : g.num = f.num) : Ris (A ++ g :: B) := by
  obtain ⟨m1, m2, m3, m4⟩ := h.mid
  obtain ⟨h1, h2⟩ := h
  obtain ⟨p1, p2, p3⟩ := List.pairwise_append.1 h1
  obtain ⟨p4, p5⟩ := List.pairwise_cons.1 p2
  refine ⟨List.pairwise_append.2 ⟨p1, List.pairwise_cons.2 ⟨fun b hb => by rw [hg]; exact p4 b hb, p5⟩, fun a ha b hb => ?_⟩, fun x hx => ?_⟩
  · rcases List.mem_cons.1 hb with rfl | hb
    · rw [hg]; exact m1 a ha
    · exact p3 a ha b (List.mem_cons_of_mem _ hb)
  · rcases List.mem_append.1 hx with hx | hx
    · exact h2 x (List.mem_append_left _ hx)
    · rcases List.mem_cons.1 hx with rfl | hx
      · rw [hg]; exact m3
      · exact h2 x (List.mem_append_right _ (List.mem_cons_of_mem _ hx))
theorem Ris.snoc {fs : List LF} {f : LF} (h : Ris fs) (hlt : ∀ a ∈ fs, a.num < f.num) (hf : f.num < 100) : Ris (fs ++ [f]) := by
  refine ⟨List.pairwise_append.2 ⟨h.1, by simp, fun a ha b hb => by rw [List.mem_singleton.1 hb]; exact hlt a ha⟩, fun x hx => ?_⟩
  rcases List.mem_append.1 hx with hx | hx
  · exact h.2 x hx
  · rw [List.mem_singleton.1 hx]; exact hf
theorem Ris.sub {fs gs : List LF} (h : Ris fs) (hs : gs.Sublist fs) : Ris gs := ⟨h.1.sublist hs, fun f hf => h.2 f (hs.subset hf)⟩
theorem rise_len : ∀ (fs : List LF) (k : Nat), k ≤ 100 → fs.Pairwise (fun a b => a.num < b.num) → (∀ f ∈ fs, k ≤ f.num ∧ f.num < 100) → fs.length + k ≤ 100
  | [], k, hk, _, _ => by simpa using hk
  | f :: r, k, hk, hp, hb => by
    obtain ⟨p1, p2⟩ := List.pairwise_cons.1 hp
    obtain ⟨b1, b2⟩ := hb f (by simp)
    have := rise_len r (f.num + 1) (by omega) p2 fun g hg => ⟨p1 g hg, (hb g (List.mem_cons_of_mem _ hg)).2⟩
    simp only [List.length_cons]; omega
theorem Ris.len {fs : List LF} (h : Ris fs) : fs.length ≤ 100 := by
  have := rise_len fs 0 (by omega) h.1 fun f hf => ⟨Nat.zero_le _, h.2 f hf⟩
  omega

theorem namesD_LD {fs : List LF} (h : Ris fs) (fu off) : namesD (LD fs fu off) = (fs.map (·.num)).map logN := by
  unfold namesD sortN LD
  have e : (fs.map LF.file).map (·.name) = (fs.map (·.num)).map logN := by simp [List.map_map, LF.file, Function.comp_def]
  rw [e]
  refine List.mergeSort_of_pairwise ?_
  rw [List.pairwise_map, List.pairwise_map]
  refine h.1.imp_of_mem fun {a b} ha hb hab => ?_
  have := logN_le (i := a.num) (b.num - a.num) (by have := h.2 b hb; omega)
  rwa [show a.num + (b.num - a.num) = b.num by omega] at this
theorem nmOk_LD {fs : List LF} (h : Ris fs) (fu off) : NmOk (LD fs fu off) := by
  intro f hf
  obtain ⟨g, hg, rfl⟩ := List.mem_map.1 hf
  show (logN g.num).length ≤ 32
  rw [(logN_ok g.num (h.2 g hg)).2.1]; decide

theorem ne_name {f g : LF} (hf : f.num < 100) (hg : g.num < 100) (h : f.num ≠ g.num) : ¬ f.file.name = logN g.num := fun e => h (logN_inj hf hg e)
theorem fileOf_LD {A B : List LF} {f : LF} (h : Ris (A ++ f :: B)) : fileOf ((A ++ f :: B).map LF.file) (logN f.num) = some f.file := by
  obtain ⟨m1, m2, m3, m4⟩ := h.mid
  unfold fileOf
  rw [List.map_append, List.find?_append]
  have : (A.map LF.file).find? (fun g => decide (g.name = logN f.num)) = none := by
    rw [List.find?_eq_none]
    intro x hx
    obtain ⟨a, ha, rfl⟩ := List.mem_map.1 hx
    have := ne_name (f := a) (g := f) (h.2 a (by simp [ha])) m3 (by have := m1 a ha; omega)
    simpa using this
  rw [this]
  simp [LF.file]
theorem fileOf_LD_none {fs : List LF} (h : Ris fs) {n : Nat} (hn : n < 100) (hne : ∀ f ∈ fs, f.num ≠ n) : fileOf (fs.map LF.file) (logN n) = none := by
  unfold fileOf
  rw [List.find?_eq_none]
  intro x hx
  obtain ⟨a, ha, rfl⟩ := List.mem_map.1 hx
  have : ¬ logN a.num = logN n := fun e => hne a ha (logN_inj (h.2 a ha) hn e)
  simp [LF.file, this]
theorem updF_LD {A B : List LF} {f g : LF} (h : Ris (A ++ f :: B)) (hg : g.num = f.num) (u : FileM → FileM) (hu : u f.file = g.file) : updF ((A ++ f :: B).map LF.file) (logN f.num) u = (A ++ g :: B).map LF.file := by
  obtain ⟨m1, m2, m3, m4⟩ := h.mid
  unfold updF
  rw [List.map_append, List.map_append, List.map_append, List.map_cons, List.map_cons, List.map_cons]
  have hne : ∀ a, a ∈ A ∨ a ∈ B → ¬ logN a.num = logN f.num := fun a ha e => by
    have := logN_inj (h.2 a (by rcases ha with ha | ha <;> simp [ha])) m3 e
    rcases ha with ha | ha
    · have := m1 a ha; omega
    · have := m2 a ha; omega
  congr 1
  · rw [List.map_map]
    exact List.map_congr_left fun a ha => by simp [LF.file, hne a (.inl ha)]
  · congr 1
    · rw [if_pos (show f.file.name = logN f.num from rfl), hu]
    · rw [List.map_map]
      exact List.map_congr_left fun a ha => by simp [LF.file, hne a (.inr ha)]
theorem delF_LD {A B : List LF} {f : LF} (h : Ris (A ++ f :: B)) : delF ((A ++ f :: B).map LF.file) (logN f.num) = (A ++ B).map LF.file := by
  obtain ⟨m1, m2, m3, m4⟩ := h.mid
  unfold delF
  have hne : ∀ a, a ∈ A ∨ a ∈ B → ¬ logN a.num = logN f.num := fun a ha e => by
    have := logN_inj (h.2 a (by rcases ha with ha | ha <;> simp [ha])) m3 e
    rcases ha with ha | ha
    · have := m1 a ha; omega
    · have := m2 a ha; omega
  have hk : ∀ C : List LF, (∀ a ∈ C, ¬ logN a.num = logN f.num) → (C.map LF.file).filter (fun x => !decide (x.name = logN f.num)) = C.map LF.file := fun C hC => by
    rw [List.filter_eq_self]
    intro x hx
    obtain ⟨a, ha, rfl⟩ := List.mem_map.1 hx
    simp [LF.file, hC a ha]
  rw [List.map_append, List.filter_append, hk A fun a ha => hne a (.inl ha), List.map_cons, List.filter_cons, hk B fun a ha => hne a (.inr ha)]
  simp [LF.file]

theorem doI_blow {fu : Int} {off : Bool} (h : off = true ∨ fu = 0) : doI true fu off = (50, fu, true) := by simp [doI, h]
theorem doI_go {fu : Int} {off : Bool} (h : ¬ (off = true ∨ fu = 0)) : doI true fu off = (0, nxF fu, false) := by
  unfold doI nxF
  rw [if_pos rfl, if_neg h]

section ops
variable {A B fs : List LF} {f : LF} {fu : Int} {off : Bool}
theorem sync_LD (h : Ris (A ++ f :: B)) : syncD (LD (A ++ f :: B) fu off) (logN f.num) = if off = true ∨ fu = 0 then (50, LD (A ++ f :: B) fu true) else (0, LD (A ++ ⟨f.num, f.bytes, f.bytes.length⟩ :: B) (nxF fu) false) := by
  have hm := logN_may h.mid.2.2.1
  by_cases hb : off = true ∨ fu = 0
  · rw [if_pos hb]
    simp [syncD, LD, Dk.did, hm, doI_blow hb]
  · rw [if_neg hb]
    have := updF_LD (g := ⟨f.num, f.bytes, f.bytes.length⟩) h rfl (fun f => ⟨f.name, f.bytes, f.bytes.length⟩) rfl
    simp only [syncD, LD, Dk.did, hm, doI_go hb, fileOf_LD h, this, if_true]
theorem append_LD (h : Ris (A ++ f :: B)) (s : Bs) (hs : f.bytes.length + s.length ≤ 4194304) : appendD (LD (A ++ f :: B) fu off) (logN f.num) s = if off = true ∨ fu = 0 then (50, LD (A ++ f :: B) fu true) else (0, LD (A ++ ⟨f.num, f.bytes ++ s, f.sure⟩ :: B) (nxF fu) false) := by
  have hm := logN_may h.mid.2.2.1
  by_cases hb : off = true ∨ fu = 0
  · rw [if_pos hb]
    simp [appendD, LD, Dk.did, hm, doI_blow hb]
  · rw [if_neg hb]
    have := updF_LD (g := ⟨f.num, f.bytes ++ s, f.sure⟩) h rfl (fun f => ⟨f.name, f.bytes ++ s, f.sure⟩) rfl
    have hn : ¬ 4194304 - f.file.bytes.length < s.length := by
      show ¬ 4194304 - f.bytes.length < s.length
      omega
    simp only [appendD, LD, Dk.did, hm, doI_go hb, fileOf_LD h, this, if_true, hn, if_false]
theorem make_LD (h : Ris fs) {n : Nat} (hn : n < 100) (hne : ∀ f ∈ fs, f.num ≠ n) : makeD (LD fs fu off) (logN n) = if off = true ∨ fu = 0 then (50, LD fs fu true) else (0, LD (fs ++ [⟨n, [], 0⟩]) (nxF fu) false) := by
  have hm := logN_may hn
  by_cases hb : off = true ∨ fu = 0
  · rw [if_pos hb]
    simp [makeD, LD, Dk.did, hm, doI_blow hb]
  · rw [if_neg hb]
    have h2 : ¬ 256 ≤ (fs.map LF.file).length := by have := h.len; simp; omega
    simp only [makeD, LD, Dk.did, hm, doI_go hb, fileOf_LD_none h hn hne, if_true, h2, if_false]
    simp [LF.file]
theorem remove_LD (h : Ris (A ++ f :: B)) : removeD (LD (A ++ f :: B) fu off) (logN f.num) = if off = true ∨ fu = 0 then (50, LD (A ++ f :: B) fu true) else (0, LD (A ++ B) (nxF fu) false) := by
  have hm := logN_may h.mid.2.2.1
  by_cases hb : off = true ∨ fu = 0
  · rw [if_pos hb]
    simp [removeD, LD, Dk.did, hm, doI_blow hb]
  · rw [if_neg hb]
    simp only [removeD, LD, Dk.did, hm, doI_go hb, fileOf_LD h, delF_LD h, if_true]
theorem read_LD (h : Ris (A ++ f :: B)) : readD (LD (A ++ f :: B) fu false) (logN f.num) = (f.bytes, 0) := by
  have hm := logN_may h.mid.2.2.1
  have hf := fileOf_LD h
  unfold readD lookE LD
  simp only [hm, hf]
  simp [LF.file]
end ops

end Go.Proofs.YthphkcpbglhabaaGreatDoor
