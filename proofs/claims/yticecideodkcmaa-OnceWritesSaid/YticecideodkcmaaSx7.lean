/-
  Sx: symbolic execution over abstract heaps: parts Zc.
-/
import Derived.Test.YticecideodkcmaaSx6

/-
  Sx, part Zc: the elements of a slice's object, told less exactly.
-/
namespace Sx
open Go
set_option linter.unusedSimpArgs false
set_option linter.unusedVariables false

def EsLe : List (List V) → List (List V) → Prop
  | [], [] => True
  | a :: l, b :: k => (VsLe a b ∧ V.ones b = true) ∧ EsLe l k
  | _, _ => False
theorem EsLe.len : ∀ {a b}, EsLe a b → a.length = b.length
  | [], [], _ => rfl
  | _ :: _, _ :: _, h => by simp [h.2.len]
theorem EsLe.get : ∀ {a b}, EsLe a b → ∀ i (h : i < a.length) (h' : i < b.length), VsLe a[i] b[i] ∧ V.ones b[i] = true
  | _ :: a, _ :: b, h, 0, _, _ => h.1
  | _ :: a, _ :: b, h, i + 1, h1, h2 => h.2.get i (by simpa using h1) (by simpa using h2)
theorem EsLe.refl : ∀ {a : List (List V)}, (∀ e ∈ a, V.ones e = true) → EsLe a a
  | [], _ => trivial
  | a :: l, h => ⟨⟨VsLe.refl a, h a (by simp)⟩, EsLe.refl fun e he => h e (by simp [he])⟩
theorem EsLe.append : ∀ {a b c d}, EsLe a b → EsLe c d → EsLe (a ++ c) (b ++ d)
  | [], [], _, _, _, k => k
  | _ :: a, _ :: b, _, _, h, k => ⟨h.1, h.2.append k⟩

theorem ORel.leE {ro m w p es es' sz} (h : EsLe es es') (hr : ORel ro m w p (.arr es sz)) : ORel ro m w p (.arr es' sz) := by
  obtain ⟨h1, h2, h3, h4⟩ := hr
  have hl := h.len
  refine ⟨fun hn => ?_, fun e he => ?_, fun i hi => ?_, fun hn => ?_⟩
  · have := h1 hn; subst this
    exact List.length_eq_zero_iff.1 (by simpa using hl.symm)
  · obtain ⟨i, hi, rfl⟩ := List.getElem_of_mem he
    exact (h.get i (by omega) hi).2
  · rw [← (h.get i (by omega) hi).1.len]; exact h3 i (by omega)
  · obtain ⟨cc, h5, h6, h7⟩ := h4 hn
    refine ⟨cc, h5, by rw [← hl]; exact h6, fun i hi j hj => ?_⟩
    have hg := (h.get i (by omega) hi).1
    obtain ⟨x, h8, h9⟩ := h7 i (by omega) j (by rw [hg.len]; exact hj)
    exact ⟨x, h8, hg.get j _ hj _ _ _ h9⟩

theorem Run.leE {E : Env} {k t h} (id : Nat) {es es' sz} (hid : h[id]? = some (.arr es sz)) (hle : EsLe es es') (hr : Run E ⟨k, t, h.set id (.arr es' sz)⟩) : Run E ⟨k, t, h⟩ := by
  intro c0 w0 h0 c w a hadv hh htr hd b items cs hb hbk hk
  simp only at hadv hh htr hk
  have hlt : id < h.length := (List.getElem?_eq_some_iff.1 hid).1
  have hget : ∀ (i : Nat) (o : O), (h.set id (.arr es' sz))[i]? = some o → ∃ o', h[i]? = some o' ∧ (o.live → o'.live) ∧ ∀ m' p, ORel c.ro m' w p o' → ORel c.ro m' w p o := by
    intro i o ho
    by_cases e : i = id
    · subst e
      rw [List.getElem?_set_self hlt] at ho; cases ho
      exact ⟨_, hid, fun _ => trivial, fun m' p => ORel.leE hle⟩
    · rw [List.getElem?_set_ne (Ne.symm e)] at ho
      exact ⟨o, ho, fun h => h, fun _ _ h => h⟩
  have hlive : ∀ i, Live (h.set id (.arr es' sz)) i → Live h i := by
    rintro i ⟨o, h1, h2⟩
    obtain ⟨o', h3, h4, -⟩ := hget i o h1
    exact ⟨o', h3, h4 h2⟩
  have g1 : HRel c w (h.set id (.arr es' sz)) := by
    refine ⟨hh.ro, fun i p hm => by rw [List.length_set]; exact hh.dom i p hm, fun i o ho hol => ?_, fun i j p q h1 h2 => hh.inj i j p q (hlive i h1) (hlive j h2)⟩
    obtain ⟨o', h1, h2, h3⟩ := hget i o ho
    obtain ⟨p, h4, h5, h6⟩ := hh.obj i o' h1 (h2 hol)
    exact ⟨p, h4, h3 _ _ h5, h6⟩
  have g2 : Adv c w h c w (h.set id (.arr es' sz)) := ⟨fun _ _ h => h, fun _ _ h => h, by rw [List.length_set]; exact Nat.le_refl _, fun i _ h => hlive i h, Nat.le_refl _, fun _ _ _ => rfl, fun _ _ h _ => .inl h, fun _ _ h => .inl h, rfl, rfl, rfl⟩
  exact hr c0 w0 h0 c w a (hadv.trans h0 g2) g1 ⟨htr.size, htr.rel⟩ hd b items cs hb hbk hk

end Sx
