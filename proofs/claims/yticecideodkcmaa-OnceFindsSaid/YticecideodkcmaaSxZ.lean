/-
  Sx, part Z: states under other names; empty lists; returning.
-/
import Derived.Test.YticecideodkcmaaSxY
namespace Sx
open Go
set_option linter.unusedSimpArgs false
set_option linter.unusedVariables false

def rn (ids : List Nat) (i : Nat) : Option Nat := ids[i]?

def OLeO : Option O → O → Prop
  | some a, b => OLe a b
  | none, _ => False

def Objs (ρ : Nat → Option Nat) (h : List O) : List Nat → List O → Prop
  | [], [] => True
  | j :: js, o :: os => OLeO (h[j]?) (o.ren ρ) ∧ Objs ρ h js os
  | _, _ => False

def KnownR (ρ : Nat → Option Nat) (t : T) : List (Nat × V) → Prop
  | [] => True
  | (i, v) :: l => VLe (t i) (v.ren ρ) ∧ KnownR ρ t l

theorem KnownR.at {ρ t} : ∀ {l}, KnownR ρ t l → ∀ i, VLe (t i) ((tl l i).ren ρ)
  | [], _, i => by rw [tl_nil]; exact VLe.any _
  | (j, v) :: l, hk, i => by
    by_cases e : i = j
    · subst e; simp only [tl_cons, if_true]; exact hk.1
    · simp only [tl_cons, if_neg e]; exact KnownR.at hk.2 i

theorem Objs.len {ρ h} : ∀ {ids os}, Objs ρ h ids os → ids.length = os.length
  | [], [], _ => rfl
  | _ :: js, _ :: os, hh => by simp [hh.2.len]
theorem Objs.get {ρ h} : ∀ {ids os}, Objs ρ h ids os → ∀ {k j : Nat} {o : O}, ids[k]? = some j → os[k]? = some o → ∃ a, h[j]? = some a ∧ OLe a (o.ren ρ)
  | i :: js, p :: os, hh, 0, j, o, h1, h2 => by
    simp at h1 h2; subst h1; subst h2
    have := hh.1
    cases hj : h[i]? with
    | none => rw [hj] at this; exact this.elim
    | some a => rw [hj] at this; exact ⟨a, rfl, this⟩
  | _ :: js, _ :: os, hh, k + 1, j, o, h1, h2 => hh.2.get (by simpa using h1) (by simpa using h2)

theorem HLe.of_get : ∀ {a b : List O}, a.length = b.length → (∀ (i : Nat) x y, a[i]? = some x → b[i]? = some y → OLe x y) → HLe a b
  | [], [], _, _ => trivial
  | [], _ :: _, h, _ => by simp at h
  | _ :: _, [], h, _ => by simp at h
  | x :: a, y :: b, h, hp => ⟨hp 0 x y rfl rfl, HLe.of_get (by simpa using h) fun i u v h1 h2 => hp (i + 1) u v (by simpa using h1) (by simpa using h2)⟩

theorem nodup_inj : ∀ {l : List Nat}, l.Nodup → ∀ {i j : Nat} (hi : i < l.length) (hj : j < l.length), l[i] = l[j] → i = j
  | x :: l, h, 0, 0, _, _, _ => rfl
  | x :: l, h, 0, j + 1, _, hj, e => by
    exfalso; refine (List.nodup_cons.1 h).1 ?_
    simp only [List.getElem_cons_zero, List.getElem_cons_succ] at e; rw [e]; exact List.getElem_mem _
  | x :: l, h, i + 1, 0, hi, _, e => by
    exfalso; refine (List.nodup_cons.1 h).1 ?_
    simp only [List.getElem_cons_zero, List.getElem_cons_succ] at e; rw [← e]; exact List.getElem_mem _
  | x :: l, h, i + 1, j + 1, hi, hj, e => by
    have := nodup_inj (List.nodup_cons.1 h).2 (by simpa using hi) (by simpa using hj) (by simpa using e)
    omega

section rules
variable {E : Env} {k : List AItem} {t : T} {h : List O}

theorem Run.mv (ids : List Nat) (slots : List (Nat × V)) (h' : List O) (hk : ids.take E.H0.length = List.range E.H0.length) (hnd : ids.Nodup) (hs : KnownR (rn ids) t slots) (ho : Objs (rn ids) h ids h')
    (hr : Run E ⟨k, tl slots, h'⟩) : Run E ⟨k, t, h⟩ := by
  have hlen := ho.len
  have hkeep : ∀ i, i < E.H0.length → ids[i]? = some i := by
    intro i hi
    have h1 : (ids.take E.H0.length)[i]? = (List.range E.H0.length)[i]? := by rw [hk]
    rw [List.getElem?_take, if_pos hi, List.getElem?_range hi] at h1
    exact h1
  have hH0 : E.H0.length ≤ ids.length := by
    have := congrArg List.length hk
    simp at this; omega
  have hin : ∀ (i j : Nat) (o : O), ids[i]? = some j → h'[i]? = some o → (setAll h ids (h'.map (O.ren (rn ids))))[j]? = some (o.ren (rn ids)) := by
    intro i j o h1 h2
    obtain ⟨hi, rfl⟩ := List.getElem?_eq_some_iff.1 h1
    obtain ⟨a, ha, _⟩ := ho.get h1 h2
    rw [setAll_in ids h _ i hi hnd (List.getElem?_eq_some_iff.1 ha).1 (by simp; omega)]
    simp [h2]
  refine Run.le (t' := fun i => (tl slots i).ren (rn ids)) (h' := setAll h ids (h'.map (O.ren (rn ids)))) hs.at (HLe.of_get (setAll_length ids h _).symm fun j x y h1 h2 => ?_) ?_
  · by_cases hj : j ∈ ids
    · obtain ⟨i, hi, rfl⟩ := List.mem_iff_getElem.1 hj
      have hi' : i < h'.length := by omega
      have e1 : ids[i]? = some ids[i] := by simp
      have e2 : h'[i]? = some h'[i] := by simp
      obtain ⟨a, ha, hle⟩ := ho.get e1 e2
      rw [hin i _ _ e1 e2] at h2
      rw [ha] at h1
      cases h1; cases h2; exact hle
    · rw [setAll_out ids h _ j hj, h1] at h2
      cases h2; exact OLe.refl _
  · refine Run.weaken (rn ids) (tl slots) h' ⟨by omega, fun i hi => hkeep i hi, fun i j hij => ?_, fun i o hi _ => ?_, fun i i' j h1 h2 => ?_⟩ (fun i => .inr rfl) hr
    · have := (List.getElem?_eq_some_iff.1 hij).1; omega
    · have hlt : i < ids.length := by have := (List.getElem?_eq_some_iff.1 hi).1; omega
      exact ⟨ids[i], by simp [rn, hlt], hin i _ _ (by simp [hlt]) hi⟩
    · simp only [rn] at h1 h2
      obtain ⟨a1, a2⟩ := List.getElem?_eq_some_iff.1 h1
      obtain ⟨b1, b2⟩ := List.getElem?_eq_some_iff.1 h2
      exact nodup_inj hnd a1 b1 (a2.trans b2.symm)

/-- an empty list is a list at no place -/
theorem Run.nilA (i sz : Nat) (hi : t i = .nils) (hr : Run E ⟨k, upd t i (.sl h.length 0 0 sz none), h ++ [.arr [] sz]⟩) : Run E ⟨k, t, h⟩ := by
  intro c0 w0 h0 c w a hadv hh htr hd b items cs hb hbk hk
  simp only at hadv hh htr hk
  obtain ⟨c', p, h1, h2, h3, h4⟩ := nothing_ok hh rfl (fun i x hx _ => hx) sz
  refine hr c0 w0 h0 c' w a (hadv.trans h0 h4) h3 ⟨htr.size, fun j => ?_⟩ hd b items cs hb hbk hk
  have hj := (htr.mono h4.m h4.ro).rel j
  show VRel c'.ro c'.m (if j = i then V.sl h.length 0 0 sz none else t j) _
  split
  · rename_i e; subst e
    rw [hi] at hj
    rw [hj.nils_inv]
    exact .slnil _ _ _ p none h1 h2
  · exact hj

/-- returning, all as it is -/
theorem Run.retI {fn : Func} (hf : E.P.funcs[E.f]? = some fn) {ars} (hr : fn.results.toList.mapM (cRes E.P E.N) = some ars) (hk : AtEnd k) {vs} (hv : evs t h ars = some vs)
    (hl : E.H0.length ≤ h.length) (hp : E.Post (mkRes vs) h) (ho : Stay h.length h) (hpure : (mkRes vs).ren (fr h.length) = mkRes vs) : Run E ⟨k, t, h⟩ := by
  refine Run.ret hf hr hk hv (fr h.length) (h' := h) ⟨hl, fun i hi => by simp [fr]; omega, fun i j hij => ?_, fun i o hi _ => ⟨i, ?_, ?_⟩, fun i i' j h1 h2 => ?_⟩ hpure.symm hp
  · unfold fr at hij; split at hij <;> simp at hij; omega
  · simp [fr, (List.getElem?_eq_some_iff.1 hi).1]
  · rw [ho.mem o (List.mem_of_getElem? hi)]; exact hi
  · unfold fr at h1 h2; split at h1 <;> split at h2 <;> simp at h1 h2; omega
/-- a loop: what is known at its head hangs on what is carried -/
theorem Run.loopC (ids : List Nat) {α : Type} {body} (st : α → List (Nat × V) × List O) (inv : α → Prop) (m : α → Nat) (a : α) (ha : inv a)
    (hk : ids.take E.H0.length = List.range E.H0.length) (hnd : ids.Nodup) (hs : KnownR (rn ids) t (st a).1) (ho : Objs (rn ids) h ids (st a).2)
    (round : ∀ a, inv a → (∀ a', inv a' → m a' < m a → Run E ⟨.inLoop body :: k, tl (st a').1, (st a').2⟩) → Run E ⟨.code body :: .inLoop body :: k, tl (st a).1, (st a).2⟩) :
    Run E ⟨.code (.loop body) :: k, t, h⟩ := Run.mv ids _ _ hk hnd hs ho (Run.loopS st inv m round a ha)

theorem Run.quietM (hm : E.P.follows .mixedOrders = true) {L : DL} (hq : quietOk L = true) (ids : List Nat) (slots : List (Nat × V)) (h' : List O) (hk : ids.take E.H0.length = List.range E.H0.length) (hnd : ids.Nodup)
    (hr : execQ E.P (L.map (·.1)) t h (fun t h => KnownR (rn ids) t slots ∧ Objs (rn ids) h ids h')) (hr' : Run E ⟨k, tl slots, h'⟩) : Run E ⟨.code (.drawn L) :: k, t, h⟩ :=
  Run.quiet hm hq (execQ_mono (fun _ _ ⟨h1, h2⟩ => Run.mv ids slots h' hk hnd h1 h2 hr') hr)
end rules

theorem get_lt {α : Type} {l : List α} {i : Nat} (h : i < l.length) : ∃ x, l[i]? = some x ∧ l.drop i = x :: l.drop (i + 1) ∧ x ∈ l :=
  ⟨l[i], by simp [h], List.drop_eq_getElem_cons h, List.getElem_mem h⟩

theorem getL {α : Type} {l : List α} {i : Nat} (h : i < l.length) : ∃ x, l[i]? = some x ∧ l[i] = x ∧ l.drop i = x :: l.drop (i + 1) ∧ x ∈ l :=
  ⟨l[i], by simp [h], rfl, List.drop_eq_getElem_cons h, List.getElem_mem h⟩

theorem take_map_len {α β : Type} (f : α → β) (l : List α) : (l.map f).take l.length = l.map f := by rw [← List.length_map (f := f), List.take_length]

end Sx
