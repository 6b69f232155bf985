/-
  Sx, part Q: the rule of frame; freezing.
-/
import Derived.Test.YticecideodkcmaaSxP
namespace Sx
open Go
set_option linter.unusedSimpArgs false
set_option linter.unusedVariables false

def setAll : List O → List Nat → List O → List O
  | H, i :: is, o :: os => setAll (H.set i o) is os
  | H, _, _ => H

theorem setAll_length : ∀ (is : List Nat) (H os : List O), (setAll H is os).length = H.length
  | [], H, os => by cases os <;> rfl
  | i :: is, H, [] => rfl
  | i :: is, H, o :: os => by simp only [setAll]; rw [setAll_length]; simp

theorem setAll_out : ∀ (is : List Nat) (H os : List O) (j : Nat), j ∉ is → (setAll H is os)[j]? = H[j]?
  | [], H, os, j, _ => by cases os <;> rfl
  | i :: is, H, [], j, _ => rfl
  | i :: is, H, o :: os, j, h => by
    simp only [setAll]
    have hne : i ≠ j := fun e => h (by subst e; exact List.mem_cons_self)
    rw [setAll_out is _ os j (fun hh => h (List.mem_cons_of_mem _ hh)), List.getElem?_set_ne hne]

theorem setAll_in : ∀ (is : List Nat) (H os : List O) (k : Nat) (hk : k < is.length), is.Nodup → is[k] < H.length → k < os.length → (setAll H is os)[is[k]]? = os[k]?
  | i :: is, H, [], k, hk, hn, hl, ho => by simp at ho
  | i :: is, H, o :: os, 0, hk, hn, hl, ho => by
    simp only [setAll, List.getElem_cons_zero] at hl ⊢
    rw [setAll_out is _ os i (List.nodup_cons.1 hn).1, List.getElem?_set_self hl]; rfl
  | i :: is, H, o :: os, k + 1, hk, hn, hl, ho => by
    simp only [setAll, List.getElem_cons_succ] at hl ⊢
    rw [setAll_in is (H.set i o) os k (by simpa using hk) (List.nodup_cons.1 hn).2 (by simpa using hl) (by simpa using ho)]
    simp

/-- the callee's names as the caller's -/
def nm (ids : List Nat) (n : Nat) (i : Nat) : Option Nat := if i < ids.length then ids[i]? else some (n + (i - ids.length))

def back (ids : List Nat) (H Hs : List O) : List O := setAll H ids (Hs.map (O.ren (nm ids H.length))) ++ (Hs.drop ids.length).map (O.ren (nm ids H.length))

theorem V.renL_map (ρ) : ∀ l, V.renL ρ l = l.map (V.ren ρ)
  | [] => rfl
  | v :: l => by simp [V.renL, V.renL_map ρ l]

theorem Tri.frame {P : Program} {f : FuncId} {as : List V} {Hs : List O} {Post} (h : Tri P f as Hs Post) (ids : List Nat) (H : List O) (hlen : ids.length = Hs.length) (hnd : ids.Nodup)
    (hlive : ∀ (i : Nat) (o : O), Hs[i]? = some o → o.live) (hobj : ∀ (i : Nat) (hi : i < ids.length) (o : O), Hs[i]? = some o → H[ids[i]]? = some (o.ren (nm ids H.length))) :
    Tri P f (V.renL (nm ids H.length) as) H (fun v H' => ∃ v0 Hs', Post v0 Hs' ∧ v = v0.ren (nm ids H.length) ∧ H' = back ids H Hs') := by
  refine ⟨h.1, fun C w cargs hH hargs => ?_⟩
  -- the names that are there
  have nm_in : ∀ i (hi : i < ids.length), nm ids H.length i = some ids[i] := fun i hi => by simp [nm, hi]
  have hid : ∀ i (hi : i < ids.length), ∃ o, Hs[i]? = some o ∧ H[ids[i]]? = some (o.ren (nm ids H.length)) ∧ ids[i] < H.length := by
    intro i hi
    have ho : Hs[i]? = some (Hs[i]'(by omega)) := List.getElem?_eq_getElem (by omega)
    have := hobj i hi _ ho
    exact ⟨_, ho, this, (List.getElem?_eq_some_iff.1 this).1⟩
  have inj : ∀ i i' (hi : i < ids.length) (hi' : i' < ids.length), ids[i] = ids[i'] → i = i' := fun i i' hi hi' he => (List.getElem_inj hnd).1 he
  let ρ : Nat → Option Nat := fun i => ids[i]?
  have ρ_in : ∀ i (hi : i < ids.length), ρ i = some ids[i] := fun i hi => List.getElem?_eq_getElem hi
  have ρ_some : ∀ i j, ρ i = some j → ∃ hi : i < ids.length, ids[i] = j := fun i j h => by
    obtain ⟨h1, h2⟩ := List.getElem?_eq_some_iff.1 h; exact ⟨h1, h2⟩
  let c : Ctx := C.via ρ
  have cm : ∀ i (hi : i < ids.length), c.m i = C.m ids[i] := fun i hi => by show (ρ i).bind C.m = _; rw [ρ_in i hi]; rfl
  have cm_some : ∀ i p, c.m i = some p → ∃ hi : i < ids.length, C.m ids[i] = some p := fun i p hp => by
    obtain ⟨j, hj, hp'⟩ := via_some hp
    obtain ⟨hi, rfl⟩ := ρ_some i j hj
    exact ⟨hi, hp'⟩
  have of_nm : ∀ i j p, nm ids H.length i = some j → C.m j = some p → c.m i = some p := by
    intro i j p hj hp
    by_cases hi : i < ids.length
    · rw [nm_in i hi] at hj; cases hj; rw [cm i hi]; exact hp
    · simp only [nm, if_neg hi] at hj
      cases hj
      have := hH.dom _ _ hp
      omega
  have hsmall : HRel c w Hs := by
    refine ⟨hH.ro, ?_, ?_, ?_⟩
    · intro i p hp; obtain ⟨hi, _⟩ := cm_some i p hp; omega
    · intro i o ho hl
      have hi : i < ids.length := by rw [hlen]; exact (List.getElem?_eq_some_iff.1 ho).1
      obtain ⟨p, hp, hr, hro⟩ := hH.obj _ _ (hobj i hi o ho) (O.ren_live.2 hl)
      exact ⟨p, by rw [cm i hi]; exact hp, hr.of_ren _ of_nm, hro⟩
    · intro i i' p q hi hi' hp hq hpn hqn he
      obtain ⟨h1, hp'⟩ := cm_some i p hp
      obtain ⟨h2, hq'⟩ := cm_some i' q hq
      obtain ⟨o, ho, hHo, _⟩ := hid i h1
      obtain ⟨o', ho', hHo', _⟩ := hid i' h2
      exact inj i i' h1 h2 (hH.inj _ _ p q ⟨_, hHo, O.ren_live.2 (hlive i o ho)⟩ ⟨_, hHo', O.ren_live.2 (hlive i' o' ho')⟩ hp' hq' hpn hqn he)
  have hargs' : VRels c.ro c.m as cargs := by
    refine ⟨by rw [← hargs.1, V.renL_length], fun i a b => ?_⟩
    have := hargs.2 i (by rw [V.renL_length]; exact a) b
    exact this.of_ren _ (V.renL_get _ _ i _) of_nm
  refine (h.2 c w cargs hsmall hargs').mono ?_
  rintro e w' ⟨v0, Hs', c', cv, hPost, rfl, hv, hh', hadv⟩
  let C' : Ctx := ⟨fun j => if j < H.length then C.m j else c'.m (ids.length + (j - H.length)), c'.ro⟩
  have hl' : Hs.length ≤ Hs'.length := hadv.len
  have c'_old : ∀ i (hi : i < ids.length), c'.m i = C.m ids[i] := by
    intro i hi
    obtain ⟨o, ho, hHo, _⟩ := hid i hi
    obtain ⟨p, hp, _⟩ := hH.obj _ _ hHo (O.ren_live.2 (hlive i o ho))
    rw [hp]
    exact hadv.m i p (by rw [cm i hi]; exact hp)
  have to_nm : ∀ i p, c'.m i = some p → ∃ j, nm ids H.length i = some j ∧ C'.m j = some p := by
    intro i p hp
    by_cases hi : i < ids.length
    · obtain ⟨_, _, _, hlt⟩ := hid i hi
      refine ⟨ids[i], nm_in i hi, ?_⟩
      show (if ids[i] < H.length then C.m ids[i] else _) = _
      rw [if_pos hlt, ← c'_old i hi]; exact hp
    · refine ⟨H.length + (i - ids.length), by simp [nm, hi], ?_⟩
      show (if H.length + (i - ids.length) < H.length then _ else c'.m (ids.length + (H.length + (i - ids.length) - H.length))) = _
      rw [if_neg (by omega), show ids.length + (H.length + (i - ids.length) - H.length) = i from by omega]; exact hp
  have Cext : ∀ i p, C.m i = some p → C'.m i = some p := fun i p hp => by
    show (if i < H.length then C.m i else _) = _
    rw [if_pos (hH.dom i p hp)]; exact hp
  have owns : ∀ b, Owns c Hs b → Owns C H b := by
    rintro b ⟨i, p, hl, hp, hn, rfl⟩
    obtain ⟨hi, hp'⟩ := cm_some i p hp
    obtain ⟨o, ho, hHo, _⟩ := hid i hi
    exact ⟨ids[i], p, ⟨_, hHo, O.ren_live.2 (hlive i o ho)⟩, hp', hn, rfl⟩
  have owns' : ∀ b, Owns c Hs b → ∃ i, ∃ hi : i < ids.length, ∃ p, C.m ids[i] = some p ∧ p.null = false ∧ p.block = b ∧ Live H ids[i] := by
    rintro b ⟨i, p, hl, hp, hn, rfl⟩
    obtain ⟨hi, hp'⟩ := cm_some i p hp
    obtain ⟨o, ho, hHo, _⟩ := hid i hi
    exact ⟨i, hi, p, hp', hn, rfl, ⟨_, hHo, O.ren_live.2 (hlive i o ho)⟩⟩
  -- the objects behind
  have blen : (back ids H Hs').length = H.length + (Hs'.length - ids.length) := by simp [back, setAll_length]
  have b_in : ∀ i (hi : i < ids.length), (back ids H Hs')[ids[i]]? = some ((Hs'[i]'(by omega)).ren (nm ids H.length)) := by
    intro i hi
    obtain ⟨_, _, _, hlt⟩ := hid i hi
    unfold back
    rw [List.getElem?_append_left (by rw [setAll_length]; exact hlt), setAll_in ids H _ i hi hnd hlt (by simp; omega)]
    simp [List.getElem?_eq_getElem (show i < Hs'.length by omega)]
  have b_out : ∀ j, j < H.length → j ∉ ids → (back ids H Hs')[j]? = H[j]? := by
    intro j hj hn
    unfold back
    rw [List.getElem?_append_left (by rw [setAll_length]; exact hj), setAll_out ids H _ j hn]
  have b_new : ∀ j, H.length ≤ j → (back ids H Hs')[j]? = (Hs'[ids.length + (j - H.length)]?).map (O.ren (nm ids H.length)) := by
    intro j hj
    unfold back
    rw [List.getElem?_append_right (by rw [setAll_length]; exact hj), setAll_length, List.getElem?_map, List.getElem?_drop]
  have blocks : ∀ j p, j < H.length → j ∉ ids → Live H j → C.m j = some p → p.null = false → ¬ Owns c Hs p.block := by
    intro j p hj hn hl hp hpn ho
    obtain ⟨i, hi, q, hq, hqn, he, hl'⟩ := owns' _ ho
    have := hH.inj j ids[i] p q hl hl' hp hq hpn hqn he.symm
    exact hn (this ▸ List.getElem_mem _)
  have hHRel : HRel C' w' (back ids H Hs') := by
    refine ⟨hh'.ro, ?_, ?_, ?_⟩
    · intro j p hp
      rw [blen]
      by_cases hj : j < H.length
      · omega
      · have hp' : c'.m (ids.length + (j - H.length)) = some p := by
          have : C'.m j = c'.m (ids.length + (j - H.length)) := if_neg hj
          rw [← this]; exact hp
        have := hh'.dom _ _ hp'
        omega
    · intro j o ho hl
      by_cases hj : j < H.length
      · by_cases hm : j ∈ ids
        · obtain ⟨i, hi, rfl⟩ := List.getElem_of_mem hm
          rw [b_in i hi] at ho
          cases ho
          have hi' : i < Hs'.length := by omega
          obtain ⟨p, hp, hr, hro⟩ := hh'.obj i Hs'[i] (List.getElem?_eq_getElem hi') (O.ren_live.1 hl)
          refine ⟨p, ?_, hr.to_ren _ to_nm, hro⟩
          rw [c'_old i hi] at hp; exact Cext _ _ hp
        · rw [b_out j hj hm] at ho
          obtain ⟨p, hp, hr, hro⟩ := hH.obj j o ho hl
          have hno := fun hpn => blocks j p hj hm ⟨o, ho, hl⟩ hp hpn
          have hlt := fun hpn => hH.owns_lt ⟨j, p, ⟨o, ho, hl⟩, hp, hpn, rfl⟩
          refine ⟨p, Cext _ _ hp, hr.mono hadv.ro Cext (fun hpn => hadv.frame _ (hlt hpn) (hno hpn)), fun hpn => ?_⟩
          cases hx : c'.ro p.block with
          | none => exact (hx ▸ rfl)
          | some cs =>
            rcases hadv.freshro _ _ hx with h1 | h1 | h1
            · have := hro hpn; rw [show c.ro = C.ro from rfl, this] at h1; cases h1
            · exact absurd h1 (hno hpn)
            · have := hlt hpn; omega
      · rw [b_new j (by omega)] at ho
        cases hx : Hs'[ids.length + (j - H.length)]? with
        | none => simp [hx] at ho
        | some o' =>
          simp [hx] at ho
          subst ho
          obtain ⟨p, hp, hr, hro⟩ := hh'.obj _ _ hx (O.ren_live.1 hl)
          exact ⟨p, (if_neg hj).trans hp, hr.to_ren _ to_nm, hro⟩
    · -- what is at one place is one
      have name : ∀ j p, Live (back ids H Hs') j → C'.m j = some p → (∃ i, Live Hs' i ∧ c'.m i = some p ∧ nm ids H.length i = some j) ∨ (j < H.length ∧ j ∉ ids ∧ Live H j ∧ C.m j = some p) := by
        rintro j p ⟨o, ho, hl⟩ hp
        by_cases hj : j < H.length
        · have hp' : C.m j = some p := by rw [← hp]; exact (if_pos hj).symm
          by_cases hm : j ∈ ids
          · obtain ⟨i, hi, rfl⟩ := List.getElem_of_mem hm
            rw [b_in i hi] at ho
            cases ho
            exact .inl ⟨i, ⟨_, List.getElem?_eq_getElem (by omega), O.ren_live.1 hl⟩, by rw [c'_old i hi]; exact hp', nm_in i hi⟩
          · rw [b_out j hj hm] at ho
            exact .inr ⟨hj, hm, ⟨o, ho, hl⟩, hp'⟩
        · rw [b_new j (by omega)] at ho
          cases hx : Hs'[ids.length + (j - H.length)]? with
          | none => simp [hx] at ho
          | some o' =>
            simp [hx] at ho
            subst ho
            refine .inl ⟨ids.length + (j - H.length), ⟨o', hx, O.ren_live.1 hl⟩, by rw [← hp]; exact (if_neg hj).symm, ?_⟩
            simp only [nm]
            rw [if_neg (by omega)]
            congr 1; omega
      have apart : ∀ i j p q, Live Hs' i → c'.m i = some p → j < H.length → j ∉ ids → Live H j → C.m j = some q → p.null = false → q.null = false → p.block ≠ q.block := by
        intro i j p q hl hp hj hm hl2 hq hpn hqn he
        have hno := blocks j q hj hm hl2 hq hqn
        have hlt := hH.owns_lt ⟨j, q, hl2, hq, hqn, rfl⟩
        rcases hadv.fresh i p hp hpn with h1 | h1 | h1
        · obtain ⟨hi, hp'⟩ := cm_some i p h1
          obtain ⟨o, ho, hHo, _⟩ := hid i hi
          have := hH.inj _ _ p q ⟨_, hHo, O.ren_live.2 (hlive i o ho)⟩ hl2 hp' hq hpn hqn he
          exact hm (this ▸ List.getElem_mem _)
        · rw [he] at h1; exact hno h1
        · omega
      intro j j' p q hj hj' hp hq hpn hqn he
      rcases name j p hj hp with ⟨i, hi, hip, hin⟩ | ⟨h1, h2, h3, h4⟩ <;> rcases name j' q hj' hq with ⟨i', hi', hip', hin'⟩ | ⟨k1, k2, k3, k4⟩
      · have := hh'.inj i i' p q hi hi' hip hip' hpn hqn he
        subst this
        rw [hin] at hin'; cases hin'; rfl
      · exact absurd he (apart i j' p q hi hip k1 k2 k3 k4 hpn hqn)
      · exact absurd he.symm (apart i' j q p hi' hip' h1 h2 h3 h4 hqn hpn)
      · exact hH.inj j j' p q h3 k3 h4 k4 hpn hqn he
  refine ⟨v0.ren (nm ids H.length), back ids H Hs', C', cv, ⟨v0, Hs', hPost, rfl, rfl⟩, rfl, hv.to_ren _ to_nm, hHRel, ?_⟩
  refine ⟨Cext, hadv.ro, by rw [blen]; omega, ?_, hadv.size, fun b hb hno => hadv.frame b hb fun ho => hno (owns b ho), ?_, ?_, hadv.os, hadv.output, hadv.tape⟩
  · intro j hj hl
    by_cases hm : j ∈ ids
    · obtain ⟨i, hi, rfl⟩ := List.getElem_of_mem hm
      obtain ⟨o, ho, hHo, _⟩ := hid i hi
      exact ⟨_, hHo, O.ren_live.2 (hlive i o ho)⟩
    · obtain ⟨o, ho, hl⟩ := hl
      rw [b_out j hj hm] at ho
      exact ⟨o, ho, hl⟩
  · intro j p hp hpn
    by_cases hj : j < H.length
    · left; rw [← hp]; exact (if_pos hj).symm
    · have hp' : c'.m (ids.length + (j - H.length)) = some p := by rw [← hp]; exact (if_neg hj).symm
      rcases hadv.fresh _ p hp' hpn with h1 | h1 | h1
      · obtain ⟨hi, _⟩ := cm_some _ _ h1; omega
      · exact .inr (.inl (owns _ h1))
      · exact .inr (.inr h1)
  · intro b cs hb
    rcases hadv.freshro b cs hb with h1 | h1 | h1
    · exact .inl h1
    · exact .inr (.inl (owns _ h1))
    · exact .inr (.inr h1)

end Sx
