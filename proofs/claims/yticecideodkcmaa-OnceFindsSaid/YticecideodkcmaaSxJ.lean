/-
  Sx, part J: append.
-/
import Derived.Test.YticecideodkcmaaSxI
import Derived.Laws.AppendOwn
namespace Sx
open Go

theorem src_sound {P : Program} {c w h} (hh : HRel c w h) {v : V} {cv : Value} (hv : VRel c.ro c.m v cv) {sz : Nat} {str : Bool} {es : List (List V)} (he : srcOf h sz str v = some es) {u : TypeId}
    (hu : (str = true ∧ P.underlying u = some .string ∧ sz = 1) ∨ (str = false ∧ ∃ e', P.underlying u = some (.slice e'))) :
    ∃ news : List Value, news.length = es.length * sz ∧ Els c.ro Pl.none es sz (news[·]?) ∧ Src P sz u cv es.length news w := by
  rcases hu with ⟨rfl, hu, rfl⟩ | ⟨rfl, e', hu⟩
  · cases v <;> simp only [srcOf] at he <;> cases he
    rename_i l
    rw [hv.str_inv]
    have hl : (byteCells ⟨l.toArray⟩).length = (byteEls l).length * 1 := by simp [byteCells, byteEls]
    refine ⟨byteCells ⟨l.toArray⟩, hl, byteEls_els _ _ l, ?_⟩
    have := Src.ofString (P := P) w hu ⟨l.toArray⟩
    have e : (⟨l.toArray⟩ : ByteArray).size = (byteEls l).length := by simp [byteEls, ByteArray.size]
    rwa [e] at this
  · simp only [srcOf] at he
    obtain ⟨news, a, cap, h1, h2, rfl, h3, h4⟩ := elemsOf_flat hh hv he
    exact ⟨news, h1, h2, src_of hu h1 (h2.one h1) h4⟩

theorem zeroCells_length (z : Array Value) (n : Nat) : (Builtin.zeroCells z n).size = n * z.size := by simp [Builtin.zeroCells]

/-- a new row, of old elements and new ones -/
theorem grown_ok {c : Ctx} {w : World} {h h' : List O} (hh : HRel c w h) (hlen : h'.length = h.length) (hh' : ∀ (i : Nat) (x : O), h'[i]? = some x → x.live → h[i]? = some x)
    {es : List (List V)} {sz : Nat} {l : List Value} (he : Els c.ro Pl.none es sz (l[·]?)) (hl : l.length = es.length * sz) (e : TypeId) (more : Array Value) :
    ∃ c', c'.m h.length = some ⟨w.heap.size, 0, l.length + more.size, false, e⟩ ∧ HRel c' (w.drew.alloc (.cells (l.toArray ++ more) e)) (h' ++ [.arr es sz]) ∧ Adv c w h c' (w.drew.alloc (.cells (l.toArray ++ more) e)) (h' ++ [.arr es sz]) := by
  have hsize : (w.drew.alloc (.cells (l.toArray ++ more) e)).heap = w.heap.push (.cells (l.toArray ++ more) e) := rfl
  have key1 : ∀ i q, Live h' i → c.m i = some q → q.null = false → q.block ≠ w.heap.size := by
    rintro i q ⟨x, hx, hxl⟩ hq hn he
    have := hh.owns_lt ⟨i, q, ⟨x, hh' i x hx hxl, hxl⟩, hq, hn, he⟩
    omega
  have key2 : c.ro w.heap.size = none := by
    cases hc : c.ro w.heap.size with
    | none => rfl
    | some cs =>
      obtain ⟨e, fr, hw⟩ := hh.ro _ _ hc
      have := (Array.getElem?_eq_some_iff.1 hw).1
      omega
  obtain ⟨h1, h2⟩ := hh.move (w' := w.drew.alloc (.cells (l.toArray ++ more) e)) (h' := h') (.arr es sz) ⟨w.heap.size, 0, l.length + more.size, false, e⟩ hlen hh' (fun _ => ⟨key1, key2, .inr (Nat.le_refl _)⟩) (by rw [hsize]; simp)
    (fun b hb _ => by rw [hsize, Array.getElem?_push, if_neg (by omega)]) rfl rfl rfl (fun m' hm => by
      have := arr_of_els (c := c) (es := es) (sz := sz) (cc := l.toArray ++ more) (b := w.heap.size) (m' := m') (w' := w.drew.alloc (.cells (l.toArray ++ more) e)) (e := e) (by
        have := els_arr (els_front he more.toList)
        have e1 : (l ++ more.toList).toArray = l.toArray ++ more := by simp
        rwa [e1] at this) (by rw [hsize]; simp) (by simp; omega)
      have e2 : (l.toArray ++ more).size = l.length + more.size := by simp
      rwa [e2] at this)
  exact ⟨_, by simp, h1, h2⟩

/-- an empty list, at no place -/
theorem nothing_ok {c : Ctx} {w : World} {h h' : List O} (hh : HRel c w h) (hlen : h'.length = h.length) (hh' : ∀ (i : Nat) (x : O), h'[i]? = some x → x.live → h[i]? = some x) (sz : Nat) :
    ∃ c' p, c'.m h.length = some p ∧ p.null = true ∧ HRel c' w (h' ++ [.arr [] sz]) ∧ Adv c w h c' w (h' ++ [.arr [] sz]) := by
  obtain ⟨h1, h2⟩ := hh.move (w' := w) (h' := h') (.arr [] sz) ⟨0, 0, 0, true, 0⟩ hlen hh' (fun h => by cases h) (Nat.le_refl _) (fun _ _ _ => rfl) rfl rfl rfl
    (fun m' hm => ⟨fun _ => rfl, fun e h => by simp at h, fun i h => by simp at h, fun h => by cases h⟩)
  exact ⟨_, ⟨0, 0, 0, true, 0⟩, by simp, rfl, h1, h2⟩

theorem set_gone {h : List O} {id : Nat} : ∀ (i : Nat) (x : O), (h.set id O.gone)[i]? = some x → x.live → h[i]? = some x := by
  intro i x hx hl
  by_cases e : id = i
  · subst e
    rcases Nat.lt_or_ge id h.length with h1 | h1
    · rw [List.getElem?_set_self h1] at hx; cases hx; exact hl.elim
    · rw [List.getElem?_eq_none (by simpa using h1)] at hx; cases hx
  · rwa [List.getElem?_set_ne e] at hx

def OkX (P : Program) (c : Ctx) (w : World) (h : List O) (s : Sem Value) (v : V) (h' : List O) (X : Ctx → Prop) : Prop :=
  ∃ cv w' c', s.run P w = .ok cv w' ∧ VRel c'.ro c'.m v cv ∧ HRel c' w' h' ∧ Adv c w h c' w' h' ∧ X c'
theorem OkX.ok {P c w h s v h' X} (hk : OkX P c w h s v h' X) : Ok P c w h s v h' := by obtain ⟨a, b, d, h1, h2, h3, h4, _⟩ := hk; exact ⟨a, b, d, h1, h2, h3, h4⟩

/-- where a list lies that was appended to -/
def AppX (P : Program) (c : Ctx) (h : List O) (t : TypeId) (xv : V) (c' : Ctx) : Prop :=
  ∃ q e, c'.m h.length = some q ∧ P.underlying t = some (.slice e) ∧ (q.null = false → (q.ty = e ∧ q.base = 0) ∨ ∃ id off len s k p, xv = .sl id off len s k ∧ c.m id = some p ∧ p.null = false ∧ q.ty = p.ty ∧ q.base = p.base + off * s)

theorem sound_appendX {P : Program} {c w h} (hh : HRel c w h) {t u ty : TypeId} {sz bytes : Nat} {z : List V} {str : Bool} (hel : cElem P t = some (sz, z, bytes)) (hbp : 0 < bytes)
    (hu : (str = true ∧ P.underlying u = some .string ∧ sz = 1) ∨ (str = false ∧ ∃ e', P.underlying u = some (.slice e')))
    {xv yv : V} {xc yc : Value} (hx : VRel c.ro c.m xv xc) (hy : VRel c.ro c.m yv yc) {v h'} (hs : appendV h xv yv sz bytes str = some (v, h')) :
    OkX P c w h (Builtin.append_ #[t, u] ty #[xc, yc]) v h' (AppX P c h t xv) := by
  obtain ⟨e, i, hut, hi, his, hib, hpos, hzl, hz⟩ := cElem_spec hel
  obtain ⟨i', zz, hi', hzz, z1, z2, z3⟩ := cZero_spec hz
  rw [hi] at hi'; cases hi'
  have hzs : zz.cells.size = sz := by omega
  simp only [appendV] at hs
  split at hs
  case h_1 => cases hs
  case h_2 es he =>
    obtain ⟨news, n1, n2, n3⟩ := src_sound (P := P) hh hy he hu
    rw [← his] at n3
    have small : ∀ n, n * bytes ≤ 70368744177664 → n ≤ 70368744177664 := fun n hn => Nat.le_trans (Nat.le_mul_of_pos_right n hbp) hn
    -- a new row is made
    have grows : ∀ (a : Option Addr) (len cap : Nat) (olds : List Value) (oes : List (List V)) (h1 : List O), h1.length = h.length → (∀ (i : Nat) (x : O), h1[i]? = some x → x.live → h[i]? = some x) →
        olds.length = oes.length * sz → oes.length = len → Els c.ro Pl.none oes sz (olds[·]?) → (Builtin.firstCells i.size len (.slice a len cap)).run P w.drew = .ok olds.toArray w.drew →
        cap < len + es.length → (len + es.length) * bytes ≤ 70368744177664 → ∀ (hn : len + es.length = (oes ++ es).length),
        OkX P c w h (Builtin.append_ #[t, u] ty #[.slice a len cap, yc]) (.sl h.length 0 (len + es.length) sz none) (h1 ++ [.arr (oes ++ es) sz]) (AppX P c h t xv) := by
      intro a len cap olds oes h1 hl1 hh1 ho1 ho2 ho3 hold hcap hb hn
      have hcap' := grownCap_ge w (len + es.length) cap e
      have he' := els_append ho3 ho1 n2 n1
      obtain ⟨c', k1, k2, k3⟩ := grown_ok hh hl1 hh1 he' (by simp [ho1, n1, Nat.add_mul]) e (Builtin.zeroCells zz.cells (grownCap w (len + es.length) cap e - (len + es.length)))
      have hrun := run_append_grow_src (P := P) w t u ty e i zz hut hi hzz a len cap olds hold yc es.length news n3 hcap
        (by have := small _ hb; omega) (growslice_fits hcap (by rw [hib]; omega))
      refine ⟨_, _, c', hrun, ?_, k2, k3, _, e, k1, hut, fun _ => .inl ⟨rfl, rfl⟩⟩
      refine .sl _ _ _ _ _ _ 0 _ _ k1 rfl hcap' (.inl (by simp)) (fun _ => ?_) (fun x hx => by cases hx)
      simp only [zeroCells_length, List.length_append, ho1, n1, hzs, Nat.zero_add, Nat.zero_mul, ho2]
      rw [← Nat.add_mul, ← Nat.add_mul]
      exact Nat.mul_le_mul_right _ (by omega)
    have keep : ∀ (i : Nat) (x : O), h[i]? = some x → x.live → h[i]? = some x := fun _ _ h _ => h
    -- a list without room and without elements
    have empty : ∀ (a : Option Addr) (h1 : List O), h1.length = h.length → (∀ (i : Nat) (x : O), h1[i]? = some x → x.live → h[i]? = some x) → es.length * bytes ≤ 70368744177664 →
        OkX P c w h (Builtin.append_ #[t, u] ty #[.slice a 0 0, yc]) (.sl h.length 0 es.length sz none) (h1 ++ [.arr es sz]) (AppX P c h t xv) := by
      intro a h1 hl1 hh1 hb
      rcases Nat.eq_zero_or_pos es.length with h0 | h0
      · have hes : es = [] := List.eq_nil_of_length_eq_zero h0
        subst hes
        have hnn : news = [] := by simpa using n1
        subst hnn
        obtain ⟨c', p, k1, k2, k3, k4⟩ := nothing_ok hh hl1 hh1 sz
        refine ⟨_, w, c', run_append_nothing w t u ty e i hut hi a 0 0 (Nat.le_refl _) yc n3, ?_, k3, k4, p, e, k1, hut, fun h => by rw [k2] at h; cases h⟩
        exact .slnil _ _ _ p _ k1 k2
      · have := grows a 0 0 [] [] h1 hl1 hh1 (by simp) rfl ⟨fun i h => by simp at h, fun e h => by simp at h, fun i h => by simp at h⟩
          (by cases a with
            | none => exact run_firstCells_none w.drew i.size 0 0 0
            | some a => exact run_firstCells_some w.drew i.size 0 a 0 0 [] (by simp) (fun j v h => by simp at h)) (by omega) (by rw [Nat.zero_add]; exact hb) (by simp)
        simpa using this
    split at hs
    · split at hs <;> cases hs
      rw [hx.nils_inv]
      exact empty none h rfl keep (by assumption)
    · split at hs <;> cases hs
      obtain ⟨a, rfl⟩ := hx.zs_inv
      exact empty a h rfl keep (by assumption)
    · rename_i id off len s k
      split at hs
      case isFalse => cases hs
      case isTrue e0 =>
        subst e0
        split at hs
        case h_2 => cases hs
        case h_1 old s' hid =>
          split at hs
          case isFalse => cases hs
          case isTrue hc =>
            obtain ⟨rfl, hend, hb⟩ := hc
            cases hs
            have hlg : (h.set id O.gone).length = h.length := by simp
            have hdl : (old.drop off).length = len := by simp; omega
            rcases hx.sl_inv with ⟨p, cap, o, hp, hn, hcap, ho, hto, hk, rfl⟩ | ⟨p, a, hp, hn, rfl, rfl, rfl, rfl⟩
            · obtain ⟨cc, e', fr, hw, q1, q2, q3, hl, hones, q4, q5⟩ := arr_cells hh hid hp hn
              rcases Nat.eq_zero_or_pos cap with h0 | h0
              · -- no room at all
                have hl0 : len = 0 := by omega
                subst hl0
                subst h0
                have hd : old.drop off = [] := List.eq_nil_of_length_eq_zero hdl
                rw [hd]
                have := empty (some ⟨p.block, o, none⟩) (h.set id O.gone) hlg set_gone (by simpa using hb)
                simpa using this
              · have ho' : o = p.base + off * s' := by rcases ho with h | h; exact h; omega
                have htop := hto h0
                have holdEls : ∀ i (hi : i < (old.drop off).length) j (hj : j < (old.drop off)[i].length), ∃ x, w.cell? ⟨p.block, o + i * s' + j, none⟩ = some x ∧ VRel c.ro Pl.none (old.drop off)[i][j] x := by
                  intro i hi j hj
                  simp only [List.getElem_drop] at hj ⊢
                  obtain ⟨x, hx, hv⟩ := q4 (off + i) (by simp at hi; omega) j hj
                  refine ⟨x, ?_, hv⟩
                  rw [cell_of_heap hw, ho', ← hx]
                  congr 1
                  rw [Nat.add_mul]; omega
                have hdlen : ∀ i (hi : i < (old.drop off).length), (old.drop off)[i].length = s' := fun i hi => by simp at hi; simp [hl (off + i) (by omega)]
                have hdones : ∀ x ∈ old.drop off, V.ones x = true := fun x hx => hones x (List.mem_of_mem_drop hx)
                obtain ⟨olds, o1, o2, o3⟩ := flat_range (ro := c.ro) (m := Pl.none) (w := w) (b := p.block) (o := o) (sz := s') (es := old.drop off) hdlen hdones holdEls
                by_cases hroom : len + es.length ≤ cap
                · -- in its place
                  have hfit : o + len * s' + news.length ≤ cc.size := by
                    rw [n1, Nat.add_assoc, ← Nat.add_mul, q1, ho']
                    have := Nat.mul_le_mul_right s' hroom
                    omega
                  have hrun := run_append_room_src (P := P) w t u ty e i hut hi p.block o len cap yc es.length news n3 hroom
                    (fun j hj => by rw [cell_of_heap hw, Array.getElem?_eq_getElem (by rw [his]; omega)]; rfl)
                    (fun j hj => frozen_of_heap hw (q5 _ (by rw [his]; omega)))
                  rw [his] at hrun
                  obtain ⟨cc', g1, g2, g3⟩ := setCells_heap news w p.block (o + len * s') cc e' fr hw hfit
                  obtain ⟨r1, r2, r3, r4⟩ := setCells_rest news w p.block (o + len * s')
                  have hlive : Live h id := ⟨_, hid, trivial⟩
                  have hrop : c.ro p.block = none := by
                    obtain ⟨q, hq, _, h3⟩ := hh.obj id _ hid trivial
                    rw [hp] at hq; cases hq; exact h3 hn
                  have htot : ((old.drop off) ++ es).length = len + es.length := by simp; omega
                  obtain ⟨s1, s2⟩ := hh.move (w' := w.setCells p.block (o + len * s') news) (h' := h.set id O.gone) (.arr (old.drop off ++ es) s') ⟨p.block, o, p.top, false, p.ty⟩ hlg set_gone
                    (fun _ => ⟨fun i2 q2 hl2 hq2 hn2 he2 => by
                      obtain ⟨x, hx, hxl⟩ := hl2
                      have hx' := set_gone i2 x hx hxl
                      have := hh.inj i2 id q2 p ⟨x, hx', hxl⟩ hlive hq2 hp hn2 hn he2
                      subst this
                      rw [List.getElem?_set_self (List.getElem?_eq_some_iff.1 hid).1] at hx
                      cases hx; exact hxl, hrop, .inl ⟨id, p, hlive, hp, hn, rfl⟩⟩)
                    (by rw [r1]; exact Nat.le_refl _) (fun b hb hne => setCells_other _ _ _ _ _ (hne rfl)) r2 r3 r4 (fun m' hm => by
                      refine ⟨fun h => (by cases h), ?_, ?_, fun _ => ⟨cc', ⟨rfl, by simp only; omega, by simp only; omega, e', fr, g1, q5⟩, ?_, ?_⟩⟩
                      · intro x hx
                        rcases List.mem_append.1 hx with hx | hx
                        · exact hdones x hx
                        · exact n2.ones x hx
                      · intro i2 hi2
                        rw [List.getElem_append]; split
                        · exact hdlen _ _
                        · exact n2.len _ _
                      · simp only [htot]
                        rw [ho']
                        have := Nat.mul_le_mul_right s' hroom
                        omega
                      · intro i2 hi2 j hj
                        simp only
                        rcases Nat.lt_or_ge i2 len with h1 | h1
                        · have e1 : (old.drop off ++ es)[i2] = (old.drop off)[i2]'(by omega) := List.getElem_append_left (by omega)
                          simp only [e1] at hj ⊢
                          obtain ⟨x, hx, hv⟩ := holdEls i2 (by omega) j hj
                          refine ⟨x, ?_, hv⟩
                          rw [cell_of_heap hw] at hx
                          have hms := mul_step (s := s') h1
                          have := hdlen i2 (by omega)
                          rw [g3 _ (Array.getElem?_eq_some_iff.1 hx).1, if_neg (by omega)]
                          exact hx
                        · have e1 : (old.drop off ++ es)[i2] = es[i2 - len]'(by rw [htot] at hi2; omega) := by
                            rw [List.getElem_append_right (by omega)]; simp only [hdl]
                          simp only [e1] at hj ⊢
                          have hi3 : i2 - len < es.length := by rw [htot] at hi2; omega
                          obtain ⟨x, hx, hv⟩ := n2.rel (i2 - len) hi3 j hj
                          refine ⟨x, ?_, hv⟩
                          have hlt := (List.getElem?_eq_some_iff.1 hx).1
                          have e2 : i2 * s' = len * s' + (i2 - len) * s' := by rw [← Nat.add_mul]; congr 1; omega
                          rw [g3 _ (by omega), if_pos (by omega), ← hx]
                          congr 1; omega)
                  refine ⟨_, _, _, hrun, ?_, s1, s2, ⟨p.block, o, p.top, false, p.ty⟩, e, by simp, hut, fun _ => .inr ⟨id, off, len, s', k, p, rfl, hp, hn, rfl, ho'⟩⟩
                  exact .sl _ _ _ _ _ _ o _ ⟨p.block, o, p.top, false, p.ty⟩ (by simp) rfl hroom (.inl (by simp)) (fun _ => by simp only [Nat.zero_mul, Nat.add_zero]; rw [ho']; omega) (fun x hx => by cases hx)
                · have := grows (some ⟨p.block, o, none⟩) len cap olds (old.drop off) (h.set id O.gone) hlg set_gone o1 hdl o2
                    (run_firstCells_some w.drew i.size len ⟨p.block, o, none⟩ len cap olds (by rw [o1, hdl, his]) (fun j v hj => by rw [Addr.add_mid]; exact o3 j v hj)) (by omega) hb (by simp; omega)
                  exact this
            · -- at no place
              have hold : old = [] := by
                obtain ⟨q, hq, ⟨hnul, _⟩, _⟩ := hh.obj id _ hid trivial
                rw [hp] at hq; cases hq
                exact hnul hn
              subst hold
              have := empty a (h.set id O.gone) hlg set_gone (by simpa using hb)
              simpa using this
    · cases hs

theorem sound_append {P : Program} {c w h} (hh : HRel c w h) {t u ty : TypeId} {sz bytes : Nat} {z : List V} {str : Bool} (hel : cElem P t = some (sz, z, bytes)) (hbp : 0 < bytes)
    (hu : (str = true ∧ P.underlying u = some .string ∧ sz = 1) ∨ (str = false ∧ ∃ e', P.underlying u = some (.slice e')))
    {xv yv : V} {xc yc : Value} (hx : VRel c.ro c.m xv xc) (hy : VRel c.ro c.m yv yc) {v h'} (hs : appendV h xv yv sz bytes str = some (v, h')) :
    Ok P c w h (Builtin.append_ #[t, u] ty #[xc, yc]) v h' := (sound_appendX hh hel hbp hu hx hy hs).ok

end Sx
