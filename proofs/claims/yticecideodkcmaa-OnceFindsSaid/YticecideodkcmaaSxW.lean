/-
  Sx, part W: knowing less; an own slice that is never written again.
-/
import Derived.Test.YticecideodkcmaaSxU
namespace Sx
open Go
set_option linter.unusedSimpArgs false
set_option linter.unusedVariables false

def VLe (a b : V) : Prop := ∀ ro m c, VRel ro m a c → VRel ro m b c

theorem VLe.refl (a) : VLe a a := fun _ _ _ h => h
theorem VLe.any (a) : VLe a .any := fun _ _ _ _ => .any ..
theorem VLe.nils (sz) : VLe .nils (.vs [] sz) := fun _ _ _ h => by cases h; exact .vsnil ..
theorem VLe.zs (sz) : VLe .zs (.vs [] sz) := fun _ _ _ h => by cases h; exact .vsnil ..
theorem VLe.nilzs : VLe .nils .zs := fun _ _ _ h => by cases h; exact .zs ..
theorem VLe.trans {a b c} (h : VLe a b) (k : VLe b c) : VLe a c := fun ro m x hx => k ro m x (h ro m x hx)

/-- pointwise -/
def VsLe : List V → List V → Prop
  | [], [] => True
  | a :: l, b :: k => VLe a b ∧ VsLe l k
  | _, _ => False

theorem VsLe.refl : ∀ l, VsLe l l
  | [] => trivial
  | a :: l => ⟨VLe.refl a, VsLe.refl l⟩

theorem VsLe.len : ∀ {a b : List V}, VsLe a b → a.length = b.length
  | [], [], _ => rfl
  | _ :: a, _ :: b, h => by simp [h.2.len]

theorem VsLe.get : ∀ {a b : List V}, VsLe a b → ∀ i (h : i < a.length) (h' : i < b.length), VLe a[i] b[i]
  | _ :: a, _ :: b, h, 0, _, _ => h.1
  | _ :: a, _ :: b, h, i + 1, h1, h2 => h.2.get i (by simpa using h1) (by simpa using h2)

theorem VsLe.append : ∀ {a b c d : List V}, VsLe a b → VsLe c d → VsLe (a ++ c) (b ++ d)
  | [], [], _, _, _, k => k
  | _ :: a, _ :: b, _, _, h, k => ⟨h.1, h.2.append k⟩

theorem VLe.agg {a b : List V} (h : VsLe a b) : VLe (.agg a) (.agg b) := by
  intro ro m c hc
  cases hc with | agg _ _ cs hl hv =>
  exact .agg _ _ _ (h.len ▸ hl) fun i h1 h2 => h.get i (by rw [h.len]; exact h1) h1 ro m _ (hv i (by rw [h.len]; exact h1) h2)

theorem VLe.tup {a b : List V} (h : VsLe a b) : VLe (.tup a) (.tup b) := by
  intro ro m c hc
  cases hc with | tup _ _ cs hl hv =>
  exact .tup _ _ _ (h.len ▸ hl) fun i h1 h2 => h.get i (by rw [h.len]; exact h1) h1 ro m _ (hv i (by rw [h.len]; exact h1) h2)

theorem VsLe.rels {ro m} {a b : List V} (h : VsLe a b) {cs} (hr : VRels ro m a cs) : VRels ro m b cs :=
  ⟨h.len ▸ hr.1, fun i h1 h2 => h.get i (by rw [h.len]; exact h1) h1 ro m _ (hr.2 i (by rw [h.len]; exact h1) h2)⟩

def OLe : O → O → Prop
  | .row a, .row b => VsLe a b
  | _, .gone => True
  | a, b => a = b

theorem OLe.refl (o) : OLe o o := by cases o <;> first | exact VsLe.refl _ | exact trivial | rfl

def HLe : List O → List O → Prop
  | [], [] => True
  | a :: l, b :: k => OLe a b ∧ HLe l k
  | _, _ => False

theorem HLe.refl : ∀ h, HLe h h
  | [] => trivial
  | a :: l => ⟨OLe.refl a, HLe.refl l⟩
theorem HLe.len : ∀ {a b : List O}, HLe a b → a.length = b.length
  | [], [], _ => rfl
  | _ :: a, _ :: b, h => by simp [h.2.len]
theorem HLe.get : ∀ {a b : List O}, HLe a b → ∀ {i : Nat} {o : O}, b[i]? = some o → ∃ o', a[i]? = some o' ∧ OLe o' o
  | x :: a, y :: b, h, 0, o, ho => by simp at ho; subst ho; exact ⟨x, rfl, h.1⟩
  | _ :: a, _ :: b, h, i + 1, o, ho => by simpa using h.2.get (by simpa using ho)
  | [], [], h, i, o, ho => by simp at ho

theorem OLe.live {a b : O} (h : OLe a b) : b.live → a.live := by
  cases a <;> cases b <;> simp_all [OLe, O.live]

theorem HLe.live {a b : List O} (h : HLe a b) {i} (hl : Live b i) : Live a i := by
  obtain ⟨o, ho, hol⟩ := hl
  obtain ⟨o', h1, h2⟩ := h.get ho
  exact ⟨o', h1, h2.live hol⟩

theorem OLe.rel {a b : O} (h : OLe a b) {ro m w p} (hr : ORel ro m w p a) : ORel ro m w p b := by
  cases a <;> cases b <;> simp only [OLe] at h <;> try (first | (cases h; exact hr) | (cases h; done) | exact trivial)
  case row.row x y =>
    obtain ⟨cc, h1, h2, h3⟩ := hr
    exact ⟨cc, h1, by rw [← h.len]; exact h2, fun i hi h' => h.get i (by rw [h.len]; exact hi) hi _ _ _ (h3 i (by rw [h.len]; exact hi) h')⟩

theorem HRel.le {c w h h'} (hh : HRel c w h) (hl : HLe h h') : HRel c w h' ∧ Adv c w h c w h' := by
  refine ⟨⟨hh.ro, fun i p hm => hl.len ▸ hh.dom i p hm, fun i o ho hol => ?_, fun i j p q h1 h2 => hh.inj i j p q (hl.live h1) (hl.live h2)⟩, ?_⟩
  · obtain ⟨o', h1, h2⟩ := hl.get ho
    obtain ⟨p, h3, h4, h5⟩ := hh.obj i o' h1 (h2.live hol)
    exact ⟨p, h3, h2.rel h4, h5⟩
  · exact ⟨fun _ _ h => h, fun _ _ h => h, by rw [hl.len]; exact Nat.le_refl _, fun i _ h => hl.live h, Nat.le_refl _, fun _ _ _ => rfl, fun _ _ h _ => .inl h, fun _ _ h => .inl h, rfl, rfl, rfl⟩

theorem Run.le {E : Env} {k t h t' h'} (ht : ∀ i, VLe (t i) (t' i)) (hl : HLe h h') (hr : Run E ⟨k, t', h'⟩) : Run E ⟨k, t, h⟩ := by
  intro c0 w0 h0 c w a hadv hh htr hd b items cs hb hbk hk
  simp only at hadv hh htr hk
  obtain ⟨g1, g2⟩ := hh.le hl
  exact hr c0 w0 h0 c w a (hadv.trans h0 g2) g1 ⟨htr.size, fun i => ht i _ _ _ (htr.rel i)⟩ hd b items cs hb hbk hk

theorem Run.leH {E : Env} {k t h} (h' : List O) (hl : HLe h h') (hr : Run E ⟨k, t, h'⟩) : Run E ⟨k, t, h⟩ := Run.le (fun i => VLe.refl _) hl hr
theorem Run.leT {E : Env} {k t h} (i : Nat) (v : V) (hv : VLe (t i) v) (hr : Run E ⟨k, upd t i v, h⟩) : Run E ⟨k, t, h⟩ :=
  Run.le (fun j => by unfold upd; split; · rename_i e; rw [e]; exact hv
                      · exact VLe.refl _) (HLe.refl h) hr

theorem Tri.args {P f as as' H Post} (h : VsLe as as') (ht : Tri P f as' H Post) : Tri P f as H Post :=
  ⟨ht.1, fun c w cargs hh ha => ht.2 c w cargs hh (h.rels ha)⟩

theorem Tri.le {P f as H Post Post'} (ht : Tri P f as H Post) (hp : ∀ v h, Post v h → ∃ v', VLe v v' ∧ Post' v' h) : Tri P f as H Post' := by
  refine ⟨ht.1, fun c w cargs hh ha cs => ?_⟩
  obtain ⟨e, w2, fr, hR, hrest⟩ := ht.2 c w cargs hh ha cs
  refine ⟨e, w2, fr, ?_, hrest⟩
  obtain ⟨v, H', c', cv, hQ, he, hv, hh', hadv⟩ := hR
  obtain ⟨v', h1, h2⟩ := hp v H' hQ
  exact ⟨v', H', c', cv, h2, he, h1 _ _ _ hv, hh', hadv⟩

/-! ### freezing -/

mutual
def V.frz (id : Nat) (es : List (List V)) (sz : Nat) : V → V
  | .sl i off len s k => if i = id ∧ s = sz ∧ off + len ≤ es.length then .vs ((es.drop off).take len) sz else .sl i off len s k
  | .agg l => .agg (V.frzL id es sz l)
  | .tup l => .tup (V.frzL id es sz l)
  | v => v
def V.frzL (id : Nat) (es : List (List V)) (sz : Nat) : List V → List V
  | [] => []
  | v :: l => V.frz id es sz v :: V.frzL id es sz l
end

theorem V.frzL_map (id es sz) : ∀ l, V.frzL id es sz l = l.map (V.frz id es sz)
  | [] => rfl
  | v :: l => by simp [V.frzL, V.frzL_map id es sz l]

def O.frz (id : Nat) (es : List (List V)) (sz : Nat) : O → O
  | .row cells => .row (cells.map (V.frz id es sz))
  | o => o

def Ctx.hold (c : Ctx) (b : Nat) (cs : Array Value) : Ctx := ⟨c.m, fun b' => if b' = b then some cs else c.ro b'⟩

theorem frz_rel {c : Ctx} {w : World} {id : Nat} {es : List (List V)} {sz : Nat} {p : Place} {ro' : Ro} (hm : c.m id = some p) (hro : ∀ b cs, c.ro b = some cs → ro' b = some cs)
    (hsz : ∀ i (h : i < es.length), es[i].length = sz) (h1 : ∀ e ∈ es, V.ones e = true) (hnull : p.null = true → es = [])
    (hc : p.null = false → ∃ cc, ro' p.block = some cc ∧ ∀ i (h : i < es.length) j (h' : j < es[i].length), ∃ x, cc[p.base + i * sz + j]? = some x ∧ VRel c.ro Pl.none es[i][j] x) :
    ∀ {v : V} {m : Pl} {cv}, VRel c.ro m v cv → (∀ i q, m i = some q → c.m i = some q) → VRel ro' c.m (v.frz id es sz) cv := by
  intro v m cv hv
  induction hv with
  | sl m i off len s cap o k q h hn hl ho ht hk =>
    intro hmm
    simp only [V.frz]
    split
    case isFalse => exact .sl _ _ _ _ _ _ o _ q (hmm _ _ h) hn hl ho ht hk
    case isTrue hcond =>
      obtain ⟨rfl, rfl, hle⟩ := hcond
      have : q = p := by have := hmm _ _ h; rw [hm] at this; exact (Option.some.inj this).symm
      subst this
      obtain ⟨cc, hb, hcell⟩ := hc hn
      have hlen : ((es.drop off).take len).length = len := by simp; omega
      have key := VRel.vs (ro := ro') (m := c.m) ((es.drop off).take len) s q.block o cap cc (fun i j => cc.getD (o + i * s + j) undef) hb (by rw [hlen]; exact hl)
        (fun i hi => by simp only [List.getElem_take, List.getElem_drop]; exact hsz _ _)
        (fun e he => h1 e (List.mem_of_mem_drop (List.mem_of_mem_take he))) ?_ ?_
      · rw [hlen] at key; exact key
      · intro i j hi hj
        rw [hlen] at hi
        have hoff : o = q.base + off * s := by rcases ho with h | h; exact h; omega
        obtain ⟨x, hx, _⟩ := hcell (off + i) (by omega) j (by rw [hsz]; exact hj)
        have e : o + i * s + j = q.base + (off + i) * s + j := by rw [hoff, Nat.add_mul]; omega
        rw [e, Array.getD_eq_getD_getElem?, hx]; rfl
      · intro i hi j hj
        rw [hlen] at hi
        have hoff : o = q.base + off * s := by rcases ho with h | h; exact h; omega
        simp only [List.getElem_take, List.getElem_drop] at hj ⊢
        obtain ⟨x, hx, hv⟩ := hcell (off + i) (by omega) j hj
        have e : o + i * s + j = q.base + (off + i) * s + j := by rw [hoff, Nat.add_mul]; omega
        rw [e, Array.getD_eq_getD_getElem?, hx]
        exact hv.mono hro (fun _ _ h => h)
  | slnil m i s q a h hn =>
    intro hmm
    simp only [V.frz]
    split
    case isFalse => exact .slnil _ _ _ q a (hmm _ _ h) hn
    case isTrue hcond => simp only [List.drop_zero, List.take_zero]; exact .vsnil ..
  | agg m cells cs hl hv ih =>
    intro hmm
    simp only [V.frz, V.frzL_map]
    exact .agg _ _ cs (by simpa using hl) fun i h h' => by simpa using ih i (by simpa using h) h' hmm
  | tup m cells cs hl hv ih =>
    intro hmm
    simp only [V.frz, V.frzL_map]
    exact .tup _ _ cs (by simpa using hl) fun i h h' => by simpa using ih i (by simpa using h) h' hmm
  | bool => intro _; exact .bool ..
  | int => intro _; exact .int ..
  | str => intro _; exact .str ..
  | nilp => intro _; exact .nilp ..
  | nils => intro _; exact .nils ..
  | nilf => intro _; exact .nilf ..
  | nilm => intro _; exact .nilm ..
  | zs => intro _; exact .zs ..
  | vsnil => intro _; exact .vsnil ..
  | any => intro _; exact .any ..
  | ptr m i off q h hn => intro hmm; exact .ptr _ _ _ q (hmm _ _ h) hn
  | eptr m i k s off q h hn => intro hmm; exact .eptr _ _ _ _ _ q (hmm _ _ h) hn
  | mp m i q h hn => intro hmm; exact .mp _ _ q (hmm _ _ h) hn
  | rptr m cells off b o cs f hb hc hv ih => intro hmm; exact (VRel.rptr m cells off b o cs f hb hc hv).mono hro hmm
  | vs m elems s b o cap cs f hb hl hs h1' hc' hv ih => intro hmm; exact (VRel.vs m elems s b o cap cs f hb hl hs h1' hc' hv).mono hro hmm
  | fn m f cap cs hl hv ih => intro hmm; exact (VRel.fn m f cap cs hl hv).mono hro hmm

theorem Run.freeze {E : Env} {k t h} (id : Nat) {es : List (List V)} {sz : Nat} (ho : h[id]? = some (.arr es sz)) (hr : Run E ⟨k, fun i => (t i).frz id es sz, (h.map (O.frz id es sz)).set id .gone⟩) : Run E ⟨k, t, h⟩ := by
  intro c0 w0 h0 c w a hadv hh htr hd b items cs hb hbk hk
  simp only at hadv hh htr hk
  obtain ⟨p, hm, horel, hnone⟩ := hh.obj id _ ho trivial
  obtain ⟨hnull, h1, hsz, hcell⟩ := horel
  have hlt : id < h.length := (List.getElem?_eq_some_iff.1 ho).1
  -- the new context
  have hctx : ∃ ro' : Ro, (∀ b cs, c.ro b = some cs → ro' b = some cs) ∧ (∀ b cs, ro' b = some cs → c.ro b = some cs ∨ (p.null = false ∧ b = p.block ∧ ∃ elem fr, w.heap[b]? = some (.cells cs elem fr))) ∧
      (p.null = false → ∃ cc, ro' p.block = some cc ∧ ∀ i (h : i < es.length) j (h' : j < es[i].length), ∃ x, cc[p.base + i * sz + j]? = some x ∧ VRel c.ro Pl.none es[i][j] x) := by
    cases hn : p.null with
    | true => exact ⟨c.ro, fun _ _ h => h, fun _ _ h => .inl h, fun h => by cases h⟩
    | false =>
      obtain ⟨cc, ⟨_, _, _, elem, fr, hw, _⟩, _, hx⟩ := hcell hn
      refine ⟨fun b => if b = p.block then some cc else c.ro b, fun b cs hb => ?_, fun b cs hb => ?_, fun _ => ⟨cc, by simp, hx⟩⟩
      · by_cases e : b = p.block
        · subst e; rw [hnone hn] at hb; cases hb
        · simp [e, hb]
      · by_cases e : b = p.block
        · subst e; simp only [if_true, Option.some.injEq] at hb; subst hb; exact .inr ⟨rfl, rfl, elem, fr, hw⟩
        · simp only [if_neg e] at hb; exact .inl hb
  obtain ⟨ro', hro, hro2, hc⟩ := hctx
  have hfrz := fun {v : V} {m : Pl} {cv} => frz_rel (c := c) (w := w) (id := id) (es := es) (sz := sz) (p := p) (ro' := ro') hm hro hsz h1 hnull hc (v := v) (m := m) (cv := cv)
  have hget : ∀ (i : Nat) (o : O), ((h.map (O.frz id es sz)).set id .gone)[i]? = some o → o.live → i ≠ id ∧ ∃ o', h[i]? = some o' ∧ o = o'.frz id es sz := by
    intro i o hi hl
    rw [List.getElem?_set] at hi
    by_cases e : id = i
    · subst e
      simp only [if_true, List.length_map, hlt] at hi
      cases hi
      exact hl.elim
    · rw [if_neg e] at hi
      simp only [List.getElem?_map, Option.map_eq_some_iff] at hi
      obtain ⟨o', h2, h3⟩ := hi
      exact ⟨fun h => e h.symm, o', h2, h3.symm⟩
  have hfl : ∀ o : O, (o.frz id es sz).live → o.live := fun o => by cases o <;> exact fun h => h
  have hlive : ∀ i, Live ((h.map (O.frz id es sz)).set id .gone) i → i ≠ id ∧ Live h i := by
    rintro i ⟨o, hi, hl⟩
    obtain ⟨g1, o', g2, rfl⟩ := hget i o hi hl
    exact ⟨g1, o', g2, hfl _ hl⟩
  have hnew : HRel ⟨c.m, ro'⟩ w ((h.map (O.frz id es sz)).set id .gone) := by
    refine ⟨fun b cs hb => ?_, fun i q hq => by simpa using hh.dom i q hq, fun i o hi hl => ?_, fun i j q r hi hj => hh.inj i j q r (hlive i hi).2 (hlive j hj).2⟩
    · rcases hro2 b cs hb with g | ⟨_, rfl, g⟩
      · exact hh.ro b cs g
      · exact g
    · obtain ⟨g1, o', g2, rfl⟩ := hget i o hi hl
      obtain ⟨q, g3, g4, g5⟩ := hh.obj i o' g2 (hfl _ hl)
      refine ⟨q, g3, ?_, fun hn => ?_⟩
      · cases o' with
        | row cells =>
          obtain ⟨cc, k1, k2, k3⟩ := g4
          exact ⟨cc, k1, by simpa using k2, fun x hx hx' => by simpa using hfrz (k3 x (by simpa using hx) hx') (fun _ _ h => h)⟩
        | arr es' sz' => exact ORel.mono (o := .arr es' sz') hro (fun _ _ h => h) (fun _ => rfl) g4
        | map l => exact ORel.mono (o := .map l) hro (fun _ _ h => h) (fun _ => rfl) g4
        | ty id' t n => exact g4
        | bad => exact g4.elim
        | gone => exact g4
      · cases hq : ro' q.block with
        | none => exact hq
        | some cs' =>
          rcases hro2 _ _ hq with k1 | ⟨k1, k2, _⟩
          · rw [g5 hn] at k1; cases k1
          · exact absurd (hh.inj i id q p ⟨o', g2, hfl _ hl⟩ ⟨_, ho, trivial⟩ g3 hm hn k1 k2) g1
  have hadv' : Adv c w h ⟨c.m, ro'⟩ w ((h.map (O.frz id es sz)).set id .gone) := by
    refine ⟨fun _ _ h => h, hro, by simp, fun i _ hl => (hlive i hl).2, Nat.le_refl _, fun _ _ _ => rfl, fun _ _ h _ => .inl h, fun b cs hb => ?_, rfl, rfl, rfl⟩
    rcases hro2 b cs hb with g | ⟨g1, rfl, _⟩
    · exact .inl g
    · exact .inr (.inl ⟨id, p, ⟨_, ho, trivial⟩, hm, g1, rfl⟩)
  exact hr c0 w0 h0 ⟨c.m, ro'⟩ w a (hadv.trans h0 hadv') hnew ⟨htr.size, fun i => hfrz (htr.rel i) (fun _ _ h => h)⟩ hd b items cs hb hbk hk

end Sx
