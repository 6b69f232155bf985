/-
  Texts of this claim, laid together by a program (wip/tools/shrink.py).
-/
import Derived.Test.YthphkcpbglhabaaGreatDoorAd2
import Derived.RangeFuncIn
import Derived.RangeFuncLeaves
import Derived.Lib.Overlaps
import Derived.Lib.Bytealg
import Derived.Below
namespace Sx
open Go
set_option linter.unusedSimpArgs false
set_option linter.unusedVariables false
def VLe (a b : V) : Prop := ∀ ro m c, VRel ro m a c → VRel ro m b c
theorem VLe.refl (a) : VLe a a := fun _ _ _ h => h
theorem VLe.any (a) : VLe a .any := fun _ _ _ _ => .any ..
theorem VLe.nils (sz) : VLe .nils (.vs [] sz) := fun _ _ _ h => by cases h; exact .vsnil ..
def VsLe : List V → List V → Prop
 | [], [] => True
 | a :: l, b :: k => VLe a b ∧ VsLe l k
 | _, _ => False
theorem VsLe.refl : ∀ l, VsLe l l
 | [] => trivial
 | a :: l => ⟨VLe.refl a, VsLe.refl l⟩
theorem VsLe.len : ∀ {a b : List V}, VsLe a b → a.length = b.length
 | [], [], _ => rfl
 | _ :: a, _ :: b, h => by simp [h.2.len]
theorem VsLe.get : ∀ {a b : List V}, VsLe a b → ∀ i (h : i < a.length) (h' : i < b.length), VLe a[i] b[i]
 | _ :: a, _ :: b, h, 0, _, _ => h.1
 | _ :: a, _ :: b, h, i + 1, h1, h2 => h.2.get i (by simpa using h1) (by simpa using h2)
theorem VLe.agg {a b : List V} (h : VsLe a b) : VLe (.agg a) (.agg b) := by
 intro ro m c hc
 cases hc with | agg _ _ cs hl hv =>
 exact .agg _ _ _ (h.len ▸ hl) fun i h1 h2 => h.get i (by rw [h.len]; exact h1) h1 ro m _ (hv i (by rw [h.len]; exact h1) h2)
theorem VsLe.rels {ro m} {a b : List V} (h : VsLe a b) {cs} (hr : VRels ro m a cs) : VRels ro m b cs :=
 ⟨h.len ▸ hr.1, fun i h1 h2 => h.get i (by rw [h.len]; exact h1) h1 ro m _ (hr.2 i (by rw [h.len]; exact h1) h2)⟩
def OLe : O → O → Prop
 | .row a, .row b => VsLe a b
 | _, .gone => True
 | a, b => a = b
theorem OLe.refl (o) : OLe o o := by cases o <;> first | exact VsLe.refl _ | exact trivial | rfl
def HLe : List O → List O → Prop
 | [], [] => True
 | a :: l, b :: k => OLe a b ∧ HLe l k
 | _, _ => False
theorem HLe.refl : ∀ h, HLe h h
 | [] => trivial
 | a :: l => ⟨OLe.refl a, HLe.refl l⟩
theorem HLe.len : ∀ {a b : List O}, HLe a b → a.length = b.length
 | [], [], _ => rfl
 | _ :: a, _ :: b, h => by simp [h.2.len]
theorem HLe.get : ∀ {a b : List O}, HLe a b → ∀ {i : Nat} {o : O}, b[i]? = some o → ∃ o', a[i]? = some o' ∧ OLe o' o
 | x :: a, y :: b, h, 0, o, ho => by simp at ho; subst ho; exact ⟨x, rfl, h.1⟩
 | _ :: a, _ :: b, h, i + 1, o, ho => by simpa using h.2.get (by simpa using ho)
 | [], [], h, i, o, ho => by simp at ho
theorem OLe.live {a b : O} (h : OLe a b) : b.live → a.live := by
 cases a <;> cases b <;> simp_all [OLe, O.live]
theorem HLe.live {a b : List O} (h : HLe a b) {i} (hl : Live b i) : Live a i := by
 obtain ⟨o, ho, hol⟩ := hl
 obtain ⟨o', h1, h2⟩ := h.get ho
 exact ⟨o', h1, h2.live hol⟩
theorem OLe.rel {a b : O} (h : OLe a b) {ro m w p} (hr : ORel ro m w p a) : ORel ro m w p b := by
 cases a <;> cases b <;> simp only [OLe] at h <;> try (first | (cases h; exact hr) | (cases h; done) | exact trivial)
 case row.row x y =>
  obtain ⟨cc, h1, h2, h3⟩ := hr
  exact ⟨cc, h1, by rw [← h.len]; exact h2, fun i hi h' => h.get i (by rw [h.len]; exact hi) hi _ _ _ (h3 i (by rw [h.len]; exact hi) h')⟩
theorem HRel.le {c w h h'} (hh : HRel c w h) (hl : HLe h h') : HRel c w h' ∧ Adv c w h c w h' := by
 refine ⟨⟨hh.ro, fun i p hm => hl.len ▸ hh.dom i p hm, fun i o ho hol => ?_, fun i j p q h1 h2 => hh.inj i j p q (hl.live h1) (hl.live h2), hh.glob⟩, ?_⟩
 ·obtain ⟨o', h1, h2⟩ := hl.get ho
  obtain ⟨p, h3, h4, h5⟩ := hh.obj i o' h1 (h2.live hol)
  exact ⟨p, h3, h2.rel h4, h5⟩
 ·exact ⟨fun _ _ h => h, fun _ _ h => h, by rw [hl.len]; exact Nat.le_refl _, fun i _ h => hl.live h, Nat.le_refl _, fun _ _ _ => rfl, fun _ _ h _ => .inl h, fun _ _ h => .inl h, rfl, rfl, rfl⟩
theorem Run.le {E : Env} {k t h t' h'} (ht : ∀ i, VLe (t i) (t' i)) (hl : HLe h h') (hr : Run E ⟨k, t', h'⟩) : Run E ⟨k, t, h⟩ := by
 intro c0 w0 h0 c w a hadv hh htr hd b items cs hb hbk hk
 simp only at hadv hh htr hk
 obtain ⟨g1, g2⟩ := hh.le hl
 exact hr c0 w0 h0 c w a (hadv.trans h0 g2) g1 ⟨htr.size, fun i => ht i _ _ _ (htr.rel i)⟩ hd b items cs hb hbk hk
theorem Tri.args {P f as as' H Post} (h : VsLe as as') (ht : Tri P f as' H Post) : Tri P f as H Post :=
 ⟨ht.1, fun c w cargs hh ha => ht.2 c w cargs hh (h.rels ha)⟩
mutual
def V.frz (id : Nat) (es : List (List V)) (sz : Nat) : V → V
 | .sl i off len s k => if i = id ∧ s = sz ∧ off + len ≤ es.length then .vs ((es.drop off).take len) sz else .sl i off len s k
 | .agg l => .agg (V.frzL id es sz l)
 | .tup l => .tup (V.frzL id es sz l)
 | v => v
def V.frzL (id : Nat) (es : List (List V)) (sz : Nat) : List V → List V
 | [] => []
 | v :: l => V.frz id es sz v :: V.frzL id es sz l
end
theorem V.frzL_map (id es sz) : ∀ l, V.frzL id es sz l = l.map (V.frz id es sz)
 | [] => rfl
 | v :: l => by simp [V.frzL, V.frzL_map id es sz l]
def O.frz (id : Nat) (es : List (List V)) (sz : Nat) : O → O
 | .row cells => .row (cells.map (V.frz id es sz))
 | o => o
theorem frz_rel {c : Ctx} {w : World} {id : Nat} {es : List (List V)} {sz : Nat} {p : Place} {ro' : Ro} (hm : c.m id = some p) (hro : ∀ b cs, c.ro b = some cs → ro' b = some cs)
  (hsz : ∀ i (h : i < es.length), es[i].length = sz) (h1 : ∀ e ∈ es, V.ones e = true) (hnull : p.null = true → es = [])
  (hc : p.null = false → ∃ cc, ro' p.block = some cc ∧ ∀ i (h : i < es.length) j (h' : j < es[i].length), ∃ x, cc[p.base + i * sz + j]? = some x ∧ VRel c.ro Pl.none es[i][j] x) :
  ∀ {v : V} {m : Pl} {cv}, VRel c.ro m v cv → (∀ i q, m i = some q → c.m i = some q) → VRel ro' c.m (v.frz id es sz) cv := by
 intro v m cv hv
 induction hv with
 | sl m i off len s cap o k q h hn hl ho ht hk =>
  intro hmm
  simp only [V.frz]
  split
  case isFalse => exact .sl _ _ _ _ _ _ o _ q (hmm _ _ h) hn hl ho ht hk
  case isTrue hcond =>
   obtain ⟨rfl, rfl, hle⟩ := hcond
   have : q = p := by have := hmm _ _ h; rw [hm] at this; exact (Option.some.inj this).symm
   subst this
   obtain ⟨cc, hb, hcell⟩ := hc hn
   have hlen : ((es.drop off).take len).length = len := by simp; omega
   have key := VRel.vs (ro := ro') (m := c.m) ((es.drop off).take len) s q.block o cap cc (fun i j => cc.getD (o + i * s + j) undef) hb (by rw [hlen]; exact hl)
    (fun i hi => by simp only [List.getElem_take, List.getElem_drop]; exact hsz _ _)
    (fun e he => h1 e (List.mem_of_mem_drop (List.mem_of_mem_take he))) ?_ ?_
   ·rw [hlen] at key; exact key
   ·intro i j hi hj
    rw [hlen] at hi
    have hoff : o = q.base + off * s := by rcases ho with h | h; exact h; omega
    obtain ⟨x, hx, _⟩ := hcell (off + i) (by omega) j (by rw [hsz]; exact hj)
    have e : o + i * s + j = q.base + (off + i) * s + j := by rw [hoff, Nat.add_mul]; omega
    rw [e, Array.getD_eq_getD_getElem?, hx]; rfl
   ·intro i hi j hj
    rw [hlen] at hi
    have hoff : o = q.base + off * s := by rcases ho with h | h; exact h; omega
    simp only [List.getElem_take, List.getElem_drop] at hj ⊢
    obtain ⟨x, hx, hv⟩ := hcell (off + i) (by omega) j hj
    have e : o + i * s + j = q.base + (off + i) * s + j := by rw [hoff, Nat.add_mul]; omega
    rw [e, Array.getD_eq_getD_getElem?, hx]
    exact hv.mono hro (fun _ _ h => h)
 | slnil m i s q a h hn =>
  intro hmm
  simp only [V.frz]
  split
  case isFalse => exact .slnil _ _ _ q a (hmm _ _ h) hn
  case isTrue hcond => simp only [List.drop_zero, List.take_zero]; exact .vsnil ..
 | agg m cells cs hl hv ih =>
  intro hmm
  simp only [V.frz, V.frzL_map]
  exact .agg _ _ cs (by simpa using hl) fun i h h' => by simpa using ih i (by simpa using h) h' hmm
 | tup m cells cs hl hv ih =>
  intro hmm
  simp only [V.frz, V.frzL_map]
  exact .tup _ _ cs (by simpa using hl) fun i h h' => by simpa using ih i (by simpa using h) h' hmm
 | bool => intro _; exact .bool ..
 | int => intro _; exact .int ..
 | str => intro _; exact .str ..
 | nilp => intro _; exact .nilp ..
 | nils => intro _; exact .nils ..
 | nilf => intro _; exact .nilf ..
 | nilm => intro _; exact .nilm ..
 | zs => intro _; exact .zs ..
 | vsnil => intro _; exact .vsnil ..
 | any => intro _; exact .any ..
 | nili => intro _; exact .nili ..
 | ifc m t i q h hn => intro hmm; exact .ifc _ _ _ q (hmm _ _ h) hn
 | mth m t i n q h hn => intro hmm; exact .mth _ _ _ _ q (hmm _ _ h) hn
 | bnd m f i q h hn => intro hmm; exact .bnd _ _ _ q (hmm _ _ h) hn
 | ptr m i off q h hn => intro hmm; exact .ptr _ _ _ q (hmm _ _ h) hn
 | eptr m i k s off q h hn => intro hmm; exact .eptr _ _ _ _ _ q (hmm _ _ h) hn
 | mp m i q h hn => intro hmm; exact .mp _ _ q (hmm _ _ h) hn
 | yld m i q h hn => intro hmm; exact .yld _ _ q (hmm _ _ h) hn
 | rptr m cells off b o cs f hb hc hv ih => intro hmm; exact (VRel.rptr m cells off b o cs f hb hc hv).mono hro hmm
 | vs m elems s b o cap cs f hb hl hs h1' hc' hv ih => intro hmm; exact (VRel.vs m elems s b o cap cs f hb hl hs h1' hc' hv).mono hro hmm
 | fn m f cap cs hl hv ih => intro hmm; exact (VRel.fn m f cap cs hl hv).mono hro hmm
theorem Run.frzG {E : Env} {k t h} (id : Nat) {es : List (List V)} {sz : Nat} (ho : h[id]? = some (.arr es sz)) (h' : List O) (hlen : h'.length = h.length)
  (hget : ∀ (i : Nat) (o : O), h'[i]? = some o → o.live → i ≠ id ∧ ∃ o', h[i]? = some o' ∧ (o = o' ∨ o = o'.frz id es sz)) (hr : Run E ⟨k, fun i => (t i).frz id es sz, h'⟩) : Run E ⟨k, t, h⟩ := by
 intro c0 w0 h0 c w a hadv hh htr hd b items cs hb hbk hk
 simp only at hadv hh htr hk
 obtain ⟨p, hm, horel, hnone⟩ := hh.obj id _ ho trivial
 obtain ⟨hnull, h1, hsz, hcell⟩ := horel
 have hlt : id < h.length := (List.getElem?_eq_some_iff.1 ho).1
 -- the new context
 have hctx : ∃ ro' : Ro, (∀ b cs, c.ro b = some cs → ro' b = some cs) ∧ (∀ b cs, ro' b = some cs → c.ro b = some cs ∨ (p.null = false ∧ b = p.block ∧ ∃ elem fr, w.heap[b]? = some (.cells cs elem fr))) ∧
   (p.null = false → ∃ cc, ro' p.block = some cc ∧ ∀ i (h : i < es.length) j (h' : j < es[i].length), ∃ x, cc[p.base + i * sz + j]? = some x ∧ VRel c.ro Pl.none es[i][j] x) := by
  cases hn : p.null with
  | true => exact ⟨c.ro, fun _ _ h => h, fun _ _ h => .inl h, fun h => by cases h⟩
  | false =>
   obtain ⟨cc, ⟨_, _, _, elem, fr, hw, _⟩, _, hx⟩ := hcell hn
   refine ⟨fun b => if b = p.block then some cc else c.ro b, fun b cs hb => ?_, fun b cs hb => ?_, fun _ => ⟨cc, by simp, hx⟩⟩
   ·by_cases e : b = p.block
    ·subst e; rw [hnone hn] at hb; cases hb
    ·simp [e, hb]
   ·by_cases e : b = p.block
    ·subst e; simp only [if_true, Option.some.injEq] at hb; subst hb; exact .inr ⟨rfl, rfl, elem, fr, hw⟩
    ·simp only [if_neg e] at hb; exact .inl hb
 obtain ⟨ro', hro, hro2, hc⟩ := hctx
 have hfrz := fun {v : V} {m : Pl} {cv} => frz_rel (c := c) (w := w) (id := id) (es := es) (sz := sz) (p := p) (ro' := ro') hm hro hsz h1 hnull hc (v := v) (m := m) (cv := cv)
 have hfl : ∀ o : O, (o.frz id es sz).live → o.live := fun o => by cases o <;> exact fun h => h
 have hlive : ∀ i, Live h' i → i ≠ id ∧ Live h i := by
  rintro i ⟨o, hi, hl⟩
  obtain ⟨g1, o', g2, rfl | rfl⟩ := hget i o hi hl
  ·exact ⟨g1, _, g2, hl⟩
  ·exact ⟨g1, o', g2, hfl _ hl⟩
 have hnew : HRel ⟨c.m, ro'⟩ w h' := by
  refine ⟨fun b cs hb => ?_, fun i q hq => by rw [hlen]; exact hh.dom i q hq, fun i o hi hl => ?_, fun i j q r hi hj => hh.inj i j q r (hlive i hi).2 (hlive j hj).2, fun b cs hb => hro b cs (hh.glob b cs hb)⟩
  ·rcases hro2 b cs hb with g | ⟨_, rfl, g⟩
   ·exact hh.ro b cs g
   ·exact g
  ·obtain ⟨g1, o', g2, hoo⟩ := hget i o hi hl
   have hl' : o'.live := by rcases hoo with rfl | rfl; exact hl; exact hfl _ hl
   obtain ⟨q, g3, g4, g5⟩ := hh.obj i o' g2 hl'
   refine ⟨q, g3, ?_, fun hn => ?_⟩
   ·rcases hoo with rfl | rfl
    ·exact ORel.mono hro (fun _ _ h => h) (fun _ => rfl) g4
    cases o' with
    | row cells =>
     obtain ⟨cc, k1, k2, k3⟩ := g4
     exact ⟨cc, k1, by simpa using k2, fun x hx hx' => by simpa using hfrz (k3 x (by simpa using hx) hx') (fun _ _ h => h)⟩
    | arr es' sz' => exact ORel.mono (o := .arr es' sz') hro (fun _ _ h => h) (fun _ => rfl) g4
    | map l => exact ORel.mono (o := .map l) hro (fun _ _ h => h) (fun _ => rfl) g4
    | loop L ts st => exact ORel.mono (o := .loop L ts st) hro (fun _ _ h => h) (fun _ => rfl) g4
    | ty id' t n => exact g4
    | bad => exact g4.elim
    | gone => exact g4
   ·cases hq : ro' q.block with
    | none => exact hq
    | some cs' =>
     rcases hro2 _ _ hq with k1 | ⟨k1, k2, _⟩
     ·rw [g5 hn] at k1; cases k1
     ·exact absurd (hh.inj i id q p ⟨o', g2, hl'⟩ ⟨_, ho, trivial⟩ g3 hm hn k1 k2) g1
 have hadv' : Adv c w h ⟨c.m, ro'⟩ w h' := by
  refine ⟨fun _ _ h => h, hro, by omega, fun i _ hl => (hlive i hl).2, Nat.le_refl _, fun _ _ _ => rfl, fun _ _ h _ => .inl h, fun b cs hb => ?_, rfl, rfl, rfl⟩
  rcases hro2 b cs hb with g | ⟨g1, rfl, _⟩
  ·exact .inl g
  ·exact .inr (.inl ⟨id, p, ⟨_, ho, trivial⟩, hm, g1, rfl⟩)
 exact hr c0 w0 h0 ⟨c.m, ro'⟩ w a (hadv.trans h0 hadv') hnew ⟨htr.size, fun i => hfrz (htr.rel i) (fun _ _ h => h)⟩ hd b items cs hb hbk hk
theorem Run.freeze {E : Env} {k t h} (id : Nat) {es : List (List V)} {sz : Nat} (ho : h[id]? = some (.arr es sz)) (hr : Run E ⟨k, fun i => (t i).frz id es sz, (h.map (O.frz id es sz)).set id .gone⟩) : Run E ⟨k, t, h⟩ := by
 have hlt : id < h.length := (List.getElem?_eq_some_iff.1 ho).1
 refine Run.frzG id ho _ (by simp) (fun i o hi hl => ?_) hr
 rw [List.getElem?_set] at hi
 by_cases e : id = i
 ·subst e
  simp only [if_true, List.length_map, hlt] at hi
  cases hi
  exact hl.elim
 ·rw [if_neg e] at hi
  simp only [List.getElem?_map, Option.map_eq_some_iff] at hi
  obtain ⟨o', h2, h3⟩ := hi
  exact ⟨fun h => e h.symm, o', h2, .inr h3.symm⟩
theorem Run.frzS {E : Env} {k t h} (id : Nat) {es : List (List V)} {sz : Nat} (ho : h[id]? = some (.arr es sz)) (hr : Run E ⟨k, fun i => (t i).frz id es sz, h.set id .gone⟩) : Run E ⟨k, t, h⟩ := by
 have hlt : id < h.length := (List.getElem?_eq_some_iff.1 ho).1
 refine Run.frzG id ho _ (by simp) (fun i o hi hl => ?_) hr
 by_cases e : id = i
 ·subst e; rw [List.getElem?_set_self hlt] at hi; cases hi; exact hl.elim
 ·rw [List.getElem?_set_ne e] at hi; exact ⟨fun h => e h.symm, o, hi, .inl rfl⟩
theorem Run.frzR {E : Env} {k t h} (id d : Nat) {es : List (List V)} {sz : Nat} {cs : List V} (ho : h[id]? = some (.arr es sz)) (hd : h[d]? = some (.row cs)) (hr : Run E ⟨k, fun i => (t i).frz id es sz, (h.set id .gone).set d (.row (cs.map (V.frz id es sz)))⟩) : Run E ⟨k, t, h⟩ := by
 have hlt : id < h.length := (List.getElem?_eq_some_iff.1 ho).1
 have hdl : d < h.length := (List.getElem?_eq_some_iff.1 hd).1
 have hne : d ≠ id := fun e => by rw [e, ho] at hd; cases hd
 refine Run.frzG id ho _ (by simp) (fun i o hi hl => ?_) hr
 by_cases e2 : d = i
 ·subst e2; rw [List.getElem?_set_self (by simpa using hdl)] at hi; cases hi; exact ⟨hne, _, hd, .inr rfl⟩
 ·rw [List.getElem?_set_ne e2] at hi
  by_cases e : id = i
  ·subst e; rw [List.getElem?_set_self hlt] at hi; cases hi; exact hl.elim
  ·rw [List.getElem?_set_ne e] at hi; exact ⟨fun h => e h.symm, o, hi, .inl rfl⟩
end Sx
namespace Sx
open Go
set_option linter.unusedSimpArgs false
set_option linter.unusedVariables false
mutual
theorem V.ren_pure (ρ) : ∀ v : V, v.pure = true → v.ren ρ = v
 | .fn f cap, h => by simp only [V.ren]; rw [V.renL_pure ρ cap (by simpa [V.pure] using h)]
 | .agg l, h => by simp only [V.ren]; rw [V.renL_pure ρ l (by simpa [V.pure] using h)]
 | .tup l, h => by simp only [V.ren]; rw [V.renL_pure ρ l (by simpa [V.pure] using h)]
 | .bool _, _ | .int .., _ | .str _, _ | .nilp, _ | .nils, _ | .nilf, _ | .nilm, _ | .nili, _ | .zs, _ | .rptr .., _ | .vs .., _ | .any, _ | .bad, _ => rfl
 | .ptr .., h | .ifc .., h | .mth .., h | .bnd .., h | .eptr .., h | .sl .., h | .mp _, h | .yld _, h => by simp [V.pure] at h
theorem V.renL_pure (ρ) : ∀ l : List V, V.pures l = true → V.renL ρ l = l
 | [], _ => rfl
 | v :: l, h => by
  simp only [V.pures, Bool.and_eq_true] at h
  simp only [V.renL]; rw [V.ren_pure ρ v h.1, V.renL_pure ρ l h.2]
end
theorem Tri.at {P : Program} {f : FuncId} {as : List V} {v0 : V} (h : Tri P f as [] (fun v H => v = v0 ∧ H = [])) (hp : v0.pure = true) (ha : V.pures as = true) (H : List O) :
  Tri P f as H (fun v H' => v = v0 ∧ H' = H) :=
 Tri.any (Post := fun v => v = v0) h (by rintro v ρ rfl; exact V.ren_pure ρ _ hp) (fun ρ => V.renL_pure ρ _ ha) H
def fr (n : Nat) (i : Nat) : Option Nat := if i < n then some i else none
variable {α : Type} {f : α → List V} {w : Nat}
end Sx
namespace Sx
open Go
set_option linter.unusedSimpArgs false
set_option linter.unusedVariables false
theorem upd_app (t i v j) : upd t i v j = if j = i then v else t j := rfl
def tl : List (Nat × V) → T
 | [], _ => .any
 | (i, v) :: l, j => if j = i then v else tl l j
theorem tl_cons (i v l j) : tl ((i, v) :: l) j = if j = i then v else tl l j := rfl
theorem tl_nil (j) : tl [] j = .any := rfl
section rules
variable {E : Env} {k : List AItem} {t : T} {h : List O}
theorem Run.opE {ls : List AOper} (he : ls = []) (hr : Run E ⟨k, t, h⟩) : Run E ⟨.ops ls :: k, t, h⟩ := by subst he; exact Run.step hr
theorem Run.opA {ls : List AOper} {d g o l v h'} (he : ls = ⟨d, g, o⟩ :: l) (hg : guardB t g = some true) (hs : opStep t h o = some (v, h')) (hr : Run E ⟨.ops l :: k, put t d v, h'⟩) : Run E ⟨.ops ls :: k, t, h⟩ := by
 subst he
 have hb : (opBr t h d o l k).ok E ⟨.ops (⟨d, g, o⟩ :: l) :: k, t, h⟩ := by
  unfold opBr; rw [hs]; exact hr
 cases g with
 | none => exact Run.step hb
 | some jw =>
  obtain ⟨j, want⟩ := jw
  simp only [guardB] at hg
  split at hg
  ·rename_i b hb'
   refine Run.step ?_
   simp only [step1, hb']
   simp only [Option.some.injEq] at hg
   refine ⟨fun _ => ?_, fun hf => (by rw [hg] at hf; cases hf)⟩
   unfold opBr; rw [hs]; exact hr
  ·cases hg
  ·cases hg
theorem Run.opN {ls : List AOper} {d g o l} (he : ls = ⟨d, g, o⟩ :: l) (hg : guardB t g = some false) (hr : Run E ⟨.ops l :: k, put t d (.tup []), h⟩) : Run E ⟨.ops ls :: k, t, h⟩ := by
 subst he
 cases g with
 | none => simp [guardB] at hg
 | some jw =>
  obtain ⟨j, want⟩ := jw
  simp only [guardB] at hg
  split at hg
  ·rename_i b hb'
   refine Run.step ?_
   simp only [step1, hb']
   simp only [Option.some.injEq] at hg
   exact ⟨fun hf => (by rw [hg] at hf; cases hf), fun _ => hr⟩
  ·rename_i hb'
   refine Run.step ?_
   simp only [step1, hb']
   exact hr
  ·cases hg
theorem Run.opC {ls : List AOper} {d g fo args l f caps Q} (he : ls = ⟨d, g, .call fo args⟩ :: l) (hg : guardB t g = some true) (hf : V.calls (fo.ev t) (args.map (Opd.ev t)) = some (f, caps)) (htri : Tri E.P f caps h Q)
  (hk : ∀ v h', Q v h' → Run E ⟨.ops l :: k, put t d v, h'⟩) : Run E ⟨.ops ls :: k, t, h⟩ := by
 subst he
 refine Run.call ?_ hf htri hk
 cases g with
 | none => trivial
 | some jw =>
  obtain ⟨j, want⟩ := jw
  simp only [guardB] at hg
  simp only [goes]
  split at hg
  ·rename_i b hb'; rw [hb']; simp only [Option.some.injEq, beq_iff_eq] at hg; rw [hg]
  ·cases hg
  ·cases hg
theorem Run.reg {l} (hr : Run E ⟨.ops l :: k, t, h⟩) : Run E ⟨.code (.region l) :: k, t, h⟩ := Run.step hr
def Known (n : Nat) (t : T) : List (Nat × V) → Prop
 | [] => True
 | (i, v) :: l => VLe (t i) v ∧ v.ren (fr n) = v ∧ Known n t l
def Stay (n : Nat) : List O → Prop
 | [] => True
 | o :: l => o.ren (fr n) = o ∧ Stay n l
theorem Stay.mem {n} : ∀ {l}, Stay n l → ∀ o ∈ l, o.ren (fr n) = o
 | _ :: l, h, o, ho => by
  rcases List.mem_cons.1 ho with rfl | ho
  ·exact h.1
  ·exact Stay.mem h.2 o ho
theorem Run.join {x : AItem} (slots : List (Nat × V)) (h' : List O) (h2 : Run E ⟨k, tl slots, h'⟩) (h1 : ∀ k, Run E ⟨k, tl slots, h'⟩ → Run E ⟨x :: k, t, h⟩) : Run E ⟨x :: k, t, h⟩ := h1 k h2
theorem Run.loopS {α : Type} {body} (st : α → List (Nat × V) × List O) (inv : α → Prop) (m : α → Nat)
  (round : ∀ a, inv a → (∀ a', inv a' → m a' < m a → Run E ⟨.inLoop body :: k, tl (st a').1, (st a').2⟩) → Run E ⟨.code body :: .inLoop body :: k, tl (st a).1, (st a).2⟩)
  (a : α) (ha : inv a) : Run E ⟨.code (.loop body) :: k, tl (st a).1, (st a).2⟩ := by
 refine Run.loop (fun n t h => ∃ a, inv a ∧ m a = n ∧ t = tl (st a).1 ∧ h = (st a).2) ?_ (n := m a) ⟨a, ha, rfl, rfl, rfl⟩
 rintro n t h ⟨a, ha, rfl, rfl, rfl⟩ ih
 exact round a ha fun a' ha' hm => ih (m a') _ _ hm ⟨a', ha', rfl, rfl, rfl⟩
end rules
section quiet
variable {P : Program} {t : T} {h : List O} {K : T → List O → Prop}
theorem execQ_E {ls : List AOper} (he : ls = []) (hk : K t h) : execQ P ls t h K := by subst he; exact hk
theorem execQ_A {ls : List AOper} {d g o l v h'} (he : ls = ⟨d, g, o⟩ :: l) (hg : guardB t g = some true) (hc : isCall o = false) (hs : opStep t h o = some (v, h')) (hr : execQ P l (put t d v) h' K) : execQ P ls t h K := by
 subst he; simp only [execQ, hg, hc, hs]; simpa using hr
theorem execQ_N {ls : List AOper} {d g o l} (he : ls = ⟨d, g, o⟩ :: l) (hg : guardB t g = some false) (hr : execQ P l (put t d (.tup [])) h K) : execQ P ls t h K := by
 subst he; simp only [execQ, hg]; exact hr
theorem execQ_C {ls : List AOper} {d g fo args l f caps v0} (he : ls = ⟨d, g, .call fo args⟩ :: l) (hg : guardB t g = some true) (hf : V.calls (fo.ev t) (args.map (Opd.ev t)) = some (f, caps)) (htri : Tri P f caps h (fun v H => v = v0 ∧ H = h))
  (hk : execQ P l (put t d v0) h K) : execQ P ls t h K := by
 subst he
 simp only [execQ, hg, isCall, if_true]
 exact ⟨v0, ⟨fo, args, f, caps, _, rfl, hf, htri, fun _ _ h => h⟩, hk⟩
end quiet
end Sx
namespace Sx
open Go
set_option linter.unusedSimpArgs false
set_option linter.unusedVariables false
def rn (ids : List Nat) (i : Nat) : Option Nat := ids[i]?
def OLeO : Option O → O → Prop
 | some a, b => OLe a b
 | none, _ => False
def Objs (ρ : Nat → Option Nat) (h : List O) : List Nat → List O → Prop
 | [], [] => True
 | j :: js, o :: os => OLeO (h[j]?) (o.ren ρ) ∧ Objs ρ h js os
 | _, _ => False
def KnownR (ρ : Nat → Option Nat) (t : T) : List (Nat × V) → Prop
 | [] => True
 | (i, v) :: l => VLe (t i) (v.ren ρ) ∧ KnownR ρ t l
theorem KnownR.at {ρ t} : ∀ {l}, KnownR ρ t l → ∀ i, VLe (t i) ((tl l i).ren ρ)
 | [], _, i => by rw [tl_nil]; exact VLe.any _
 | (j, v) :: l, hk, i => by
  by_cases e : i = j
  ·subst e; simp only [tl_cons, if_true]; exact hk.1
  ·simp only [tl_cons, if_neg e]; exact KnownR.at hk.2 i
theorem Objs.len {ρ h} : ∀ {ids os}, Objs ρ h ids os → ids.length = os.length
 | [], [], _ => rfl
 | _ :: js, _ :: os, hh => by simp [hh.2.len]
theorem Objs.get {ρ h} : ∀ {ids os}, Objs ρ h ids os → ∀ {k j : Nat} {o : O}, ids[k]? = some j → os[k]? = some o → ∃ a, h[j]? = some a ∧ OLe a (o.ren ρ)
 | i :: js, p :: os, hh, 0, j, o, h1, h2 => by
  simp at h1 h2; subst h1; subst h2
  have := hh.1
  cases hj : h[i]? with
  | none => rw [hj] at this; exact this.elim
  | some a => rw [hj] at this; exact ⟨a, rfl, this⟩
 | _ :: js, _ :: os, hh, k + 1, j, o, h1, h2 => hh.2.get (by simpa using h1) (by simpa using h2)
theorem HLe.of_get : ∀ {a b : List O}, a.length = b.length → (∀ (i : Nat) x y, a[i]? = some x → b[i]? = some y → OLe x y) → HLe a b
 | [], [], _, _ => trivial
 | [], _ :: _, h, _ => by simp at h
 | _ :: _, [], h, _ => by simp at h
 | x :: a, y :: b, h, hp => ⟨hp 0 x y rfl rfl, HLe.of_get (by simpa using h) fun i u v h1 h2 => hp (i + 1) u v (by simpa using h1) (by simpa using h2)⟩
theorem nodup_inj : ∀ {l : List Nat}, l.Nodup → ∀ {i j : Nat} (hi : i < l.length) (hj : j < l.length), l[i] = l[j] → i = j
 | x :: l, h, 0, 0, _, _, _ => rfl
 | x :: l, h, 0, j + 1, _, hj, e => by
  exfalso; refine (List.nodup_cons.1 h).1 ?_
  simp only [List.getElem_cons_zero, List.getElem_cons_succ] at e; rw [e]; exact List.getElem_mem _
 | x :: l, h, i + 1, 0, hi, _, e => by
  exfalso; refine (List.nodup_cons.1 h).1 ?_
  simp only [List.getElem_cons_zero, List.getElem_cons_succ] at e; rw [← e]; exact List.getElem_mem _
 | x :: l, h, i + 1, j + 1, hi, hj, e => by
  have := nodup_inj (List.nodup_cons.1 h).2 (by simpa using hi) (by simpa using hj) (by simpa using e)
  omega
section rules
variable {E : Env} {k : List AItem} {t : T} {h : List O}
theorem Run.mv (ids : List Nat) (slots : List (Nat × V)) (h' : List O) (hk : ids.take E.H0.length = List.range E.H0.length) (hnd : ids.Nodup) (hs : KnownR (rn ids) t slots) (ho : Objs (rn ids) h ids h')
  (hr : Run E ⟨k, tl slots, h'⟩) : Run E ⟨k, t, h⟩ := by
 have hlen := ho.len
 have hkeep : ∀ i, i < E.H0.length → ids[i]? = some i := by
  intro i hi
  have h1 : (ids.take E.H0.length)[i]? = (List.range E.H0.length)[i]? := by rw [hk]
  rw [List.getElem?_take, if_pos hi, List.getElem?_range hi] at h1
  exact h1
 have hH0 : E.H0.length ≤ ids.length := by
  have := congrArg List.length hk
  simp at this; omega
 have hin : ∀ (i j : Nat) (o : O), ids[i]? = some j → h'[i]? = some o → (setAll h ids (h'.map (O.ren (rn ids))))[j]? = some (o.ren (rn ids)) := by
  intro i j o h1 h2
  obtain ⟨hi, rfl⟩ := List.getElem?_eq_some_iff.1 h1
  obtain ⟨a, ha, _⟩ := ho.get h1 h2
  rw [setAll_in ids h _ i hi hnd (List.getElem?_eq_some_iff.1 ha).1 (by simp; omega)]
  simp [h2]
 refine Run.le (t' := fun i => (tl slots i).ren (rn ids)) (h' := setAll h ids (h'.map (O.ren (rn ids)))) hs.at (HLe.of_get (setAll_length ids h _).symm fun j x y h1 h2 => ?_) ?_
 ·by_cases hj : j ∈ ids
  ·obtain ⟨i, hi, rfl⟩ := List.mem_iff_getElem.1 hj
   have hi' : i < h'.length := by omega
   have e1 : ids[i]? = some ids[i] := by simp
   have e2 : h'[i]? = some h'[i] := by simp
   obtain ⟨a, ha, hle⟩ := ho.get e1 e2
   rw [hin i _ _ e1 e2] at h2
   rw [ha] at h1
   cases h1; cases h2; exact hle
  ·rw [setAll_out ids h _ j hj, h1] at h2
   cases h2; exact OLe.refl _
 ·refine Run.weaken (rn ids) (tl slots) h' ⟨by omega, fun i hi => hkeep i hi, fun i j hij => ?_, fun i o hi _ => ?_, fun i i' j h1 h2 => ?_⟩ (fun i => .inr rfl) hr
  ·have := (List.getElem?_eq_some_iff.1 hij).1; omega
  ·have hlt : i < ids.length := by have := (List.getElem?_eq_some_iff.1 hi).1; omega
   exact ⟨ids[i], by simp [rn, hlt], hin i _ _ (by simp [hlt]) hi⟩
  ·simp only [rn] at h1 h2
   obtain ⟨a1, a2⟩ := List.getElem?_eq_some_iff.1 h1
   obtain ⟨b1, b2⟩ := List.getElem?_eq_some_iff.1 h2
   exact nodup_inj hnd a1 b1 (a2.trans b2.symm)
theorem Run.nilA (i sz : Nat) (hi : t i = .nils) (hr : Run E ⟨k, upd t i (.sl h.length 0 0 sz none), h ++ [.arr [] sz]⟩) : Run E ⟨k, t, h⟩ := by
 intro c0 w0 h0 c w a hadv hh htr hd b items cs hb hbk hk
 simp only at hadv hh htr hk
 obtain ⟨c', p, h1, h2, h3, h4⟩ := nothing_ok hh rfl (fun i x hx _ => hx) sz
 refine hr c0 w0 h0 c' w a (hadv.trans h0 h4) h3 ⟨htr.size, fun j => ?_⟩ hd b items cs hb hbk hk
 have hj := (htr.mono h4.m h4.ro).rel j
 show VRel c'.ro c'.m (if j = i then V.sl h.length 0 0 sz none else t j) _
 split
 ·rename_i e; subst e
  rw [hi] at hj
  rw [hj.nils_inv]
  exact .slnil _ _ _ p none h1 h2
 ·exact hj
theorem Run.retI {fn : Func} (hf : E.P.funcs[E.f.f]? = some fn) {ars} (hr : fn.results.toList.mapM (cRes E.P E.N) = some ars) (hk : AtEnd k) {vs} (hv : evs t h ars = some vs)
  (hl : E.H0.length ≤ h.length) (hp : E.Post (mkRes vs) h) (ho : Stay h.length h) (hpure : (mkRes vs).ren (fr h.length) = mkRes vs) (hw : E.f.isFn := by exact True.intro) : Run E ⟨k, t, h⟩ := by
 refine Run.ret hf hr hk hv (fr h.length) (h' := h) ⟨hl, fun i hi => by simp [fr]; omega, fun i j hij => ?_, fun i o hi _ => ⟨i, ?_, ?_⟩, fun i i' j h1 h2 => ?_⟩ hpure.symm hp hw
 ·unfold fr at hij; split at hij <;> simp at hij; omega
 ·simp [fr, (List.getElem?_eq_some_iff.1 hi).1]
 ·rw [ho.mem o (List.mem_of_getElem? hi)]; exact hi
 ·unfold fr at h1 h2; split at h1 <;> split at h2 <;> simp at h1 h2; omega
theorem Run.loopC (ids : List Nat) {α : Type} {body} (st : α → List (Nat × V) × List O) (inv : α → Prop) (m : α → Nat) (a : α) (ha : inv a)
  (hk : ids.take E.H0.length = List.range E.H0.length) (hnd : ids.Nodup) (hs : KnownR (rn ids) t (st a).1) (ho : Objs (rn ids) h ids (st a).2)
  (round : ∀ a, inv a → (∀ a', inv a' → m a' < m a → Run E ⟨.inLoop body :: k, tl (st a').1, (st a').2⟩) → Run E ⟨.code body :: .inLoop body :: k, tl (st a).1, (st a).2⟩) :
  Run E ⟨.code (.loop body) :: k, t, h⟩ := Run.mv ids _ _ hk hnd hs ho (Run.loopS st inv m round a ha)
theorem Run.quietM (hm : E.P.follows .mixedOrders = true) {L : DL} (hq : quietOk L = true) (ids : List Nat) (slots : List (Nat × V)) (h' : List O) (hk : ids.take E.H0.length = List.range E.H0.length) (hnd : ids.Nodup)
  (hr : execQ E.P (L.map (·.1)) t h (fun t h => KnownR (rn ids) t slots ∧ Objs (rn ids) h ids h')) (hr' : Run E ⟨k, tl slots, h'⟩) : Run E ⟨.code (.drawn L) :: k, t, h⟩ :=
 Run.quiet hm hq (execQ_mono (fun _ _ ⟨h1, h2⟩ => Run.mv ids slots h' hk hnd h1 h2 hr') hr)
end rules
theorem getL {α : Type} {l : List α} {i : Nat} (h : i < l.length) : ∃ x, l[i]? = some x ∧ l[i] = x ∧ l.drop i = x :: l.drop (i + 1) ∧ x ∈ l :=
 ⟨l[i], by simp [h], rfl, List.drop_eq_getElem_cons h, List.getElem_mem h⟩
theorem take_map_len {α β : Type} (f : α → β) (l : List α) : (l.map f).take l.length = l.map f := by rw [← List.length_map (f := f), List.take_length]
end Sx
namespace Sx
open Go
set_option linter.unusedSimpArgs false
set_option linter.unusedVariables false
def SeqR (P : Program) : List AOper → T → List O → (T → List O → Prop) → Prop
 | [], t, h, K => K t h
 | o :: l, t, h, K => AStep P t h o (fun t' h' => SeqR P l t' h' K)
def chain1 (L : DL) (y : Nat) (pend : List Nat) : Bool :=
 statOk L (List.range' y (L.length - y)) pend && pend.all (fun x => !(List.range' y (L.length - y)).contains x) && (List.range' (y + 1) (L.length - (y + 1))).all (fun z => (L.deps z).contains y)
def chainOk (L : DL) (n : Nat) : Bool := quietTo L n && decide (n < L.length) && chain1 L n (List.range n).reverse && (List.range n).all (fun x => (clo L L.length (L.deps n)).contains x) &&
 (List.range' (n + 1) (L.length - (n + 1))).all (fun y => chain1 L y []) && statOk L [] []
theorem chain_go {E : Env} {L : DL} {k} (hs : statOk L [] [] = true) : ∀ (m y : Nat), y + m = L.length → (∀ z, y ≤ z → z < L.length → chain1 L z [] = true) → ∀ {t h}, SeqR E.P ((L.drop y).map (·.1)) t h (fun t h => Run E ⟨k, t, h⟩) → RunD E L (List.range' y m) [] k t h
 | 0, y, hy, _, t, h, hr => by
  have : L.drop y = [] := List.drop_eq_nil_of_le (by omega)
  rw [this] at hr
  exact RunD.fin hs trivial hr
 | m + 1, y, hy, hc, t, h, hr => by
  have hlt : y < L.length := by omega
  rw [List.drop_eq_getElem_cons hlt, List.map_cons] at hr
  have h1 := hc y (Nat.le_refl _) hlt
  have em : L.length - y = m + 1 := by omega
  have em2 : L.length - (y + 1) = m := by omega
  simp only [chain1, em, em2, Bool.and_eq_true] at h1
  rw [List.range'_succ] at h1 ⊢
  refine RunD.chain (ds := (L[y]).2) (o := (L[y]).1) ?_ trivial (by rw [List.getElem?_eq_getElem hlt]) ?_
  ·simp only [Bool.and_eq_true, decide_eq_true_eq]
   exact ⟨⟨⟨⟨h1.1.1, hlt⟩, by rw [← List.range'_succ]; exact List.nodup_range'⟩, rfl⟩, h1.2⟩
  ·have hr' : AStep E.P t h (L[y]).1 (fun t' h' => SeqR E.P ((L.drop (y + 1)).map (·.1)) t' h' (fun t h => Run E ⟨k, t, h⟩)) := hr
   have hmono : ∀ {K K' : T → List O → Prop}, (∀ t h, K t h → K' t h) → AStep E.P t h (L[y]).1 K → AStep E.P t h (L[y]).1 K' := by
    intro K K' hk ha
    rcases ha with ⟨a, b⟩ | ⟨a, ⟨v, h', b, c⟩ | ⟨fo, args, f, caps, Q, b, c, d, e⟩ | ⟨fo, args, f, Q, b, c, d, e⟩⟩
    ·exact .inl ⟨a, hk _ _ b⟩
    ·exact .inr ⟨a, .inl ⟨v, h', b, hk _ _ c⟩⟩
    ·exact .inr ⟨a, .inr (.inl ⟨fo, args, f, caps, Q, b, c, d, fun v h' hq => hk _ _ (e v h' hq)⟩)⟩
    ·exact .inr ⟨a, .inr (.inr ⟨fo, args, f, Q, b, c, d, fun v h' hq => hk _ _ (e v h' hq)⟩)⟩
   exact hmono (fun t' h' hx => chain_go hs m (y + 1) (by omega) (fun z hz hz2 => hc z (by omega) hz2) hx) hr'
theorem Run.qchain {E : Env} (hm : E.P.follows .mixedOrders = true) {L : DL} {t h k} (n : Nat) (hq : chainOk L n = true)
  (hr : execQ E.P ((L.take n).map (·.1)) t h (fun t h => SeqR E.P ((L.drop n).map (·.1)) t h (fun t h => Run E ⟨k, t, h⟩))) : Run E ⟨.code (.drawn L) :: k, t, h⟩ := by
 simp only [chainOk, Bool.and_eq_true, decide_eq_true_eq] at hq
 obtain ⟨⟨⟨⟨⟨h1, h2⟩, h3⟩, h4⟩, h5⟩, h6⟩ := hq
 refine Run.quietTo hm n h1 (execQ_mono (fun t h hx hpo => ?_) hr)
 have em : L.length - n = (L.length - (n + 1)) + 1 := by omega
 rw [List.drop_eq_getElem_cons h2, List.map_cons] at hx
 simp only [chain1, Bool.and_eq_true] at h3
 rw [em, List.range'_succ] at h3 ⊢
 refine RunD.chain (ds := (L[n]).2) (o := (L[n]).1) ?_ hpo (by rw [List.getElem?_eq_getElem h2]) ?_
 ·simp only [Bool.and_eq_true, decide_eq_true_eq]
  exact ⟨⟨⟨⟨h3.1.1, h2⟩, by rw [← List.range'_succ]; exact List.nodup_range'⟩, h3.1.2⟩, h3.2⟩
 ·have hd : L.deps n = (L[n]).2 := by simp [DL.deps, List.getElem?_eq_getElem h2]
  have hnil : ((List.range n).reverse.filter fun x => !(clo L L.length (L[n]).2).contains x) = [] := by
   rw [List.filter_eq_nil_iff]
   intro x hx
   rw [← hd]
   have := List.all_eq_true.1 h4 x (by simpa using hx)
   simp only [this]; simp
  rw [hnil]
  have hmono : ∀ {K K' : T → List O → Prop}, (∀ t h, K t h → K' t h) → AStep E.P t h (L[n]).1 K → AStep E.P t h (L[n]).1 K' := by
   intro K K' hk ha
   rcases ha with ⟨a, b⟩ | ⟨a, ⟨v, h', b, c⟩ | ⟨fo, args, f, caps, Q, b, c, d, e⟩ | ⟨fo, args, f, Q, b, c, d, e⟩⟩
   ·exact .inl ⟨a, hk _ _ b⟩
   ·exact .inr ⟨a, .inl ⟨v, h', b, hk _ _ c⟩⟩
   ·exact .inr ⟨a, .inr (.inl ⟨fo, args, f, caps, Q, b, c, d, fun v h' hq => hk _ _ (e v h' hq)⟩)⟩
   ·exact .inr ⟨a, .inr (.inr ⟨fo, args, f, Q, b, c, d, fun v h' hq => hk _ _ (e v h' hq)⟩)⟩
  refine hmono (fun t' h' hx => chain_go h6 _ (n + 1) (by omega) (fun z hz hz2 => ?_) hx) hx
  exact List.all_eq_true.1 h5 z (by simp; omega)
section seq
variable {P : Program} {t : T} {h : List O} {K : T → List O → Prop}
theorem SeqR.E {ls : List AOper} (he : ls = []) (hk : K t h) : SeqR P ls t h K := by subst he; exact hk
theorem SeqR.A {ls : List AOper} {d g o l v h'} (he : ls = ⟨d, g, o⟩ :: l) (hg : guardB t g = some true) (hs : opStep t h o = some (v, h')) (hr : SeqR P l (put t d v) h' K) : SeqR P ls t h K := by
 subst he; exact .inr ⟨hg, .inl ⟨v, h', hs, hr⟩⟩
theorem SeqR.o0 {ls : List AOper} {d o l v h'} (he : ls = ⟨d, none, o⟩ :: l) (hs : opStep t h o = some (v, h')) (hr : SeqR P l (put t d v) h' K) : SeqR P ls t h K := SeqR.A he rfl hs hr
theorem SeqR.N {ls : List AOper} {d g o l} (he : ls = ⟨d, g, o⟩ :: l) (hg : guardB t g = some false) (hr : SeqR P l (put t d (.tup [])) h K) : SeqR P ls t h K := by subst he; exact .inl ⟨hg, hr⟩
theorem SeqR.C {ls : List AOper} {d g fo args l f caps Q} (he : ls = ⟨d, g, .call fo args⟩ :: l) (hg : guardB t g = some true) (hf : V.calls (fo.ev t) (args.map (Opd.ev t)) = some (f, caps)) (htri : Tri P f caps h Q)
  (hk : ∀ v h', Q v h' → SeqR P l (put t d v) h' K) : SeqR P ls t h K := by
 subst he; exact .inr ⟨hg, .inr (.inl ⟨fo, args, f, caps, Q, rfl, hf, htri, hk⟩)⟩
end seq
theorem Run.nilC {E : Env} {k t h} (id j sz ty : Nat) {cs : List V} (hid : h[id]? = some (.row cs)) (hj : cs[j]? = some .nils)
  (hr : Run E ⟨k, t, h.set id (.row (cs.set j (.sl h.length 0 0 sz none))) ++ [.arr [] sz, .ty h.length ty none]⟩) : Run E ⟨k, t, h⟩ := by
 intro c0 w0 h0 c w a hadv hh htr hd b items cs' hb hbk hk
 simp only at hadv hh htr hk
 obtain ⟨c1, p, h1, h2, h3, h4⟩ := nothing_ok hh rfl (fun i x hx _ => hx) sz
 obtain ⟨c2, h5, h6⟩ := ghost_ok h3 (ty := ty) (n := none) h1 (fun hn => by rw [h2] at hn; cases hn)
 have hlt : id < h.length := (List.getElem?_eq_some_iff.1 hid).1
 have hid2 : (h ++ [O.arr [] sz] ++ [O.ty h.length ty none])[id]? = some (.row cs) := by
  rw [List.append_assoc, List.getElem?_append_left hlt]; exact hid
 have hadv2 := (hadv.trans h0 h4).trans h0 h6
 obtain ⟨q, cc, e, fr, g1, g2, g3, g4, g5, g6, g7, g8⟩ := row_cells h5 hid2
 have hrow : ORel c2.ro c2.m w q (.row (cs.set j (.sl h.length 0 0 sz none))) := by
  refine ⟨cc, ⟨g2, g4, g5, e, fr, g3, g8⟩, by simpa using g6, fun i hi hi' => ?_⟩
  obtain ⟨x, hx, hv⟩ := g7 i (by simpa using hi)
  rw [Array.getElem?_eq_getElem hi'] at hx
  cases hx
  by_cases e : j = i
  ·subst e
   rw [List.getElem_set_self]
   have : cs[j]'(by simpa using hi) = .nils := by rw [List.getElem?_eq_getElem (by simpa using hi)] at hj; exact Option.some.inj hj
   rw [this] at hv
   rw [hv.nils_inv]
   exact .slnil _ _ _ p none (h6.m _ _ h1) h2
  ·rw [List.getElem_set_ne e]; exact hv
 obtain ⟨k1, k2⟩ := h5.change (w' := w) id _ (.row (cs.set j (.sl h.length 0 0 sz none))) q hid2 trivial g1 g2 rfl (fun _ _ => rfl) rfl rfl rfl hrow
 have hset : (h ++ [O.arr [] sz] ++ [O.ty h.length ty none]).set id (.row (cs.set j (.sl h.length 0 0 sz none))) = h.set id (.row (cs.set j (.sl h.length 0 0 sz none))) ++ [.arr [] sz, .ty h.length ty none] := by
  rw [List.append_assoc, List.set_append_left _ _ hlt]; rfl
 rw [hset] at k1 k2
 exact hr c0 w0 h0 c2 w a (hadv2.trans h0 k2) k1 ((htr.mono h4.m h4.ro).mono h6.m h6.ro) hd b items cs' hb hbk hk
end Sx
namespace Sx
open Go
set_option linter.unusedSimpArgs false
set_option linter.unusedVariables false
def DL.op (L : DL) (x : Nat) : AOper := (L[x]?.map (·.1)).getD ⟨none, none, .lenS (.t 0)⟩
def flowOk (L : DL) : List Nat → List Nat → Bool
 | [], _ => true
 | x :: xs, pend => decide (x < L.length) && opQuiet (L.op x).op && (match L.dst x with
  | none => true
  | some d => !(L.rd x).contains d && pend.all fun y => !(L.rd y).contains d && L.dst y != some d) && flowOk L xs (x :: pend)
def without (rest xs : List Nat) : List Nat := xs.foldl List.erase rest
def rev2 (xs pend : List Nat) : List Nat := xs.foldl (fun p x => x :: p) pend
theorem RunD.flow {E : Env} {L : DL} {k} : ∀ (xs : List Nat) {rest pend : List Nat}, flowOk L xs pend = true → rest.Nodup → (∀ x ∈ xs, x ∈ rest) → xs.Nodup → ∀ {t h}, PendOk E.P L t h pend →
  execQ E.P (xs.map L.op) t h (fun t h => PendOk E.P L t h (rev2 xs pend) → RunD E L (without rest xs) (rev2 xs pend) k t h) → RunD E L rest pend k t h
 | [], rest, pend, _, _, _, _, t, h, hp, hr => hr hp
 | x :: xs, rest, pend, hf, hnd, hin, hxs, t, h, hp, hr => by
  simp only [flowOk, Bool.and_eq_true, decide_eq_true_eq] at hf
  obtain ⟨⟨⟨hxl, hqo⟩, hdd⟩, hf'⟩ := hf
  have hL : L[x]? = some L[x] := List.getElem?_eq_getElem hxl
  have hop' : L.op x = L[x].1 := by simp [DL.op, hL]
  have hdst : L.dst x = L[x].1.dst := by simp [DL.dst, hL]
  have hrdx : L.rd x = L[x].1.rd := by simp [DL.rd, hL]
  simp only [List.map_cons, hop'] at hr hqo
  have hq : ∀ d, L[x].1.dst = some d → d ∉ L[x].1.rd ∧ ∀ y ∈ pend, d ∉ L.rd y ∧ L.dst y ≠ some d := by
   intro d hd
   rw [hdst, hd] at hdd
   simp only [Bool.and_eq_true, Bool.not_eq_true', List.contains_eq_mem, decide_eq_false_iff_not, List.all_eq_true, bne_iff_ne, ne_eq] at hdd
   rw [hrdx] at hdd
   exact hdd
  have hin' : ∀ y ∈ xs, y ∈ rest.erase x := fun y hy => (List.mem_erase_of_ne (fun e => (List.nodup_cons.1 hxs).1 (by rw [← e]; exact hy))).2 (hin y (List.mem_cons_of_mem _ hy))
  have main : ∀ v, (guardB t L[x].1.g = some true ∧ (opStep t h L[x].1.op = some (v, h) ∨ CallIs E.P t h L[x].1.op v) ∨ guardB t L[x].1.g = some false ∧ v = .tup []) →
    execQ E.P (xs.map L.op) (put t L[x].1.dst v) h (fun t h => PendOk E.P L t h (rev2 xs (x :: pend)) → RunD E L (without (rest.erase x) xs) (rev2 xs (x :: pend)) k t h) → RunD E L rest pend k t h := by
   intro v hv hrun
   refine RunD.float x v (hin x List.mem_cons_self) hnd ?_
   rw [hdst]
   refine RunD.flow xs hf' (hnd.erase x) hin' (List.nodup_cons.1 hxs).2 ?_ hrun
   have hsame : ∀ i ∈ L[x].1.rd, t i = put t L[x].1.dst v i := by
    intro i hi
    cases hd : L[x].1.dst with
    | none => rfl
    | some d =>
     have hne : i ≠ d := fun he => (hq d hd).1 (he ▸ hi)
     simp [put, upd, hne]
   have hg : guardB t L[x].1.g = guardB (put t L[x].1.dst v) L[x].1.g := guardB_congr fun j b e => hsame j (by simp only [AOper.rd, e]; simp)
   have hso : ∀ i ∈ L[x].1.op.rd, t i = put t L[x].1.dst v i := fun i hi => hsame i (by simp only [AOper.rd]; simp [hi])
   have hop : opStep t h L[x].1.op = opStep (put t L[x].1.dst v) h L[x].1.op := opStep_congr hso
   refine ⟨?_, hp.put fun e he y hy => (hq e he).2 y hy⟩
   rw [hL]
   simp only
   rw [← hg, ← hop]
   rcases hv with ⟨g1, g2⟩ | ⟨g1, rfl⟩
   ·exact .inl ⟨g1, v, g2.imp id (fun hc => hc.congr hso), fun d hd => by simp [hd, put, upd]⟩
   ·exact .inr ⟨g1, fun d hd => by simp [hd, put, upd]⟩
  revert hr
  have hrev : rev2 (x :: xs) pend = rev2 xs (x :: pend) := rfl
  have hwo : without rest (x :: xs) = without (rest.erase x) xs := rfl
  rw [hrev, hwo]
  generalize L[x].1 = o at hqo main
  obtain ⟨d, g, op⟩ := o
  simp only at hqo main
  simp only [execQ]
  split
  ·rename_i hg
   split
   ·rename_i hc
    rintro ⟨v, hv, hrun⟩
    exact main v (.inl ⟨hg, .inr hv⟩) hrun
   ·split
    ·rename_i v h' hs
     have := opQuiet_step hqo hs
     subst this
     exact fun hrun => main v (.inl ⟨hg, .inl hs⟩) hrun
    ·exact fun hf => hf.elim
  ·rename_i hg
   exact fun hrun => main _ (.inr ⟨hg, rfl⟩) hrun
  ·exact fun hf => hf.elim
def ready (L : DL) (rest : List Nat) : List Nat := rest.filter fun y => (L.deps y).all fun d => !rest.contains d
def altOk (L : DL) (rest pend : List Nat) : Bool := statOk L rest pend && rest.any (· < L.length) && rest.all (· < L.length) && decide rest.Nodup && pend.all (fun x => !rest.contains x)
def left (L : DL) (y : Nat) (pend : List Nat) : List Nat := pend.filter fun x => !(clo L L.length (L.deps y)).contains x
theorem RunD.alt {E : Env} {L rest pend k t h} (ys : List Nat) (hc : altOk L rest pend = true) (hy : ready L rest = ys) (hpo : PendOk E.P L t h pend)
  (hr : ∀ y ∈ ys, AStep E.P t h (L.op y) (fun t' h' => RunD E L (rest.erase y) (left L y pend) k t' h')) : RunD E L rest pend k t h := by
 simp only [altOk, Bool.and_eq_true, decide_eq_true_eq] at hc
 obtain ⟨⟨⟨⟨h1, h2⟩, h3⟩, h4⟩, h5⟩ := hc
 refine RunD.next' h1 h2 h4 h5 hpo fun y hyr hd => ?_
 have hyl : y < L.length := by simpa using List.all_eq_true.1 h3 y hyr
 have hL : L[y]? = some L[y] := List.getElem?_eq_getElem hyl
 have hm : y ∈ ys := by rw [← hy]; exact List.mem_filter.2 ⟨hyr, hd⟩
 have := hr y hm
 have e1 : L.op y = L[y].1 := by simp [DL.op, hL]
 have e2 : L.deps y = L[y].2 := by simp [DL.deps, hL]
 rw [e1] at this
 simp only [left, e2] at this
 exact ⟨L[y].1, L[y].2, hL, this⟩
theorem RunD.alt1 {E : Env} {L rest pend k t h} (y : Nat) (hc : altOk L rest pend = true) (hy : ready L rest = [y]) (hpo : PendOk E.P L t h pend)
  (hr : AStep E.P t h (L.op y) (fun t' h' => RunD E L (rest.erase y) (left L y pend) k t' h')) : RunD E L rest pend k t h :=
 RunD.alt [y] hc hy hpo fun z hz => by rw [List.mem_singleton.1 hz]; exact hr
theorem RunD.alt2 {E : Env} {L rest pend k t h} (y z : Nat) (hc : altOk L rest pend = true) (hy : ready L rest = [y, z]) (hpo : PendOk E.P L t h pend)
  (hr1 : AStep E.P t h (L.op y) (fun t' h' => RunD E L (rest.erase y) (left L y pend) k t' h')) (hr2 : AStep E.P t h (L.op z) (fun t' h' => RunD E L (rest.erase z) (left L z pend) k t' h')) : RunD E L rest pend k t h :=
 RunD.alt [y, z] hc hy hpo fun x hx => by
  rcases List.mem_cons.1 hx with rfl | hx
  ·exact hr1
  ·rw [List.mem_singleton.1 hx]; exact hr2
section pend
variable {P : Program} {L : DL} {t : T} {h : List O}
theorem PendOk.op {x : Nat} {xs : List Nat} {d g op ds v} (hL : L[x]? = some (⟨some d, g, op⟩, ds)) (hd : t d = v) (hg : guardB t g = some true) (hs : opStep t h op = some (v, h)) (r : PendOk P L t h xs) : PendOk P L t h (x :: xs) := by
 refine ⟨?_, r⟩
 rw [hL]
 exact .inl ⟨hg, v, .inl hs, fun e he => by cases he; exact hd⟩
theorem PendOk.skip {x : Nat} {xs : List Nat} {d g op ds} (hL : L[x]? = some (⟨some d, g, op⟩, ds)) (hd : t d = .tup []) (hg : guardB t g = some false) (r : PendOk P L t h xs) : PendOk P L t h (x :: xs) := by
 refine ⟨?_, r⟩
 rw [hL]
 exact .inr ⟨hg, fun e he => by cases he; exact hd⟩
theorem PendOk.nil : PendOk P L t h [] := trivial
end pend
section astep
variable {P : Program} {t : T} {h : List O} {K : T → List O → Prop}
theorem AStep.A {o : AOper} {d g op v h'} (he : o = ⟨d, g, op⟩) (hg : guardB t g = some true) (hs : opStep t h op = some (v, h')) (hr : K (put t d v) h') : AStep P t h o K := by
 subst he; exact .inr ⟨hg, .inl ⟨v, h', hs, hr⟩⟩
theorem AStep.N {o : AOper} {d g op} (he : o = ⟨d, g, op⟩) (hg : guardB t g = some false) (hr : K (put t d (.tup [])) h) : AStep P t h o K := by subst he; exact .inl ⟨hg, hr⟩
theorem AStep.C {o : AOper} {d g fo args f caps Q} (he : o = ⟨d, g, .call fo args⟩) (hg : guardB t g = some true) (hf : V.calls (fo.ev t) (args.map (Opd.ev t)) = some (f, caps)) (htri : Tri P f caps h Q)
  (hk : ∀ v h', Q v h' → K (put t d v) h') : AStep P t h o K := by
 subst he; exact .inr ⟨hg, .inr (.inl ⟨fo, args, f, caps, Q, rfl, hf, htri, hk⟩)⟩
end astep
theorem ren_ite (ρ) (u : Prop) [Decidable u] (a b : V) : (if u then a else b).ren ρ = if u then a.ren ρ else b.ren ρ := by split <;> rfl
def liveB : O → Bool
 | .gone => false
 | _ => true
theorem liveB_live {o : O} (h : liveB o = true) : o.live := by cases o <;> first | trivial | cases h
def ObjsE (ρ : Nat → Option Nat) (h : List O) : List Nat → List O → Prop
 | [], [] => True
 | j :: js, o :: os => h[j]? = some (o.ren ρ) ∧ ObjsE ρ h js os
 | _, _ => False
theorem ObjsE.len {ρ h} : ∀ {ids os}, ObjsE ρ h ids os → ids.length = os.length
 | [], [], _ => rfl
 | _ :: js, _ :: os, hh => by simp [hh.2.len]
theorem ObjsE.get {ρ h} : ∀ {ids os}, ObjsE ρ h ids os → ∀ (i : Nat) (hi : i < ids.length) (o : O), os[i]? = some o → h[ids[i]]? = some (o.ren ρ)
 | _ :: js, p :: os, hh, 0, _, o, h2 => by simp at h2; subst h2; exact hh.1
 | _ :: js, _ :: os, hh, i + 1, hi, o, h2 => by simpa using hh.2.get i (by simpa using hi) o (by simpa using h2)
theorem Tri.held {P f as Hs Q} (htri : Tri P f as Hs Q) (ids : List Nat) {h : List O} {as' : List V} (ha : as' = V.renL (nm ids h.length) as) (hnd : ids.Nodup) (hl : Hs.all liveB = true) (ho : ObjsE (nm ids h.length) h ids Hs) :
  Tri P f as' h (fun v H' => ∃ v0 Hs', Q v0 Hs' ∧ v = v0.ren (nm ids h.length) ∧ H' = back ids h Hs') := by
 subst ha
 exact htri.frame ids h ho.len hnd (fun i o hi => liveB_live (List.all_eq_true.1 hl o (List.mem_of_getElem? hi))) (fun i hi o hio => ho.get i hi o hio)
theorem Run.opF {E : Env} {k t h} {ls : List AOper} {d g fo args l f caps Q as Hs} (ids : List Nat) (htri : Tri E.P f as Hs Q) (he : ls = ⟨d, g, .call fo args⟩ :: l) (hg : guardB t g = some true) (hf : V.calls (fo.ev t) (args.map (Opd.ev t)) = some (f, caps))
  (ha : caps = V.renL (nm ids h.length) as) (hnd : ids.Nodup) (hl : Hs.all liveB = true) (ho : ObjsE (nm ids h.length) h ids Hs)
  (hk : ∀ v0 Hs', Q v0 Hs' → Run E ⟨.ops l :: k, put t d (v0.ren (nm ids h.length)), back ids h Hs'⟩) : Run E ⟨.ops ls :: k, t, h⟩ := by
 refine Run.opC he hg hf (htri.held ids ha hnd hl ho) ?_
 rintro v h' ⟨v0, Hs', hq, rfl, rfl⟩
 exact hk v0 Hs' hq
end Sx
namespace Sx
open Go
set_option linter.unusedSimpArgs false
set_option linter.unusedVariables false
def EsLe : List (List V) → List (List V) → Prop
 | [], [] => True
 | a :: l, b :: k => (VsLe a b ∧ V.ones b = true) ∧ EsLe l k
 | _, _ => False
end Sx
namespace Sx
open Go
set_option linter.unusedSimpArgs false
set_option linter.unusedVariables false
end Sx
namespace Sx
open Go
set_option linter.unusedSimpArgs false
set_option linter.unusedVariables false
theorem HRel.other {c : Ctx} {w w' : World} {h : List O} (hh : HRel c w h) (hs : ∀ b, (Owns c h b ∨ ∃ cs, c.ro b = some cs) → w'.heap[b]? = w.heap[b]?) : HRel c w' h := by
 refine ⟨fun b cs hb => ?_, hh.dom, fun i o hi hl => ?_, hh.inj, hh.glob⟩
 ·obtain ⟨e, fr, hw⟩ := hh.ro b cs hb
  exact ⟨e, fr, (hs b (.inr ⟨cs, hb⟩)).trans hw⟩
 ·obtain ⟨p, hp, hr, hro⟩ := hh.obj i o hi hl
  exact ⟨p, hp, hr.mono (fun _ _ h => h) (fun _ _ h => h) (fun hn => hs _ (.inl ⟨i, p, ⟨o, hi, hl⟩, hp, hn, rfl⟩)), hro⟩
end Sx
namespace Sx
open Go
set_option linter.unusedSimpArgs false
set_option linter.unusedVariables false
theorem VLe.cap (id off len sz : Nat) (k : Option Nat) : VLe (.sl id off len sz k) (.sl id off len sz none) := by
 intro ro m c h
 rcases h.sl_inv with ⟨p, cap, o, hp, hn, hcl, ho, hto, hk, rfl⟩ | ⟨p, a, hp, hn, rfl, rfl, rfl, rfl⟩
 ·exact .sl _ _ _ _ _ _ o _ p hp hn hcl ho hto (fun x hx => by cases hx)
 ·exact .slnil _ _ _ p _ hp hn
theorem ORel.leS {ro m w p es sz} (n : Nat) (h : ORel ro m w p (.arr es sz)) : ORel ro m w p (.arr (es.take n) sz) := by
 obtain ⟨h1, h2, h3, h4⟩ := h
 refine ⟨fun hn => by rw [h1 hn]; simp, fun e he => h2 e (List.mem_of_mem_take he), fun i hi => by simp only [List.getElem_take]; exact h3 _ _, fun hn => ?_⟩
 obtain ⟨cc, h5, h6, h7⟩ := h4 hn
 refine ⟨cc, h5, ?_, fun i hi j hj => ?_⟩
 ·have : (es.take n).length * sz ≤ es.length * sz := Nat.mul_le_mul_right _ (by simp; omega)
  omega
 ·simp only [List.getElem_take] at hj ⊢
  exact h7 i (by simp at hi; omega) j hj
theorem Run.leS {E : Env} {k t h} (id n : Nat) {es sz} (hid : h[id]? = some (.arr es sz)) (hr : Run E ⟨k, t, h.set id (.arr (es.take n) sz)⟩) : Run E ⟨k, t, h⟩ := by
 intro c0 w0 h0 c w a hadv hh htr hd b items cs hb hbk hk
 simp only at hadv hh htr hk
 have hlt : id < h.length := (List.getElem?_eq_some_iff.1 hid).1
 have hget : ∀ (i : Nat) (o : O), (h.set id (.arr (es.take n) sz))[i]? = some o → ∃ o', h[i]? = some o' ∧ (o.live → o'.live) ∧ ∀ m' p, ORel c.ro m' w p o' → ORel c.ro m' w p o := by
  intro i o ho
  by_cases e : i = id
  ·subst e
   rw [List.getElem?_set_self hlt] at ho; cases ho
   exact ⟨_, hid, fun _ => trivial, fun m' p => ORel.leS n⟩
  ·rw [List.getElem?_set_ne (Ne.symm e)] at ho
   exact ⟨o, ho, fun h => h, fun _ _ h => h⟩
 have hlive : ∀ i, Live (h.set id (.arr (es.take n) sz)) i → Live h i := by
  rintro i ⟨o, h1, h2⟩
  obtain ⟨o', h3, h4, -⟩ := hget i o h1
  exact ⟨o', h3, h4 h2⟩
 have g1 : HRel c w (h.set id (.arr (es.take n) sz)) := by
  refine ⟨hh.ro, fun i p hm => by rw [List.length_set]; exact hh.dom i p hm, fun i o ho hol => ?_, fun i j p q h1 h2 => hh.inj i j p q (hlive i h1) (hlive j h2), hh.glob⟩
  obtain ⟨o', h1, h2, h3⟩ := hget i o ho
  obtain ⟨p, h4, h5, h6⟩ := hh.obj i o' h1 (h2 hol)
  exact ⟨p, h4, h3 _ _ h5, h6⟩
 have g2 : Adv c w h c w (h.set id (.arr (es.take n) sz)) := ⟨fun _ _ h => h, fun _ _ h => h, by rw [List.length_set]; exact Nat.le_refl _, fun i _ h => hlive i h, Nat.le_refl _, fun _ _ _ => rfl, fun _ _ h _ => .inl h, fun _ _ h => .inl h, rfl, rfl, rfl⟩
 exact hr c0 w0 h0 c w a (hadv.trans h0 g2) g1 ⟨htr.size, htr.rel⟩ hd b items cs hb hbk hk
theorem namesN (h : List O) : Names 0 (fun _ => none) h [] := ⟨by simp, (fun i hi => by simp at hi), (fun i j h => by cases h), (fun i o h => by simp at h), (fun i i' j h => by cases h)⟩
end Sx
namespace Sx
open Go
set_option linter.unusedSimpArgs false
set_option linter.unusedVariables false
end Sx
namespace Sx
open Go
set_option linter.unusedSimpArgs false
set_option linter.unusedVariables false
def adm : List AItem → Option (List AItem)
 | .code .skip :: k => some k
 | .code (.region l) :: k => some (.ops l :: k)
 | .code (.seq a b) :: k => some (.code a :: .code b :: k)
 | .code (.block id c) :: k => some (.code c :: .endB id :: k)
 | .code (.exit id) :: k => unwind id k
 | .ops [] :: k => some k
 | .endB _ :: k => some k
 | _ => none
theorem Run.adm {E : Env} {k k' : List AItem} {t : T} {h : List O} (hs : Sx.adm k = some k') (hr : Run E ⟨k', t, h⟩) : Run E ⟨k, t, h⟩ := by
 unfold Sx.adm at hs
 split at hs
 ·cases hs; exact Run.skip hr
 ·cases hs; exact Run.reg hr
 ·cases hs; exact Run.seq hr
 ·cases hs; exact Run.block hr
 ·exact Run.exit hs hr
 ·cases hs; exact Run.opE rfl hr
 ·cases hs; exact Run.endB hr
 ·cases hs
def condR (v : V) (a b : AC) : Option AC := match v with
 | .bool true => some a
 | .bool false => some b
 | _ => none
theorem Run.condS {E : Env} {o : Opd} {a b c : AC} {k : List AItem} {t : T} {h : List O} (hs : condR (o.ev t) a b = some c) (hr : Run E ⟨.code c :: k, t, h⟩) : Run E ⟨.code (.cond o a b) :: k, t, h⟩ := by
 unfold condR at hs
 split at hs
 ·rename_i hv; cases hs; exact Run.condT hv hr
 ·rename_i hv; cases hs; exact Run.condF hv hr
 ·cases hs
def stepV (t : T) (h : List O) (g : Option (Nat × Bool)) (o : AOp) : Option (V × List O) := match guardB t g with
 | some true => opStep t h o
 | some false => some (.tup [], h)
 | none => none
theorem stepV_cases {t h g o v h'} (hs : stepV t h g o = some (v, h')) : (guardB t g = some true ∧ opStep t h o = some (v, h')) ∨ (guardB t g = some false ∧ v = .tup [] ∧ h' = h) := by
 unfold stepV at hs
 split at hs
 ·exact .inl ⟨by assumption, hs⟩
 ·cases hs; exact .inr ⟨by assumption, rfl, rfl⟩
 ·cases hs
theorem Run.opS {E : Env} {k : List AItem} {t : T} {h : List O} {ls : List AOper} {d g o l v h'} (he : ls = ⟨d, g, o⟩ :: l) (hs : stepV t h g o = some (v, h')) (hr : Run E ⟨.ops l :: k, put t d v, h'⟩) : Run E ⟨.ops ls :: k, t, h⟩ := by
 rcases stepV_cases hs with ⟨h1, h2⟩ | ⟨h1, rfl, rfl⟩
 ·exact Run.opA he h1 h2 hr
 ·exact Run.opN he h1 hr
theorem opStep_call {t h o v} (h1 : opStep t h o = some v) : isCall o = false := by
 cases o <;> first | rfl | (simp [opStep] at h1)
theorem execQ_S {P : Program} {K : T → List O → Prop} {t : T} {h : List O} {ls : List AOper} {d g o l v h'} (he : ls = ⟨d, g, o⟩ :: l) (hs : stepV t h g o = some (v, h')) (hr : execQ P l (put t d v) h' K) : execQ P ls t h K := by
 rcases stepV_cases hs with ⟨h1, h2⟩ | ⟨h1, rfl, rfl⟩
 ·exact execQ_A he h1 (opStep_call h2) h2 hr
 ·exact execQ_N he h1 hr
theorem AStep.S {P : Program} {t : T} {h : List O} {K : T → List O → Prop} {o : AOper} {d g op v h'} (he : o = ⟨d, g, op⟩) (hs : stepV t h g op = some (v, h')) (hr : K (put t d v) h') : AStep P t h o K := by
 rcases stepV_cases hs with ⟨h1, h2⟩ | ⟨h1, rfl, rfl⟩
 ·exact AStep.A he h1 h2 hr
 ·exact AStep.N he h1 hr
theorem PendOk.S {P : Program} {L : DL} {t : T} {h : List O} {x : Nat} {xs : List Nat} {d g op ds v} (hL : L[x]? = some (⟨some d, g, op⟩, ds)) (hd : t d = v) (hs : stepV t h g op = some (v, h)) (r : PendOk P L t h xs) : PendOk P L t h (x :: xs) := by
 rcases stepV_cases hs with ⟨h1, h2⟩ | ⟨h1, rfl, -⟩
 ·exact PendOk.op hL hd h1 h2 r
 ·exact PendOk.skip hL hd h1 r
end Sx
namespace Sx
open Go Go.RowKit
set_option linter.unusedSimpArgs false
set_option linter.unusedVariables false
def KnownS (t : T) : List (Nat × V) → Prop
 | [] => True
 | (i, v) :: l => VLe (t i) v ∧ KnownS t l
theorem KnownS.at {t : T} : ∀ {l}, KnownS t l → ∀ i, VLe (t i) (tl l i)
 | [], _, i => by rw [tl_nil]; exact VLe.any _
 | (j, v) :: l, h, i => by
  rw [tl_cons]
  split
  ·rename_i e; subst e; exact h.1
  ·exact h.2.at i
theorem Run.sl {E : Env} {k t h} (slots : List (Nat × V)) (hs : KnownS t slots) (hr : Run E ⟨k, tl slots, h⟩) : Run E ⟨k, t, h⟩ := Run.le (fun i => hs.at i) (HLe.refl h) hr
theorem Run.retS {E : Env} {fn : Func} (hf : E.P.funcs[E.f.f]? = some fn) {ars} (hr : fn.results.toList.mapM (cRes E.P E.N) = some ars) {k t h} (hk : AtEnd k) {vs} (hv : evs t h ars = some vs)
  (hp : E.Post (mkRes vs) h) (hw : E.f.isFn := by exact True.intro) : Run E ⟨k, t, h⟩ := by
 intro c0 w0 h0 c w a hadv hh ht hd b items cs hb hbk hkk
 simp only at hadv hh ht hkk
 have hbk' : b.kind = .normal ∧ b.roundOf = none := by
  generalize E.f = x at hw hbk
  cases x <;> first | exact hbk | exact hw.elim
 have hR : ∀ items, FnR E.P E.f.f E.f.ds E.H0 c0 w0 E.Post (.returned undef) w { b.atR a items with mode := .returning } := by
  refine fun items => ⟨c, h, fn, ⟨_, rfl⟩, rfl, hd, hbk'.1, hb, hf, hh, hadv, fun w2 hh2 => ?_⟩
  obtain ⟨cv, g1, g2⟩ := results_run (P := E.P) hh2 ht hr hv
  exact ⟨cv, mkRes vs, h, c, g1, hp, g2, hh2, fun c1 w1 H1 hh1 hle hadv1 => hadv1⟩
 have hF : ∀ items, E.F c0 w0 (.returned undef) w { b.atR a items with mode := .returning } := by
  intro items
  have := hR items
  unfold Env.F
  generalize E.f = x at hw this
  cases x <;> first | exact this | exact hw.elim
 cases hkk with
 | nil => exact ⟨_, w, _, hF _, Steps.one (stepR_end hbk'.2)⟩
 | cons hx hk' =>
  cases hx with
  | code hc =>
   rename_i ac
   cases ac <;> simp only [AtEnd] at hk
   cases cCode_ret hc
   exact ⟨_, w, _, hF _, Steps.one (stepR_ret hbk'.2)⟩
  | ops => simp only [AtEnd] at hk
  | endB => simp only [AtEnd] at hk
  | inLoop => simp only [AtEnd] at hk
  | beginR => simp only [AtEnd] at hk
theorem Run.opDo {E : Env} {t h k} {ls : List AOper} {d g ao l v h'} (he : ls = ⟨d, g, ao⟩ :: l) (hg : guardB t g = some true)
  (hd : ∀ c w a (o : Oper), HRel c w h → TRel E.N c t a → cOp E.P E.N o.op = some ao → Does E.P c w h (execOp a.eval o) v h') (hr : Run E ⟨.ops l :: k, put t d v, h'⟩) : Run E ⟨.ops ls :: k, t, h⟩ := by
 subst he
 intro c0 w0 h0 c w a hadv hh ht hdf b items cs hb hbk hk'
 simp only at hadv hh ht hk'
 cases hk' with | cons hx' hk' => cases hx' with | @ops _ ops todo hl =>
 rename_i items
 cases todo with
 | nil => simp at hl
 | cons i todo =>
  obtain ⟨⟨o, ho, hco⟩, hl'⟩ := ops_cons hl
  obtain ⟨hcp, hdst, hdN, hgd⟩ := cOper_spec hco
  have hw := guard_wanted ht hgd hg
  obtain ⟨r, w', c', h1, h2, h3, h4⟩ := hd c w a o hh ht hcp
  have hgs := stepGR (P := E.P) (b := b) (k := items) (cs := cs) (w := w) (rest := todo) ho hw hcp
  have hfin := fun v => region_finish (b := b) (a := a) (rest := todo) (k := items) ho v
  have ht' := ht.mono h4.m h4.ro
  rcases h2 with ⟨cv, rfl, hv⟩ | ⟨rfl, rfl⟩
  ·refine Goes.step (a' := a.put o.dst cv) (k' := .inRegion ops todo :: items) (w' := w') (step_lone_go ?_) ?_
   ·rw [hgs, ← hfin]; simp [stepG.apply, h1]
   ·refine hr c0 w0 h0 c' w' _ (hadv.trans h0 h4) h3 (by rw [hdst]; exact ht'.put d hdN hv) ?_ b _ cs hb hbk (.cons (.ops hl') hk')
    cases o.dst <;> exact hdf
  ·refine Goes.step (a' := a.put o.dst undef) (k' := .inRegion ops todo :: items) (w' := w') (step_lone_go ?_) ?_
   ·rw [hgs, ← hfin]; simp [stepG.apply, h1]
   ·refine hr c0 w0 h0 c' w' _ (hadv.trans h0 h4) h3 (by rw [hdst]; exact ht'.put d hdN (.any ..)) ?_ b _ cs hb hbk (.cons (.ops hl') hk')
    cases o.dst <;> exact hdf
theorem cOp_appendB {P : Program} {N : Nat} {op : Op} {x y : Opd} {n : Nat} {ty : TypeId} (hcp : cOp P N op = some (.appendB x y n ty)) :
  ∃ args ats t u z, op = .call { callee := .builtin .append, args := args, argTypes := ats } ∧ cOpds N args = some [x, y] ∧ ats[0]? = some t ∧ ats[1]? = some u ∧ cElem P t = some (1, z, n) ∧ 0 < n ∧ P.underlying u = some .string := by
 cases op
 case makeMap mt mr => cases mr <;> simp [cOp] at hcp
 case call cl =>
  obtain ⟨callee, cargs, ats⟩ := cl
  cases callee with
  | value f' =>
   simp only [cOp] at hcp
   split at hcp
   ·split at hcp <;> cases hcp
   ·split at hcp <;> cases hcp
  | invoke r m => cases r <;> simp [cOp] at hcp <;> (repeat' split at hcp) <;> simp at hcp
  | builtin bb =>
   simp only [cOp] at hcp
   split at hcp
   case h_2 => cases hcp
   case h_1 xs hxs =>
    unfold cBuiltin at hcp
    split at hcp
    case h_2 x' y' tt hts =>
     split at hcp
     case h_2 => cases hcp
     case h_1 n' z bytes u hel hu =>
      split at hcp
      case isTrue => cases hcp
      case isFalse hb =>
       split at hcp
       ·rename_i hstr
        split at hcp
        case h_2 => cases hcp
        case h_1 e hue =>
         split at hcp <;> cases hcp
         rename_i hn
         subst hn
         exact ⟨_, _, _, _, _, rfl, hxs, hts, hu, hel, Nat.pos_of_ne_zero hb, isStr_spec hstr⟩
       ·split at hcp <;> cases hcp
    all_goals (repeat' (first | (cases hcp; done) | split at hcp))
 case makeFunc fn first captured =>
  cases fn <;> simp only [cOp] at hcp
  all_goals (repeat' (first | (cases hcp; done) | split at hcp))
 all_goals (first | (simp only [cOp] at hcp; done) | (simp only [cOp] at hcp; repeat' (first | (cases hcp; done) | split at hcp)))
theorem Run.opAB {E : Env} {t h k} {ls : List AOper} {d g x y n ty l v h'} (he : ls = ⟨d, g, .appendB x y n ty⟩ :: l) (hg : guardB t g = some true) (hs : appendV h (x.ev t) (y.ev t) 1 n true = some (v, h'))
  (hr : Run E ⟨.ops l :: k, put t d v, h'⟩) : Run E ⟨.ops ls :: k, t, h⟩ := by
 refine Run.opDo he hg (fun c w a o hh ht hcp => ?_) hr
 obtain ⟨odst, op, oty, pos, after, guard⟩ := o
 simp only at hcp
 obtain ⟨args, ats, tt, u, z, rfl, hxs, hts, hu, hel, hb, hstr⟩ := cOp_appendB hcp
 have hr2 := opds_rel ht hxs
 have hsz : (args.map a.eval).size = 2 := by rw [← hr2.1]; rfl
 have hx := hr2.2 0 (by simp) (by omega)
 have hy := hr2.2 1 (by simp) (by omega)
 simp only [List.map_cons, List.getElem_cons_zero, List.getElem_cons_succ] at hx hy
 obtain ⟨cv, w', c', h1, h2, h3, h4, -⟩ := sound_appendX (P := E.P) (ty := oty) (u := u) hh hel hb (.inl ⟨rfl, hstr, rfl⟩) hx hy hs
 have happ : ∀ xc yc, Builtin.append_ ats oty #[xc, yc] = Builtin.append_ #[tt, u] oty #[xc, yc] := by
  intro xc yc
  simp [Builtin.append_, hts, hu]
 refine ⟨.value cv, w', c', ?_, .inl ⟨cv, rfl, h2⟩, h3, h4⟩
 have h1' := h1
 rw [← happ, ← args2 hsz] at h1'
 simp only [execOp, resolve, Sem.run_bind, Sem.run_pure, Result.andThen_ok, invoke, builtin]
 simp [h1', Sem.run_bind, Result.andThen]
theorem Run.opAN {E : Env} {t h k} {ls : List AOper} {d g x y n ty l} (he : ls = ⟨d, g, .appendB x y n ty⟩ :: l) (hg : guardB t g = some true) (hx0 : x.ev t = .nils) (hy0 : y.ev t = .str [])
  (hr : Run E ⟨.ops l :: k, put t d .nils, h⟩) : Run E ⟨.ops ls :: k, t, h⟩ := by
 refine Run.opDo he hg (fun c w a o hh ht hcp => ?_) hr
 obtain ⟨odst, op, oty, pos, after, guard⟩ := o
 simp only at hcp
 obtain ⟨args, ats, tt, u, z, rfl, hxs, hts, hu, hel, hb, hstr⟩ := cOp_appendB hcp
 have hr2 := opds_rel ht hxs
 have hsz : (args.map a.eval).size = 2 := by rw [← hr2.1]; rfl
 have hx := hr2.2 0 (by simp) (by omega)
 have hy := hr2.2 1 (by simp) (by omega)
 simp only [List.map_cons, List.getElem_cons_zero, List.getElem_cons_succ, hx0, hy0] at hx hy
 obtain ⟨e, i, hut, hi, his, -⟩ := cElem_spec hel
 obtain ⟨news, n1, n2, n3⟩ := src_sound (P := E.P) (sz := 1) (str := true) (es := []) (u := u) hh hy rfl (.inl ⟨rfl, hstr, rfl⟩)
 have hnn : news = [] := by simpa using n1
 subst hnn
 generalize hyc : (args.map a.eval)[1]'(by omega) = yc at *
 rw [← his] at n3
 have h1 := run_append_nothing w tt u oty e i hut hi none 0 0 (Nat.le_refl _) _ n3
 rw [← hyc] at h1
 have happ : ∀ xc yc, Builtin.append_ ats oty #[xc, yc] = Builtin.append_ #[tt, u] oty #[xc, yc] := by
  intro xc yc
  simp [Builtin.append_, hts, hu]
 refine ⟨.value (.slice none 0 0), w, c, ?_, .inl ⟨_, rfl, .nils ..⟩, hh, Adv.refl ..⟩
 rw [← happ, ← hx.nils_inv, ← args2 hsz] at h1
 simp only [execOp, resolve, Sem.run_bind, Sem.run_pure, Result.andThen_ok, invoke, builtin]
 simp [h1, Sem.run_bind, Result.andThen, hx.nils_inv]
theorem HRel.below {c : Ctx} {w w' : World} {H : List O} (hh : HRel c w H) (hb : Below w.heap.size w w') : HRel c w' H ∧ Adv c w H c w' H := by
 have hs : ∀ b, (Owns c H b ∨ ∃ cs, c.ro b = some cs) → w'.heap[b]? = w.heap[b]? := by
  rintro b (ho | ⟨cs, ho⟩)
  ·exact hb.block b (hh.owns_lt ho)
  ·obtain ⟨e, fr, h1⟩ := hh.ro b cs ho
   exact hb.block b (Array.getElem?_eq_some_iff.1 h1).1
 exact ⟨hh.other hs, fun _ _ h => h, fun _ _ h => h, Nat.le_refl _, fun _ _ h => h, hb.size, fun b hlt _ => hb.block b hlt, fun _ _ h _ => .inl h, fun _ _ h => .inl h, hb.os, hb.output, hb.tape⟩
end Sx
