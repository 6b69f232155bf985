/-
  What comes in: a value that is read by its type is told by an abstract one.
-/
import Derived.Test.YthphkcpbglhabaaGreatDoorSx7
import Derived.Carry
import Derived.Below
import GoSem.ClaimJoined
namespace Sx
open Go Go.RowKit
set_option linter.unusedSimpArgs false
set_option linter.unusedVariables false

/-- a cell's shape -/
inductive CSh where
  | b
  | i (k : IntKind)
  | s
  | l (es : List CSh)

mutual
def VSh : CSh → V → Prop
  | .b, v => ∃ x, v = .bool x
  | .i k, v => ∃ n, v = .int k n ∧ (Lit.int k n).wf = true
  | .s, v => ∃ l, v = .str l
  | .l es, v => ∃ els, v = .vs els es.length ∧ ∀ e ∈ els, VShs es e
def VShs : List CSh → List V → Prop
  | [], [] => True
  | c :: cs, v :: vs => VSh c v ∧ VShs cs vs
  | _, _ => False
end

mutual
def cSh (P : Program) : Nat → TypeId → Option (List CSh)
  | 0, _ => none
  | n + 1, t => match P.underlying t with
    | some .bool => some [.b]
    | some (.int k) => some [.i k]
    | some .string => some [.s]
    | some (.slice e) => match cSh P n e with
      | some l => if l.length = P.cellsOf e ∧ 0 < l.length then some [.l l] else none
      | none => none
    | some (.struct fs) => match cShF P n fs.toList 0 with
      | some l => if l.length = P.cellsOf t then some l else none
      | none => none
    | some (.array m e) => match cSh P n e with
      | some l => if l.length = P.cellsOf e ∧ m * l.length = P.cellsOf t then some (List.replicate m l).flatten else none
      | none => none
    | _ => none
def cShF (P : Program) : Nat → List Field → Nat → Option (List CSh)
  | _, [], _ => some []
  | 0, _ :: _, _ => none
  | n + 1, f :: fs, off => match cSh P n f.type, cShF P n fs (off + P.cellsOf f.type) with
    | some l, some r => if f.offset = off ∧ l.length = P.cellsOf f.type then some (l ++ r) else none
    | _, _ => none
end

theorem VShs.len : ∀ {sh vs}, VShs sh vs → sh.length = vs.length
  | [], [], _ => rfl
  | _ :: sh, _ :: vs, h => by simp only [VShs] at h; simp [h.2.len]
  | [], _ :: _, h => by simp only [VShs] at h
  | _ :: _, [], h => by simp only [VShs] at h
theorem VShs.app : ∀ {a b x y}, VShs a x → VShs b y → VShs (a ++ b) (x ++ y)
  | [], b, [], y, _, h => h
  | _ :: a, b, _ :: x, y, h, k => by simp only [VShs] at h; simp only [List.cons_append, VShs]; exact ⟨h.1, h.2.app k⟩
  | [], _, _ :: _, _, h, _ => by simp only [VShs] at h
  | _ :: _, _, [], _, h, _ => by simp only [VShs] at h

/-- what is there is not written over -/
def roOf (w : World) : Ro := fun b => match w.heap[b]? with
  | some (.cells cc _ _) => some cc
  | _ => none

theorem roOf_some {w : World} {b : Nat} {cc : Array Value} (h : roOf w b = some cc) : ∃ e fr, w.heap[b]? = some (.cells cc e fr) := by
  unfold roOf at h
  split at h
  · rename_i cc' e fr hw; cases h; exact ⟨e, fr, hw⟩
  · cases h

theorem cell_some {w : World} {a : Addr} {v : Value} (h : w.cell? a = some v) : ∃ cc, roOf w a.block = some cc ∧ a.spot = none ∧ cc[a.off]? = some v := by
  unfold World.cell? at h
  unfold roOf
  split at h
  · rename_i cc e fr hw
    split at h
    · cases h
    · rename_i hs
      refine ⟨cc, by simp [hw], by simpa using hs, h⟩
  · cases h

/-- told cell by cell -/
structure Told (w : World) (sh : List CSh) (cs : List Value) (vs : List V) : Prop where
  sh : VShs sh vs
  len : vs.length = cs.length
  ones : V.ones vs = true
  rel : ∀ i (h : i < vs.length) (h' : i < cs.length), VRel (roOf w) Pl.none vs[i] cs[i]

theorem Told.app {w sh sh' cs cs' vs vs'} (h : Told w sh cs vs) (k : Told w sh' cs' vs') : Told w (sh ++ sh') (cs ++ cs') (vs ++ vs') := by
  refine ⟨h.sh.app k.sh, by simp [h.len, k.len], ones_append h.ones k.ones, fun i a b => ?_⟩
  by_cases hi : i < vs.length
  · rw [List.getElem_append_left hi, List.getElem_append_left (by rw [← h.len]; exact hi)]; exact h.rel _ _ _
  · rw [List.getElem_append_right (by omega), List.getElem_append_right (by rw [← h.len]; omega)]
    simp only [h.len]
    exact k.rel _ _ _

theorem Told.one {w c v cv} (h1 : VSh c v) (h2 : v.one = true) (h3 : VRel (roOf w) Pl.none v cv) : Told w [c] [cv] [v] :=
  ⟨by simp only [VShs]; exact ⟨h1, trivial⟩, rfl, by simp [V.ones, h2], fun i a b => by
    have : i = 0 := by simpa using a
    subst this; exact h3⟩

theorem mapM_get {α β} {f : α → Option β} {l : List α} {r : List β} (h : l.mapM f = some r) : l.length = r.length ∧ ∀ i (h : i < l.length) (h' : i < r.length), f l[i] = some r[i] := mapM_some f l r h

theorem choose_list {α : Type} (Q : Nat → α → Prop) : ∀ n, (∀ i, i < n → ∃ x, Q i x) → ∃ l : List α, l.length = n ∧ ∀ i (h : i < l.length), Q i l[i]
  | 0, _ => ⟨[], rfl, fun i h => by simp at h⟩
  | n + 1, h => by
    obtain ⟨l, h1, h2⟩ := choose_list Q n fun i hi => h i (by omega)
    obtain ⟨x, hx⟩ := h n (by omega)
    refine ⟨l ++ [x], by simp [h1], fun i hi => ?_⟩
    by_cases e : i < l.length
    · rw [List.getElem_append_left e]; exact h2 i e
    · have : i = n := by simp at hi; omega
      subst this
      rw [List.getElem_append_right (by omega)]; simpa using hx

section
variable {H : Type} {enc : TypeId × Value → H} {P : Program} {w : World} {base : Nat}

theorem rd_fields {fuel : Nat} (ih : ∀ {t : TypeId} {cs : List Value} {d ps n sh}, DataW.trod enc P w 0 (fun _ => true) true fuel t cs = some (d, ps) → cSh P n t = some sh → ∃ vs, Told w sh cs vs) :
    ∀ {fs : List Field} {off n : Nat} {sh : List CSh} {cs : List Value} {r}, cShF P n fs off = some sh → off + sh.length ≤ cs.length → fs.mapM (fun f => DataW.trod enc P w 0 (fun _ => true) true fuel f.type ((cs.drop f.offset).take (P.cellsOf f.type))) = some r →
      ∃ vs, Told w sh ((cs.drop off).take sh.length) vs
  | [], off, n, sh, cs, r, h1, h2, h3 => by
    cases n <;> (simp only [cShF] at h1; cases h1) <;> exact ⟨[], ⟨trivial, by simp, rfl, fun i h => by simp at h⟩⟩
  | f :: fs, off, 0, sh, cs, r, h1, h2, h3 => by simp only [cShF] at h1; cases h1
  | f :: fs, off, n + 1, sh, cs, r, h1, h2, h3 => by
    simp only [cShF] at h1
    split at h1
    · rename_i l rr hl hr
      split at h1 <;> cases h1
      rename_i hc
      obtain ⟨rfl, hcl⟩ := hc
      simp only [List.mapM_cons] at h3
      cases hf : DataW.trod enc P w 0 (fun _ => true) true fuel f.type ((cs.drop f.offset).take (P.cellsOf f.type)) with
      | none => simp [hf] at h3
      | some dp =>
        cases hfs : fs.mapM (fun f => DataW.trod enc P w 0 (fun _ => true) true fuel f.type ((cs.drop f.offset).take (P.cellsOf f.type))) with
        | none => simp [hf, hfs] at h3
        | some r' =>
          obtain ⟨v1, k1⟩ := ih (d := dp.1) (ps := dp.2) hf hl
          simp only [List.length_append] at h2
          obtain ⟨v2, k2⟩ := rd_fields ih hr (by omega) hfs
          refine ⟨v1 ++ v2, ?_⟩
          have := k1.app k2
          have e : (cs.drop f.offset).take (P.cellsOf f.type) ++ (cs.drop (f.offset + P.cellsOf f.type)).take rr.length = (cs.drop f.offset).take (l ++ rr).length := by
            rw [List.length_append, hcl, List.take_add, List.drop_drop]
          rwa [e] at this
    · cases h1

theorem rd_array {fuel : Nat} (ih : ∀ {t : TypeId} {cs : List Value} {d ps n sh}, DataW.trod enc P w 0 (fun _ => true) true fuel t cs = some (d, ps) → cSh P n t = some sh → ∃ vs, Told w sh cs vs) {e : TypeId} {n : Nat} {l : List CSh} (hl : cSh P n e = some l) (hc : l.length = P.cellsOf e) {cs : List Value} :
    ∀ m, m * l.length ≤ cs.length → (∀ i, i < m → ∃ x, DataW.trod enc P w 0 (fun _ => true) true fuel e ((cs.drop (i * P.cellsOf e)).take (P.cellsOf e)) = some x) → ∃ vs, Told w (List.replicate m l).flatten (cs.take (m * l.length)) vs
  | 0, _, _ => ⟨[], ⟨trivial, by simp, rfl, fun i h => by simp at h⟩⟩
  | m + 1, h1, h2 => by
    have hm : (m + 1) * l.length = m * l.length + l.length := by rw [Nat.add_mul, Nat.one_mul]
    obtain ⟨v1, k1⟩ := rd_array ih hl hc m (by omega) fun i hi => h2 i (by omega)
    obtain ⟨x, hx⟩ := h2 m (by omega)
    obtain ⟨v2, k2⟩ := ih (d := x.1) (ps := x.2) hx hl
    refine ⟨v1 ++ v2, ?_⟩
    have := k1.app k2
    have e1 : (List.replicate m l).flatten ++ l = (List.replicate (m + 1) l).flatten := by rw [List.replicate_succ', List.flatten_append]; simp
    have e2 : cs.take (m * l.length) ++ (cs.drop (m * P.cellsOf e)).take (P.cellsOf e) = cs.take ((m + 1) * l.length) := by rw [hm, List.take_add, hc]
    rwa [e1, e2] at this

theorem trod_bool {fuel t cs x} (hu : P.underlying t = some .bool) (h : DataW.trod enc P w 0 (fun _ => true) true (fuel + 1) t cs = some x) : ∃ b, cs = [.bool b] := by
  simp only [DataW.trod, hu] at h
  rcases cs with _ | ⟨v, _ | ⟨u, r⟩⟩
  · simp at h
  · cases v <;> simp at h; exact ⟨_, rfl⟩
  · cases v <;> simp at h
theorem trod_int {fuel t cs x k} (hu : P.underlying t = some (.int k)) (h : DataW.trod enc P w 0 (fun _ => true) true (fuel + 1) t cs = some x) : ∃ n, cs = [.int k n] ∧ (Lit.int k n).wf = true := by
  simp only [DataW.trod, hu] at h
  rcases cs with _ | ⟨v, _ | ⟨u, r⟩⟩
  · simp at h
  · cases v <;> simp at h
    obtain ⟨⟨rfl, h2⟩, _⟩ := h
    exact ⟨_, rfl, h2⟩
  · cases v <;> simp at h
theorem trod_str {fuel t cs x} (hu : P.underlying t = some .string) (h : DataW.trod enc P w 0 (fun _ => true) true (fuel + 1) t cs = some x) : ∃ s, cs = [.string s] := by
  simp only [DataW.trod, hu] at h
  rcases cs with _ | ⟨v, _ | ⟨u, r⟩⟩
  · simp at h
  · cases v <;> simp at h; exact ⟨_, rfl⟩
  · cases v <;> simp at h
theorem trod_slice {fuel t cs x e} (hu : P.underlying t = some (.slice e)) (h : DataW.trod enc P w 0 (fun _ => true) true (fuel + 1) t cs = some x) : cs = [.slice none 0 0] ∨
    ∃ a len cap, cs = [.slice (some a) len cap] ∧ len ≤ cap ∧ ∀ i, i < cap → ∃ l y, w.cells? 0 (a.add (i * P.cellsOf e)) (P.cellsOf e) = some l ∧ DataW.trod enc P w 0 (fun _ => true) true fuel e l = some y := by
  simp only [DataW.trod, hu] at h
  rcases cs with _ | ⟨v, _ | ⟨u, r⟩⟩
  · simp at h
  · cases v <;> try (simp at h; done)
    rename_i a len cap
    cases a with
    | none =>
      left
      cases len <;> cases cap <;> simp at h ⊢
    | some a =>
      right
      refine ⟨a, len, cap, rfl, ?_⟩
      dsimp only at h
      split at h
      · rename_i hc
        refine ⟨hc.2.1, fun i hi => ?_⟩
        simp only [Option.bind_eq_some_iff, if_true, Option.map_eq_some_iff] at h
        obtain ⟨elems, h1, rest, h2, _⟩ := h
        have key : ∃ y, (w.cells? 0 (a.add (i * P.cellsOf e)) (P.cellsOf e)).bind (DataW.trod enc P w 0 (fun _ => true) true fuel e) = some y := by
          by_cases hl : i < len
          · obtain ⟨g1, g2⟩ := mapM_get h1
            have := g2 i (by simpa using hl) (by rw [← g1]; simpa using hl)
            simp only [List.getElem_range] at this
            exact ⟨_, this⟩
          · obtain ⟨g1, g2⟩ := mapM_get h2
            have hj : i - len < cap - len := by omega
            have := g2 (i - len) (by simpa using hj) (by rw [← g1]; simpa using hj)
            simp only [List.getElem_range] at this
            rw [show len + (i - len) = i by omega] at this
            exact ⟨_, this⟩
        obtain ⟨y, hy⟩ := key
        obtain ⟨l, e1, e2⟩ := Option.bind_eq_some_iff.1 hy
        exact ⟨l, y, e1, e2⟩
      · cases h
  · cases v <;> simp at h
theorem trod_struct {fuel t cs x fs} (hu : P.underlying t = some (.struct fs)) (h : DataW.trod enc P w 0 (fun _ => true) true (fuel + 1) t cs = some x) : cs.length = P.cellsOf t ∧
    ∃ r, fs.toList.mapM (fun f => DataW.trod enc P w 0 (fun _ => true) true fuel f.type ((cs.drop f.offset).take (P.cellsOf f.type))) = some r := by
  simp only [DataW.trod, hu] at h
  split at h
  · rename_i hc
    simp only [Option.map_eq_some_iff] at h
    obtain ⟨r, hr, _⟩ := h
    exact ⟨hc, r, hr⟩
  · cases h
theorem trod_array {fuel t cs x m e} (hu : P.underlying t = some (.array m e)) (h : DataW.trod enc P w 0 (fun _ => true) true (fuel + 1) t cs = some x) : cs.length = P.cellsOf t ∧
    ∀ i, i < m → ∃ y, DataW.trod enc P w 0 (fun _ => true) true fuel e ((cs.drop (i * P.cellsOf e)).take (P.cellsOf e)) = some y := by
  simp only [DataW.trod, hu] at h
  split at h
  · rename_i hc
    simp only [Option.map_eq_some_iff] at h
    obtain ⟨r, hr, _⟩ := h
    refine ⟨hc, fun i hi => ?_⟩
    obtain ⟨g1, g2⟩ := mapM_get hr
    have := g2 i (by simpa using hi) (by rw [← g1]; simpa using hi)
    simp only [List.getElem_range] at this
    exact ⟨_, this⟩
  · cases h

theorem add_off (a : Addr) (n : Nat) (hs : a.spot = none) : a.add n = ⟨a.block, a.off + n, none⟩ := by
  unfold Addr.add
  split
  · rename_i h; subst h; cases a; simp at hs; subst hs; rfl
  · rfl

theorem rd : ∀ {fuel : Nat} {t : TypeId} {cs : List Value} {d ps n sh}, DataW.trod enc P w 0 (fun _ => true) true fuel t cs = some (d, ps) → cSh P n t = some sh → ∃ vs, Told w sh cs vs
  | 0, t, cs, d, ps, n, sh, h, _ => by simp [DataW.trod] at h
  | fuel + 1, t, cs, d, ps, 0, sh, h, hs => by simp [cSh] at hs
  | fuel + 1, t, cs, d, ps, n + 1, sh, h, hs => by
    have ih : ∀ {t : TypeId} {cs : List Value} {d ps n sh}, DataW.trod enc P w 0 (fun _ => true) true fuel t cs = some (d, ps) → cSh P n t = some sh → ∃ vs, Told w sh cs vs := rd
    simp only [cSh] at hs
    split at hs
    · rename_i hu
      cases hs
      obtain ⟨b, rfl⟩ := trod_bool hu h
      exact ⟨_, Told.one (by simp only [VSh]; exact ⟨b, rfl⟩) rfl (.bool ..)⟩
    · rename_i k hu
      cases hs
      obtain ⟨m, rfl, hw⟩ := trod_int hu h
      exact ⟨_, Told.one (by simp only [VSh]; exact ⟨m, rfl, hw⟩) rfl (.int ..)⟩
    · rename_i hu
      cases hs
      obtain ⟨s, rfl⟩ := trod_str hu h
      refine ⟨[.str s.data.toList], Told.one (by simp only [VSh]; exact ⟨_, rfl⟩) rfl ?_⟩
      have : s = ⟨s.data.toList.toArray⟩ := by cases s; simp
      have h2 := VRel.str (ro := roOf w) Pl.none s.data.toList
      rw [← this] at h2; exact h2
    · rename_i e hu
      split at hs
      · rename_i l hl
        split at hs <;> cases hs
        rename_i hc
        obtain ⟨hc1, hc2⟩ := hc
        rcases trod_slice hu h with rfl | ⟨a, len, cap, rfl, hlc, hel⟩
        · exact ⟨[.vs [] l.length], Told.one (by simp only [VSh]; exact ⟨[], rfl, fun e he => by simp at he⟩) rfl (.vsnil ..)⟩
        · by_cases hcap : cap = 0
          · subst hcap
            have : len = 0 := by omega
            subst this
            exact ⟨[.vs [] l.length], Told.one (by simp only [VSh]; exact ⟨[], rfl, fun e he => by simp at he⟩) rfl (.vsnil ..)⟩
          · have hsz : 0 < P.cellsOf e := by omega
            -- the row that it lies in
            obtain ⟨l0, y0, c0, _⟩ := hel 0 (by omega)
            have hcell : ∀ {i : Nat} {l' : List Value}, w.cells? 0 (a.add (i * P.cellsOf e)) (P.cellsOf e) = some l' → l'.length = P.cellsOf e ∧ ∀ j (hj : j < l'.length), w.cell? ((a.add (i * P.cellsOf e)).add j) = some l'[j] := by
              intro i l' hl'
              simp only [World.cells?, Nat.zero_le, if_true] at hl'
              obtain ⟨g1, g2⟩ := mapM_get hl'
              refine ⟨by simpa using g1.symm, fun j hj => ?_⟩
              have := g2 j (by rw [g1]; exact hj) hj
              simpa using this
            obtain ⟨z1, z2⟩ := hcell c0
            have := z2 0 (by omega)
            have e0 : (a.add (0 * P.cellsOf e)).add 0 = a := by simp [Addr.add]
            rw [e0] at this
            obtain ⟨cc, hro, hspot, _⟩ := cell_some this
            have hget : ∀ i j (x : Value), w.cell? ((a.add (i * P.cellsOf e)).add j) = some x → cc[a.off + i * P.cellsOf e + j]? = some x := by
              intro i j x hx
              rw [add_off a _ hspot, add_off _ _ rfl] at hx
              obtain ⟨cc', h1, _, h3⟩ := cell_some hx
              simp only at h1 h3
              rw [hro] at h1; cases h1; exact h3
            obtain ⟨els, k1, k2⟩ := choose_list (fun i (vs : List V) => ∃ l' : List Value, (∀ j (hj : j < l'.length), cc[a.off + i * P.cellsOf e + j]? = some l'[j]) ∧ l'.length = P.cellsOf e ∧ Told w l l' vs) len fun i hi => by
              obtain ⟨l', y, e1, e2⟩ := hel i (by omega)
              obtain ⟨vs, hvs⟩ := ih (d := y.1) (ps := y.2) e2 hl
              obtain ⟨g1, g2⟩ := hcell e1
              exact ⟨vs, l', fun j hj => hget i j _ (g2 j hj), g1, hvs⟩
            have hlen : ∀ i (h : i < els.length), els[i].length = l.length := fun i h => by obtain ⟨_, _, _, ht⟩ := k2 i h; exact ht.sh.len.symm
            have hrel : VRel (roOf w) Pl.none (.vs els l.length) (.slice (some a) els.length cap) := by
              have ha : a = ⟨a.block, a.off, none⟩ := by cases a; simp at hspot; subst hspot; rfl
              rw [ha]
              refine .vs _ els l.length a.block a.off cap cc (fun i j => (cc[a.off + i * P.cellsOf e + j]?).getD undef) hro (by omega) hlen (fun x hx => ?_) (fun i j hi hj => ?_) (fun i hi j hj => ?_)
              · obtain ⟨i, hi, rfl⟩ := List.mem_iff_getElem.1 hx
                obtain ⟨_, _, _, ht⟩ := k2 i hi; exact ht.ones
              · obtain ⟨l', q1, q2, _⟩ := k2 i hi
                rw [hc1, q1 j (by omega)]; rfl
              · obtain ⟨l', q1, q2, ht⟩ := k2 i hi
                have hj' : j < l'.length := by rw [← ht.len]; exact hj
                simp only [q1 j hj', Option.getD_some]
                exact ht.rel j hj hj'
            rw [k1] at hrel
            refine ⟨[.vs els l.length], Told.one (by
              simp only [VSh]
              refine ⟨els, rfl, fun x hx => ?_⟩
              obtain ⟨i, hi, rfl⟩ := List.mem_iff_getElem.1 hx
              obtain ⟨_, _, _, ht⟩ := k2 i hi; exact ht.sh) rfl hrel⟩
      · cases hs
    · rename_i fs hu
      split at hs
      · rename_i l hl
        split at hs <;> cases hs
        rename_i hc
        obtain ⟨h1, r, h2⟩ := trod_struct hu h
        obtain ⟨vs, hvs⟩ := rd_fields ih hl (by omega) h2
        refine ⟨vs, ?_⟩
        rw [List.drop_zero, List.take_of_length_le (by omega)] at hvs
        exact hvs
      · cases hs
    · rename_i m e hu
      split at hs
      · rename_i l hl
        split at hs <;> cases hs
        rename_i hc
        obtain ⟨h1, h2⟩ := trod_array hu h
        obtain ⟨vs, hvs⟩ := rd_array ih hl hc.1 m (by omega) h2
        refine ⟨vs, ?_⟩
        rw [List.take_of_length_le (by omega)] at hvs
        exact hvs
      · cases hs
    · cases hs

/-- an argument of one cell -/
theorem rd_one {t : TypeId} {v : Value} {d ps n c} (h : DataW.Trod enc P w 0 (fun _ => true) true t v d ps) (hok : Value.okWide P w .any base t v) (hs : cSh P n t = some [c]) (hu : (match P.underlying t with | some (.struct _) | some (.array _ _) => false | _ => true) = true) :
    ∃ x, VSh c x ∧ VRel (roOf w) Pl.none x v := by
  obtain ⟨fuel, h⟩ := h
  obtain ⟨vs, hvs⟩ := rd h hs
  have hv : v.cells = #[v] := by
    cases v with
    | agg cs =>
      exfalso
      unfold Value.okWide at hok
      split at hok
      · rename_i heq; simp [heq] at hu
      · rename_i heq; simp [heq] at hu
      · unfold Cell.okWide at hok
        split at hok <;> simp_all [Cell.ok]
    | _ => rfl
  rw [hv] at hvs
  obtain ⟨h1, h2, h3, h4⟩ := hvs
  match vs, h1, h2, h4 with
  | [x], h1, _, h4 =>
    simp only [VShs] at h1
    exact ⟨x, h1.1, h4 0 (by simp) (by simp)⟩

/-- an argument of several cells -/
theorem rd_agg {t : TypeId} {v : Value} {d ps n sh} (h : DataW.Trod enc P w 0 (fun _ => true) true t v d ps) (hok : Value.okWide P w .any base t v) (hs : cSh P n t = some sh) (hu : (match P.underlying t with | some (.struct _) | some (.array _ _) => true | _ => false) = true) :
    ∃ vs, VShs sh vs ∧ VRel (roOf w) Pl.none (.agg vs) v := by
  obtain ⟨fuel, h⟩ := h
  obtain ⟨vs, hvs⟩ := rd h hs
  have hv : ∃ cs, v = .agg cs := by
    unfold Value.okWide at hok
    split at hok
    · obtain ⟨cs, h, _⟩ := hok; exact ⟨cs, h⟩
    · obtain ⟨cs, h, _⟩ := hok; exact ⟨cs, h⟩
    · simp_all
  obtain ⟨cs, rfl⟩ := hv
  refine ⟨vs, hvs.sh, .agg _ _ cs (by have := hvs.len; simpa [Value.cells] using this) fun i a b => ?_⟩
  have := hvs.rel i a (by simpa [Value.cells] using b)
  simpa [Value.cells] using this
end

theorem vrels0 {ro m} : VRels ro m [] #[] := VRels.nil ro m
theorem vrelsC {ro m v x vs} {xs : Array Value} (h : VRel ro m v x) (k : VRels ro m vs xs) : VRels ro m (v :: vs) (#[x] ++ xs) := by
  refine ⟨by have := k.1; simp; omega, fun i a b => ?_⟩
  cases i with
  | zero => simpa using h
  | succ i =>
    have := k.2 i (by simpa using a) (by simp at b; omega)
    simpa [Array.getElem_append] using this

theorem vs_map {α : Type} {f : α → List V} : ∀ {els : List (List V)}, (∀ e ∈ els, ∃ x, e = f x) → ∃ l : List α, els = l.map f
  | [], _ => ⟨[], rfl⟩
  | e :: els, h => by
    obtain ⟨x, rfl⟩ := h e List.mem_cons_self
    obtain ⟨l, rfl⟩ := vs_map fun e he => h e (List.mem_cons_of_mem _ he)
    exact ⟨x :: l, rfl⟩
theorem dec_sl {α : Type} {f : α → List V} {es : List CSh} {n : Nat} (hn : es.length = n) (hd : ∀ e, VShs es e → ∃ x, e = f x) {v : V} (h : VSh (.l es) v) : ∃ l : List α, v = .vs (l.map f) n := by
  simp only [VSh] at h
  obtain ⟨els, rfl, h2⟩ := h
  obtain ⟨l, rfl⟩ := vs_map fun e he => hd e (h2 e he)
  exact ⟨l, by rw [hn]⟩
theorem dec_cons {c : CSh} {cs : List CSh} {e : List V} (h : VShs (c :: cs) e) : ∃ v vs, e = v :: vs ∧ VSh c v ∧ VShs cs vs := by
  cases e with
  | nil => simp only [VShs] at h
  | cons v vs => simp only [VShs] at h; exact ⟨v, vs, rfl, h⟩
theorem dec_nil {e : List V} (h : VShs [] e) : e = [] := by
  cases e with
  | nil => rfl
  | cons v vs => simp only [VShs] at h
theorem dec_i {k : IntKind} {v : V} (h : VSh (.i k) v) : ∃ n, v = .int k n ∧ (Lit.int k n).wf = true := by simpa only [VSh] using h
theorem dec_b {v : V} (h : VSh .b v) : ∃ b, v = .bool b := by simpa only [VSh] using h
theorem dec_s {v : V} (h : VSh .s v) : ∃ l, v = .str l := by simpa only [VSh] using h

/-- the laid blocks lie in a world -/
def GlW (w : World) : Prop := ∀ b cs, gl b = some cs → roOf w b = some cs
/-- a law's contract, as its row asks it -/
theorem tri_law {P : Program} {f : FuncId} {as : List V} (ht : Tri P f as [] (fun v H => v = .bool true ∧ H = [])) {w : World} {cargs : Array Value} (hg : GlW w) (ha : VRels (roOf w) Pl.none as cargs) :
    Calls P f cargs w fun e w' => e = .returned (.bool true) ∧ Below w.heap.size w w' := by
  have hh : HRel ⟨Pl.none, roOf w⟩ w [] := ⟨fun b cs hb => roOf_some hb, fun i p h => (by cases h), fun i o h => (by simp at h), fun i j p q hi => (by obtain ⟨o, ho, _⟩ := hi; simp at ho), hg⟩
  refine (ht.2 ⟨Pl.none, roOf w⟩ w cargs hh ha).mono ?_
  rintro e w' ⟨v, H', c', cv, ⟨rfl, rfl⟩, rfl, hv, _, hadv⟩
  rw [hv.bool_inv]
  refine ⟨rfl, hadv.os, hadv.tape, hadv.output, hadv.size, fun k hk => hadv.frame k hk ?_⟩
  rintro ⟨i, p, ⟨o, ho, _⟩, _⟩
  simp at ho

end Sx
