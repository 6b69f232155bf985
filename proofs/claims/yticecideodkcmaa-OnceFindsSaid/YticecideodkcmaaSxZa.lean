/-
  Sx, part Za: a region of open order whose first operations only read, and whose others come one behind the other; empty lists within structs.
-/
import Derived.Test.YticecideodkcmaaSxZ
namespace Sx
open Go
set_option linter.unusedSimpArgs false
set_option linter.unusedVariables false

/-- one behind the other -/
def SeqR (P : Program) : List AOper → T → List O → (T → List O → Prop) → Prop
  | [], t, h, K => K t h
  | o :: l, t, h, K => AStep P t h o (fun t' h' => SeqR P l t' h' K)

def chain1 (L : DL) (y : Nat) (pend : List Nat) : Bool :=
  statOk L (List.range' y (L.length - y)) pend && pend.all (fun x => !(List.range' y (L.length - y)).contains x) && (List.range' (y + 1) (L.length - (y + 1))).all (fun z => (L.deps z).contains y)

def chainOk (L : DL) (n : Nat) : Bool := quietTo L n && decide (n < L.length) && chain1 L n (List.range n).reverse && (List.range n).all (fun x => (clo L L.length (L.deps n)).contains x) &&
  (List.range' (n + 1) (L.length - (n + 1))).all (fun y => chain1 L y []) && statOk L [] []

theorem chain_go {E : Env} {L : DL} {k} (hs : statOk L [] [] = true) : ∀ (m y : Nat), y + m = L.length → (∀ z, y ≤ z → z < L.length → chain1 L z [] = true) → ∀ {t h}, SeqR E.P ((L.drop y).map (·.1)) t h (fun t h => Run E ⟨k, t, h⟩) → RunD E L (List.range' y m) [] k t h
  | 0, y, hy, _, t, h, hr => by
    have : L.drop y = [] := List.drop_eq_nil_of_le (by omega)
    rw [this] at hr
    exact RunD.fin hs trivial hr
  | m + 1, y, hy, hc, t, h, hr => by
    have hlt : y < L.length := by omega
    rw [List.drop_eq_getElem_cons hlt, List.map_cons] at hr
    have h1 := hc y (Nat.le_refl _) hlt
    have em : L.length - y = m + 1 := by omega
    have em2 : L.length - (y + 1) = m := by omega
    simp only [chain1, em, em2, Bool.and_eq_true] at h1
    rw [List.range'_succ] at h1 ⊢
    refine RunD.chain (ds := (L[y]).2) (o := (L[y]).1) ?_ trivial (by rw [List.getElem?_eq_getElem hlt]) ?_
    · simp only [Bool.and_eq_true, decide_eq_true_eq]
      exact ⟨⟨⟨⟨h1.1.1, hlt⟩, by rw [← List.range'_succ]; exact List.nodup_range'⟩, rfl⟩, h1.2⟩
    · have hr' : AStep E.P t h (L[y]).1 (fun t' h' => SeqR E.P ((L.drop (y + 1)).map (·.1)) t' h' (fun t h => Run E ⟨k, t, h⟩)) := hr
      have hmono : ∀ {K K' : T → List O → Prop}, (∀ t h, K t h → K' t h) → AStep E.P t h (L[y]).1 K → AStep E.P t h (L[y]).1 K' := by
        intro K K' hk ha
        rcases ha with ⟨a, b⟩ | ⟨a, ⟨v, h', b, c⟩ | ⟨fo, args, f, caps, Q, b, c, d, e⟩⟩
        · exact .inl ⟨a, hk _ _ b⟩
        · exact .inr ⟨a, .inl ⟨v, h', b, hk _ _ c⟩⟩
        · exact .inr ⟨a, .inr ⟨fo, args, f, caps, Q, b, c, d, fun v h' hq => hk _ _ (e v h' hq)⟩⟩
      exact hmono (fun t' h' hx => chain_go hs m (y + 1) (by omega) (fun z hz hz2 => hc z (by omega) hz2) hx) hr'

theorem Run.qchain {E : Env} (hm : E.P.follows .mixedOrders = true) {L : DL} {t h k} (n : Nat) (hq : chainOk L n = true)
    (hr : execQ E.P ((L.take n).map (·.1)) t h (fun t h => SeqR E.P ((L.drop n).map (·.1)) t h (fun t h => Run E ⟨k, t, h⟩))) : Run E ⟨.code (.drawn L) :: k, t, h⟩ := by
  simp only [chainOk, Bool.and_eq_true, decide_eq_true_eq] at hq
  obtain ⟨⟨⟨⟨⟨h1, h2⟩, h3⟩, h4⟩, h5⟩, h6⟩ := hq
  refine Run.quietTo hm n h1 (execQ_mono (fun t h hx hpo => ?_) hr)
  have em : L.length - n = (L.length - (n + 1)) + 1 := by omega
  rw [List.drop_eq_getElem_cons h2, List.map_cons] at hx
  simp only [chain1, Bool.and_eq_true] at h3
  rw [em, List.range'_succ] at h3 ⊢
  refine RunD.chain (ds := (L[n]).2) (o := (L[n]).1) ?_ hpo (by rw [List.getElem?_eq_getElem h2]) ?_
  · simp only [Bool.and_eq_true, decide_eq_true_eq]
    exact ⟨⟨⟨⟨h3.1.1, h2⟩, by rw [← List.range'_succ]; exact List.nodup_range'⟩, h3.1.2⟩, h3.2⟩
  · have hd : L.deps n = (L[n]).2 := by simp [DL.deps, List.getElem?_eq_getElem h2]
    have hnil : ((List.range n).reverse.filter fun x => !(clo L L.length (L[n]).2).contains x) = [] := by
      rw [List.filter_eq_nil_iff]
      intro x hx
      rw [← hd]
      have := List.all_eq_true.1 h4 x (by simpa using hx)
      simp only [this]; simp
    rw [hnil]
    have hmono : ∀ {K K' : T → List O → Prop}, (∀ t h, K t h → K' t h) → AStep E.P t h (L[n]).1 K → AStep E.P t h (L[n]).1 K' := by
      intro K K' hk ha
      rcases ha with ⟨a, b⟩ | ⟨a, ⟨v, h', b, c⟩ | ⟨fo, args, f, caps, Q, b, c, d, e⟩⟩
      · exact .inl ⟨a, hk _ _ b⟩
      · exact .inr ⟨a, .inl ⟨v, h', b, hk _ _ c⟩⟩
      · exact .inr ⟨a, .inr ⟨fo, args, f, caps, Q, b, c, d, fun v h' hq => hk _ _ (e v h' hq)⟩⟩
    refine hmono (fun t' h' hx => chain_go h6 _ (n + 1) (by omega) (fun z hz hz2 => ?_) hx) hx
    exact List.all_eq_true.1 h5 z (by simp; omega)

section seq
variable {P : Program} {t : T} {h : List O} {K : T → List O → Prop}
theorem SeqR.E {ls : List AOper} (he : ls = []) (hk : K t h) : SeqR P ls t h K := by subst he; exact hk
theorem SeqR.A {ls : List AOper} {d g o l v h'} (he : ls = ⟨d, g, o⟩ :: l) (hg : guardB t g = some true) (hs : opStep t h o = some (v, h')) (hr : SeqR P l (put t d v) h' K) : SeqR P ls t h K := by
  subst he; exact .inr ⟨hg, .inl ⟨v, h', hs, hr⟩⟩
theorem SeqR.o0 {ls : List AOper} {d o l v h'} (he : ls = ⟨d, none, o⟩ :: l) (hs : opStep t h o = some (v, h')) (hr : SeqR P l (put t d v) h' K) : SeqR P ls t h K := SeqR.A he rfl hs hr
theorem SeqR.N {ls : List AOper} {d g o l} (he : ls = ⟨d, g, o⟩ :: l) (hg : guardB t g = some false) (hr : SeqR P l (put t d (.tup [])) h K) : SeqR P ls t h K := by subst he; exact .inl ⟨hg, hr⟩
theorem SeqR.C {ls : List AOper} {d g fo args l f caps Q} (he : ls = ⟨d, g, .call fo args⟩ :: l) (hg : guardB t g = some true) (hf : fo.ev t = .fn f caps) (htri : Tri P f (args.map (Opd.ev t) ++ caps) h Q)
    (hk : ∀ v h', Q v h' → SeqR P l (put t d v) h' K) : SeqR P ls t h K := by
  subst he; exact .inr ⟨hg, .inr ⟨fo, args, f, caps, Q, rfl, hf, htri, hk⟩⟩
end seq

/-- a nil list within a struct is a list at no place -/
theorem Run.nilC {E : Env} {k t h} (id j sz ty : Nat) {cs : List V} (hid : h[id]? = some (.row cs)) (hj : cs[j]? = some .nils)
    (hr : Run E ⟨k, t, h.set id (.row (cs.set j (.sl h.length 0 0 sz none))) ++ [.arr [] sz, .ty h.length ty none]⟩) : Run E ⟨k, t, h⟩ := by
  intro c0 w0 h0 c w a hadv hh htr hd b items cs' hb hbk hk
  simp only at hadv hh htr hk
  obtain ⟨c1, p, h1, h2, h3, h4⟩ := nothing_ok hh rfl (fun i x hx _ => hx) sz
  obtain ⟨c2, h5, h6⟩ := ghost_ok h3 (ty := ty) (n := none) h1 (fun hn => by rw [h2] at hn; cases hn)
  have hlt : id < h.length := (List.getElem?_eq_some_iff.1 hid).1
  have hid2 : (h ++ [O.arr [] sz] ++ [O.ty h.length ty none])[id]? = some (.row cs) := by
    rw [List.append_assoc, List.getElem?_append_left hlt]; exact hid
  have hadv2 := (hadv.trans h0 h4).trans h0 h6
  obtain ⟨q, cc, e, fr, g1, g2, g3, g4, g5, g6, g7, g8⟩ := row_cells h5 hid2
  have hrow : ORel c2.ro c2.m w q (.row (cs.set j (.sl h.length 0 0 sz none))) := by
    refine ⟨cc, ⟨g2, g4, g5, e, fr, g3, g8⟩, by simpa using g6, fun i hi hi' => ?_⟩
    obtain ⟨x, hx, hv⟩ := g7 i (by simpa using hi)
    rw [Array.getElem?_eq_getElem hi'] at hx
    cases hx
    by_cases e : j = i
    · subst e
      rw [List.getElem_set_self]
      have : cs[j]'(by simpa using hi) = .nils := by rw [List.getElem?_eq_getElem (by simpa using hi)] at hj; exact Option.some.inj hj
      rw [this] at hv
      rw [hv.nils_inv]
      exact .slnil _ _ _ p none (h6.m _ _ h1) h2
    · rw [List.getElem_set_ne e]; exact hv
  obtain ⟨k1, k2⟩ := h5.change (w' := w) id _ (.row (cs.set j (.sl h.length 0 0 sz none))) q hid2 trivial g1 g2 rfl (fun _ _ => rfl) rfl rfl rfl hrow
  have hset : (h ++ [O.arr [] sz] ++ [O.ty h.length ty none]).set id (.row (cs.set j (.sl h.length 0 0 sz none))) = h.set id (.row (cs.set j (.sl h.length 0 0 sz none))) ++ [.arr [] sz, .ty h.length ty none] := by
    rw [List.append_assoc, List.set_append_left _ _ hlt]; rfl
  rw [hset] at k1 k2
  exact hr c0 w0 h0 c2 w a (hadv2.trans h0 k2) k1 ((htr.mono h4.m h4.ro).mono h6.m h6.ro) hd b items cs' hb hbk hk

end Sx
