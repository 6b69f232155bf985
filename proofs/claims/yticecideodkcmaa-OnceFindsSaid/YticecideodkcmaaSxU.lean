/-
  Sx, part U: a region whose order is open and that only reads runs as if it were told.
-/
import Derived.Test.YticecideodkcmaaSxT
namespace Sx
open Go
set_option linter.unusedSimpArgs false
set_option linter.unusedVariables false

/-- it changes no object and calls nothing -/
def opQuiet : AOp → Bool
  | .mv _ | .pick .. | .build .. | .load .. | .bin .. | .eq .. | .eqG .. | .un .. | .convI .. | .convS _ | .b2s _ | .fld .. | .fldA .. | .idxA .. | .idxS .. | .idxG .. | .slcS .. | .slc .. | .lenS _ | .lenL _ | .ext .. | .nilck _ | .mm .. | .mkf .. | .cvU _ | .cvP .. | .usd _ | .call .. => true
  | _ => false

theorem opQuiet_step {o : AOp} (hq : opQuiet o = true) {t h v h'} (hs : opStep t h o = some (v, h')) : h' = h := by
  cases o <;> simp only [opQuiet, Bool.false_eq_true] at hq <;> simp only [opStep] at hs
  all_goals
    repeat' first
      | (split at hs)
    all_goals first
      | (cases hs; rfl)
      | (exact (Option.some.inj hs |> Prod.mk.inj |>.2).symm)
      | (cases hs)

/-- the operations of such a region, one behind the other -/
def execQ (P : Program) : List AOper → T → List O → (T → List O → Prop) → Prop
  | [], t, h, K => K t h
  | ⟨d, g, o⟩ :: l, t, h, K => match guardB t g with
    | some true => if isCall o = true then ∃ v, CallIs P t h o v ∧ execQ P l (put t d v) h K else (match opStep t h o with
      | some (v, h') => execQ P l (put t d v) h' K
      | none => False)
    | some false => execQ P l (put t d (.tup [])) h K
    | none => False

def quiet1 (L : DL) (n x : Nat) : Bool := match L.dst x with
  | none => true
  | some d => (List.range L.length).all fun y => (if y ≤ x then !(L.rd y).contains d else (L.deps y).contains x || !(L.rd y).contains d) && (y == x || decide (n ≤ y) || L.dst y != some d)

/-- the first so many only read, and may run when they like -/
def quietTo (L : DL) (n : Nat) : Bool := decide (n ≤ L.length) && (L.take n).all (fun x => opQuiet x.1.op) && (List.range n).all (quiet1 L n)
def quietOk (L : DL) : Bool := quietTo L L.length && statOk L [] (List.range L.length).reverse

theorem execQ_mono {P : Program} {K K' : T → List O → Prop} (hk : ∀ t h, K t h → K' t h) : ∀ {l : List AOper} {t h}, execQ P l t h K → execQ P l t h K'
  | [], _, _, h => hk _ _ h
  | ⟨d, g, o⟩ :: l, t, h, hq => by
    simp only [execQ] at hq ⊢
    revert hq
    split
    · split
      · exact fun ⟨v, h1, h2⟩ => ⟨v, h1, execQ_mono hk h2⟩
      · split
        · exact fun hq => execQ_mono hk hq
        · exact id
    · exact fun hq => execQ_mono hk hq
    · exact id

theorem PendOk.put {P : Program} {L : DL} {t h v} {d : Option Nat} : ∀ {pend : List Nat}, PendOk P L t h pend → (∀ e, d = some e → ∀ y ∈ pend, e ∉ L.rd y ∧ L.dst y ≠ some e) → PendOk P L (Sx.put t d v) h pend
  | [], _, _ => trivial
  | y :: ys, hp, hd => by
    refine ⟨?_, hp.2.put fun e he z hz => hd e he z (List.mem_cons_of_mem _ hz)⟩
    have h1 := hp.1
    cases hL : L[y]? with
    | none => trivial
    | some ods =>
      obtain ⟨o, ds⟩ := ods
      rw [hL] at h1
      have hrd : L.rd y = o.rd := by simp [DL.rd, hL]
      have hds : L.dst y = o.dst := by simp [DL.dst, hL]
      have hsame : ∀ i ∈ o.rd, t i = Sx.put t d v i := by
        intro i hi
        cases d with
        | none => rfl
        | some e =>
          have := (hd e rfl y List.mem_cons_self).1
          rw [hrd] at this
          have hne : i ≠ e := fun he => this (he ▸ hi)
          simp [Sx.put, upd, hne]
      have hdst : ∀ e', o.dst = some e' → Sx.put t d v e' = t e' := by
        intro e' he'
        cases d with
        | none => rfl
        | some e =>
          have := (hd e rfl y List.mem_cons_self).2
          rw [hds, he'] at this
          have hne : e' ≠ e := fun he => this (by rw [he])
          simp [Sx.put, upd, hne]
      have hg : guardB t o.g = guardB (Sx.put t d v) o.g := guardB_congr fun j b e => hsame j (by simp only [AOper.rd, e]; simp)
      have hso : ∀ i ∈ o.op.rd, t i = Sx.put t d v i := fun i hi => hsame i (by simp only [AOper.rd]; simp [hi])
      have hop : opStep t h o.op = opStep (Sx.put t d v) h o.op := opStep_congr hso
      simp only at h1 ⊢
      rw [← hg, ← hop]
      rcases h1 with ⟨g1, v1, g2, g3⟩ | ⟨g1, g3⟩
      · exact .inl ⟨g1, v1, g2.imp id (fun hc => hc.congr hso), fun e he => (hdst e he).trans (g3 e he)⟩
      · exact .inr ⟨g1, fun e he => (hdst e he).trans (g3 e he)⟩

theorem quiet_go {E : Env} {L : DL} {k} {m : Nat} (hq : quietTo L m = true) {rest : List Nat} (hrest : ∀ i ∈ rest, m ≤ i) (hnd : rest.Nodup) : ∀ (n x : Nat), x + n = m → ∀ {t h}, PendOk E.P L t h (List.range x).reverse →
    execQ E.P (((L.take m).drop x).map (·.1)) t h (fun t h => PendOk E.P L t h (List.range m).reverse → RunD E L rest (List.range m).reverse k t h) → RunD E L (List.range' x n ++ rest) (List.range x).reverse k t h := by
  have hq' : (m ≤ L.length ∧ (L.take m).all (fun x => opQuiet x.1.op) = true) ∧ (List.range m).all (quiet1 L m) = true := by simpa only [quietTo, Bool.and_eq_true, decide_eq_true_eq] using hq
  obtain ⟨⟨hm, hq1⟩, hq2⟩ := hq'
  have hquiet : ∀ x d, x < m → L.dst x = some d → ∀ y, y < L.length → (y ≤ x → d ∉ L.rd y) ∧ (x < y → x ∈ L.deps y ∨ d ∉ L.rd y) ∧ (y ≠ x → y < m → L.dst y ≠ some d) := by
    intro x d hx hd y hy
    have h1 := List.all_eq_true.1 hq2 x (List.mem_range.2 hx)
    simp only [quiet1, hd] at h1
    have h2 := List.all_eq_true.1 h1 y (List.mem_range.2 hy)
    simp only [Bool.and_eq_true, Bool.or_eq_true, beq_iff_eq, decide_eq_true_eq] at h2
    refine ⟨fun h => ?_, fun h => ?_, fun h h' => ?_⟩
    · have := h2.1; rw [if_pos h] at this; simpa using this
    · have := h2.1; rw [if_neg (by omega)] at this; simpa using this
    · rcases h2.2 with (h3 | h3) | h3
      · exact absurd h3 h
      · omega
      · simpa using h3
  intro n
  induction n with
  | zero =>
    intro x hx t h hp hr
    have hx' : x = m := by omega
    subst hx'
    have : ((L.take x).drop x) = [] := by simp
    rw [this] at hr
    simpa [execQ] using hr hp
  | succ n ih =>
    intro x hx t h hp hr
    have hxm : x < m := by omega
    have hxl : x < L.length := by omega
    have hL : L[x]? = some L[x] := List.getElem?_eq_getElem hxl
    have hdrop : (L.take m).drop x = L[x] :: (L.take m).drop (x + 1) := by
      rw [List.drop_eq_getElem_cons (by simp; omega)]
      simp
    rw [hdrop] at hr
    simp only [List.map_cons] at hr
    have hdst : L.dst x = L[x].1.dst := by simp [DL.dst, hL]
    have hqo : opQuiet L[x].1.op = true := List.all_eq_true.1 hq1 _ (List.mem_of_getElem? (i := x) (by simp [hxm]))
    have hrange : (x : Nat) :: (List.range x).reverse = (List.range (x + 1)).reverse := by simp [List.range_succ]
    have herase : (List.range' x (n + 1) ++ rest).erase x = List.range' (x + 1) n ++ rest := by simp [List.range'_succ]
    have main : ∀ v, (guardB t L[x].1.g = some true ∧ (opStep t h L[x].1.op = some (v, h) ∨ CallIs E.P t h L[x].1.op v) ∨ guardB t L[x].1.g = some false ∧ v = .tup []) → execQ E.P (((L.take m).drop (x + 1)).map (·.1)) (put t L[x].1.dst v) h (fun t h => PendOk E.P L t h (List.range m).reverse → RunD E L rest (List.range m).reverse k t h) → RunD E L (List.range' x (n + 1) ++ rest) (List.range x).reverse k t h := by
      intro v hv hrun
      refine RunD.float x v (by simp [List.range'_succ]) (List.nodup_append.2 ⟨List.nodup_range', hnd, fun a ha b hb => by
        have := hrest b hb
        have := List.mem_range'_1.1 ha
        omega⟩) ?_
      rw [herase, hrange, hdst]
      refine ih (x + 1) (by omega) ?_ hrun
      rw [← hrange]
      have hsame : ∀ i ∈ L[x].1.rd, t i = put t L[x].1.dst v i := by
        intro i hi
        cases hd : L[x].1.dst with
        | none => rfl
        | some d =>
          have := (hquiet x d hxm (hdst.trans hd) x hxl).1 (Nat.le_refl _)
          have hrd : L.rd x = L[x].1.rd := by simp [DL.rd, hL]
          rw [hrd] at this
          have hne : i ≠ d := fun he => this (he ▸ hi)
          simp [put, upd, hne]
      have hg : guardB t L[x].1.g = guardB (put t L[x].1.dst v) L[x].1.g := guardB_congr fun j b e => hsame j (by simp only [AOper.rd, e]; simp)
      have hso : ∀ i ∈ L[x].1.op.rd, t i = put t L[x].1.dst v i := fun i hi => hsame i (by simp only [AOper.rd]; simp [hi])
      have hop : opStep t h L[x].1.op = opStep (put t L[x].1.dst v) h L[x].1.op := opStep_congr hso
      refine ⟨?_, hp.put fun e he y hy => ?_⟩
      · rw [hL]
        simp only
        rw [← hg, ← hop]
        rcases hv with ⟨g1, g2⟩ | ⟨g1, rfl⟩
        · exact .inl ⟨g1, v, g2.imp id (fun hc => hc.congr hso), fun d hd => by simp [hd, put, upd]⟩
        · exact .inr ⟨g1, fun d hd => by simp [hd, put, upd]⟩
      · have hyx : y < x := by simpa using hy
        have := hquiet x e hxm (hdst.trans he) y (by omega)
        exact ⟨this.1 (by omega), this.2.2 (by omega) (by omega)⟩
    revert hr
    generalize L[x].1 = o at hqo main
    obtain ⟨d, g, op⟩ := o
    simp only at hqo main
    simp only [execQ]
    cases hgb : guardB t g with
    | none => intro hr; exact hr.elim
    | some b =>
      cases b with
      | false => intro hr; exact main (.tup []) (.inr ⟨hgb, rfl⟩) hr
      | true =>
        simp only
        split
        · rintro ⟨v, h1, h2⟩
          exact main v (.inl ⟨hgb, .inr h1⟩) h2
        cases hs : opStep t h op with
        | none => intro hr; exact hr.elim
        | some vh =>
          obtain ⟨v, h'⟩ := vh
          have := opQuiet_step hqo hs
          subst this
          intro hr
          exact main v (.inl ⟨hgb, .inl hs⟩) hr

theorem Run.quiet {E : Env} (hm : E.P.follows .mixedOrders = true) {L : DL} {t h k} (hq : quietOk L = true) (hr : execQ E.P (L.map (·.1)) t h (fun t h => Run E ⟨k, t, h⟩)) : Run E ⟨.code (.drawn L) :: k, t, h⟩ := by
  have hq' : quietTo L L.length = true ∧ statOk L [] (List.range L.length).reverse = true := by simpa only [quietOk, Bool.and_eq_true] using hq
  refine Run.drawn hm ?_
  have := quiet_go (E := E) (L := L) (k := k) (rest := []) hq'.1 (by simp) List.nodup_nil L.length 0 (by simp) (t := t) (h := h) trivial ?_
  · simpa [List.range_eq_range'] using this
  · simp only [List.take_length, List.drop_zero]
    exact execQ_mono (fun t h hr hp => RunD.fin hq'.2 hp hr) hr

/-- the first so many only read; the others are still to come -/
theorem Run.quietTo {E : Env} (hm : E.P.follows .mixedOrders = true) {L : DL} {t h k} (n : Nat) (hq : Sx.quietTo L n = true)
    (hr : execQ E.P ((L.take n).map (·.1)) t h (fun t h => PendOk E.P L t h (List.range n).reverse → RunD E L (List.range' n (L.length - n)) (List.range n).reverse k t h)) : Run E ⟨.code (.drawn L) :: k, t, h⟩ := by
  refine Run.drawn hm ?_
  have hn : n ≤ L.length := by
    simp only [Sx.quietTo, Bool.and_eq_true, decide_eq_true_eq] at hq
    exact hq.1.1
  have := quiet_go (E := E) (L := L) (k := k) (rest := List.range' n (L.length - n)) hq (fun i hi => (List.mem_range'_1.1 hi).1) List.nodup_range' n 0 (by simp) (t := t) (h := h) trivial (by simpa using hr)
  have e : List.range' 0 n ++ List.range' n (L.length - n) = List.range L.length := by
    rw [List.range_eq_range']
    have := List.range'_append_1 (s := 0) (m := n) (n := L.length - n)
    rw [Nat.zero_add] at this
    rw [this]; congr 1; omega
  rw [e] at this
  simpa using this

/-- the next of those that come one behind the other; what lies behind it is done -/
theorem RunD.chain {E : Env} {L y ys pend k t h} (hc : (statOk L (y :: ys) pend && decide (y < L.length) && decide (y :: ys).Nodup && pend.all (fun x => !(y :: ys).contains x) && ys.all (fun z => (L.deps z).contains y)) = true) (hpo : PendOk E.P L t h pend)
    {o ds} (ho : L[y]? = some (o, ds)) (hr : AStep E.P t h o (fun t' h' => RunD E L ys (pend.filter fun x => !(clo L L.length ds).contains x) k t' h')) : RunD E L (y :: ys) pend k t h := by
  simp only [Bool.and_eq_true, decide_eq_true_eq] at hc
  obtain ⟨⟨⟨⟨h1, h2⟩, h3⟩, h4⟩, h5⟩ := hc
  refine RunD.next' h1 (by simp [h2]) h3 h4 hpo fun z hz hdz => ?_
  rcases List.mem_cons.1 hz with rfl | hz
  · refine ⟨o, ds, ho, ?_⟩
    simpa [List.erase_cons_head] using hr
  · have h6 : y ∈ L.deps z := by simpa using List.all_eq_true.1 h5 z hz
    have := List.all_eq_true.1 hdz y h6
    simp at this

end Sx
