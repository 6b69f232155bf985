/-
  Sx, part T: the rules for a region whose order is open.
-/
import Derived.Test.YticecideodkcmaaSxS
namespace Sx
open Go
set_option linter.unusedSimpArgs false
set_option linter.unusedVariables false

abbrev DL := List (AOper × List Nat)
def DL.dst (L : DL) (i : Nat) : Option Nat := (L[i]?).bind (·.1.dst)
def DL.deps (L : DL) (i : Nat) : List Nat := ((L[i]?).map (·.2)).getD []
def DL.rd (L : DL) (i : Nat) : List Nat := ((L[i]?).map (·.1.rd)).getD []

def DRel (P : Program) (N : Nat) (ops : Array Oper) (L : DL) : Prop := ops.toList.zipIdx.mapM (cDraw1 P N ops) = some L

theorem DRel.size {P N ops L} (h : DRel P N ops L) : ops.size = L.length := by simpa using (mapM_some _ _ _ h).1

theorem DRel.get {P N ops L} (h : DRel P N ops L) {i : Nat} {o : Oper} (ho : ops[i]? = some o) : ∃ ao, L[i]? = some (ao, depsOf o) ∧ cOper P N ops o = some ao ∧ (∀ j ∈ depsOf o, j < i) := by
  obtain ⟨h1, h2⟩ := mapM_some _ _ _ h
  obtain ⟨hi, rfl⟩ := Array.getElem?_eq_some_iff.1 ho
  have hi' : i < L.length := by rw [← DRel.size h]; exact hi
  have := h2 i (by simpa using hi) hi'
  simp only [List.getElem_zipIdx, Array.getElem_toList, Nat.zero_add] at this
  unfold cDraw1 at this
  split at this
  case h_2 => cases this
  case h_1 a ha =>
    split at this
    case isFalse => cases this
    case isTrue hall =>
      refine ⟨a, ?_, ha, fun j hj => by simpa using List.all_eq_true.1 hall j hj⟩
      rw [List.getElem?_eq_getElem hi']
      simp only [Option.some.injEq] at this ⊢
      exact this.symm

theorem mem_deps {o : Oper} {done : List Nat} (h : ∀ e ∈ o.after, Region.binds .any e = true → e.on ∈ done) : ∀ j ∈ depsOf o, j ∈ done := by
  intro j hj
  simp only [depsOf, List.mem_map, List.mem_filter] at hj
  obtain ⟨e, ⟨he, hb⟩, rfl⟩ := hj
  exact h e (by simpa using he) hb

def hidden (L : DL) (pend done : List Nat) : List Nat := (pend.filter (fun j => !done.contains j)).filterMap L.dst
def mask (t : T) (X : List Nat) : T := fun i => if i ∈ X then .any else t i

/-- what is done is done with all that must lie behind it -/
def Closed (ops : Array Oper) (done : List Nat) : Prop := ∀ j o, j ∈ done → ops[j]? = some o → ∀ e ∈ o.after, Region.binds .any e = true → e.on ∈ done
theorem Closed.cons {ops : Array Oper} {done : List Nat} (h : Closed ops done) {j o} (ho : ops[j]? = some o) (hd : ∀ e ∈ o.after, Region.binds .any e = true → e.on ∈ done) : Closed ops (j :: done) := by
  intro i o' hi ho' e he hb
  rcases List.mem_cons.1 hi with rfl | hi
  · rw [ho] at ho'; cases ho'; exact List.mem_cons_of_mem _ (hd e he hb)
  · exact List.mem_cons_of_mem _ (h i o' hi ho' e he hb)

/-- what must lie behind, and what behind that -/
def clo (L : DL) : Nat → List Nat → List Nat
  | 0, ds => ds
  | n + 1, ds => clo L n ((List.range L.length).filter fun x => ds.contains x || ds.any fun y => (L.deps y).contains x)

theorem clo_done {P N ops L} (hD : DRel P N ops L) {done : List Nat} (hc : Closed ops done) : ∀ n ds, (∀ d ∈ ds, d ∈ done) → ∀ d ∈ clo L n ds, d ∈ done
  | 0, ds, h, d, hd => h d hd
  | n + 1, ds, h, d, hd => by
    refine clo_done hD hc n _ (fun x hx => ?_) d hd
    simp only [List.mem_filter, Bool.or_eq_true, List.contains_eq_mem, decide_eq_true_eq, List.any_eq_true] at hx
    rcases hx.2 with hx | ⟨y, hy, hxy⟩
    · exact h x hx
    · have hyd := h y hy
      cases hL : L[y]? with
      | none => simp [DL.deps, hL] at hxy
      | some yo =>
        have hlt : y < ops.size := by rw [hD.size]; exact (List.getElem?_eq_some_iff.1 hL).1
        obtain ⟨ao, h1, _, _⟩ := hD.get (Array.getElem?_eq_getElem hlt)
        have : L.deps y = depsOf ops[y] := by simp [DL.deps, h1]
        rw [this] at hxy
        exact mem_deps (hc y _ hyd (Array.getElem?_eq_getElem hlt)) x hxy

theorem clo_mem {L : DL} : ∀ n (ds : List Nat), (∀ d ∈ ds, d < L.length) → ∀ d ∈ ds, d ∈ clo L n ds
  | 0, ds, _, d, hd => hd
  | n + 1, ds, h, d, hd => by
    refine clo_mem n _ (fun x hx => ?_) d ?_
    · simp only [List.mem_filter, List.mem_range] at hx; exact hx.1
    · simp only [List.mem_filter, List.mem_range, Bool.or_eq_true, List.contains_eq_mem, decide_eq_true_eq]; exact ⟨h d hd, .inl hd⟩

def RunD (E : Env) (L : DL) (rest pend : List Nat) (k : List AItem) (t : T) (h : List O) : Prop :=
  ∀ ops, DRel E.P E.N ops L → ∀ c0 w0, HRel c0 w0 E.H0 → ∀ c w a done todo, Adv c0 w0 E.H0 c w h → HRel c w h → Sched ops done todo → Closed ops done → (∀ i ∈ done, i ∉ rest) → (∀ i, i < L.length → i ∉ rest → i ∉ pend → i ∈ done) →
    TRel E.N c (mask t (hidden L pend done)) a → a.defers = [] → ∀ (b : Frame) items cs, b.fn = E.f → b.kind = .normal → KRel E.P E.N k items → Goes E.P b (TriR E.H0 c0 w0 E.Post) (.inRegion ops todo :: items) cs a w

theorem Run.drawn {E : Env} (hm : E.P.follows .mixedOrders = true) {L k t h} (hr : RunD E L (List.range L.length) [] k t h) : Run E ⟨.code (.drawn L) :: k, t, h⟩ := by
  intro c0 w0 h0 c w a hadv hh ht hd b items cs hb hbk hk
  simp only at hadv hh ht hk
  cases hk with
  | @cons _ y _ items hx hk =>
  cases hx with
  | code hc =>
  obtain ⟨id, ops, rfl, hl⟩ := cCode_drawn hc
  have hD : DRel E.P E.N ops L := hl
  refine Goes.step step_region_draw ?_
  simp only [Region.schedule, hm, Bool.true_or, if_true]
  have hadv' : Adv c w h c { w with drawn := w.drawn + 1 } h := ⟨fun _ _ h => h, fun _ _ h => h, Nat.le_refl _, fun _ _ h => h, Nat.le_refl _, fun _ _ _ => rfl, fun _ _ h _ => .inl h, fun _ _ h => .inl h, rfl, rfl, rfl⟩
  have hh' : HRel c { w with drawn := w.drawn + 1 } h := ⟨hh.ro, hh.dom, fun i o ho hl => let ⟨p, h1, h2, h3⟩ := hh.obj i o ho hl; ⟨p, h1, h2.mono (fun _ _ h => h) (fun _ _ h => h) (fun _ => rfl), h3⟩, hh.inj⟩
  refine hr ops hD c0 w0 h0 c _ a [] _ (hadv.trans h0 hadv') hh' ?_ (fun j o hj => by cases hj) (fun i hi => by cases hi) (fun i hi hn => absurd (List.mem_range.2 hi) hn) ?_ hd b items cs hb hbk hk
  · refine sched_linearise (fun i o ho e he hbe => ?_) ops.size _ _ [] (by simp) (fun j hj => ?_) ?_
    · obtain ⟨ao, _, _, h3⟩ := hD.get ho
      exact h3 e.on (by simp only [depsOf, List.mem_map, List.mem_filter]; exact ⟨e, ⟨by simpa using he, hbe⟩, rfl⟩)
    · simp [hj]
    · refine Nat.le_trans (List.length_filter_le _ _) (by simp)
  · exact ht

/-- an operation is taken out of the way: its value is known, it runs when it runs -/
theorem RunD.float {E : Env} {L rest pend k t h} (x : Nat) (v : V) (hx : x ∈ rest) (hn : rest.Nodup) (hr : RunD E L (rest.erase x) (x :: pend) k (put t (L.dst x) v) h) : RunD E L rest pend k t h := by
  intro ops hD c0 w0 h0 c w a done todo hadv hh hs hcl hdr hall ht hd b items cs hb hbk hk
  have hxd : x ∉ done := fun h => hdr x h hx
  refine hr ops hD c0 w0 h0 c w a done todo hadv hh hs hcl (fun i hi hm => hdr i hi (List.mem_of_mem_erase hm)) (fun i hi h1 h2 => ?_) ⟨ht.size, fun i => ?_⟩ hd b items cs hb hbk hk
  · refine hall i hi (fun hm => ?_) (fun hm => h2 (List.mem_cons_of_mem _ hm))
    have : i ≠ x := fun e => h2 (by rw [e]; exact List.mem_cons_self)
    exact h1 ((List.mem_erase_of_ne this).2 hm)
  · have := ht.rel i
    have hhid : hidden L (x :: pend) done = (L.dst x).toList ++ hidden L pend done := by
      simp only [hidden, List.filter_cons, List.contains_eq_mem, hxd, decide_false, Bool.not_false, if_true, List.filterMap_cons]
      cases L.dst x <;> rfl
    rw [hhid]
    simp only [mask, List.mem_append] at this ⊢
    by_cases h1 : i ∈ hidden L pend done
    · rw [if_pos (.inr h1)]; exact .any ..
    · rw [if_neg h1] at this
      cases hdx : L.dst x with
      | none => simp only [Option.toList, List.not_mem_nil, false_or, if_neg h1, put]; exact this
      | some d =>
        by_cases e : i = d
        · subst e; simp; exact .any ..
        · simp only [Option.toList, List.mem_singleton, e, false_or, if_neg h1, put, upd, if_false]; exact this

/-- what is known in the second is known in the first -/
def TRelLe (t t' : T) : Prop := ∀ i, t i = t' i ∨ t' i = .any

theorem TRel.le {N c t t' a} (h : TRel N c t a) (hl : TRelLe t t') : TRel N c t' a := ⟨h.size, fun i => by
  rcases hl i with e | e
  · rw [← e]; exact h.rel i
  · rw [e]; exact .any ..⟩

/-- a call that answers one thing and leaves all as it is -/
def CallIs (P : Program) (t : T) (h : List O) (op : AOp) (v : V) : Prop :=
  ∃ fo args f caps Q, op = .call fo args ∧ fo.ev t = .fn f caps ∧ Tri P f (args.map (Opd.ev t) ++ caps) h Q ∧ ∀ v' h', Q v' h' → v' = v ∧ h' = h

theorem CallIs.congr {P t t' h op v} (hr : ∀ i ∈ op.rd, t i = t' i) (hc : CallIs P t h op v) : CallIs P t' h op v := by
  obtain ⟨fo, args, f, caps, Q, h3, h4, h5, h6⟩ := hc
  subst h3
  refine ⟨fo, args, f, caps, Q, rfl, ?_, ?_, h6⟩
  · rw [← h4]; exact (ev_congr fun i hi => hr i (by simp [AOp.rd, hi])).symm
  · have : args.map (Opd.ev t) = args.map (Opd.ev t') := evs_congr fun i hi => hr i (by
      simp only [AOp.rd, List.mem_append]; exact .inr hi)
    rw [← this]; exact h5

/-- what was taken out of the way still comes to its value -/
def PendOk (P : Program) (L : DL) (t : T) (h : List O) : List Nat → Prop
  | [] => True
  | x :: xs => (match L[x]? with
    | none => True
    | some (o, _) => (guardB t o.g = some true ∧ ∃ v, (opStep t h o.op = some (v, h) ∨ CallIs P t h o.op v) ∧ ∀ d, o.dst = some d → t d = v) ∨ (guardB t o.g = some false ∧ ∀ d, o.dst = some d → t d = .tup [])) ∧ PendOk P L t h xs

theorem PendOk.get {P : Program} {L : DL} {t h} : ∀ {pend : List Nat}, PendOk P L t h pend → ∀ x ∈ pend, ∀ o ds, L[x]? = some (o, ds) → (guardB t o.g = some true ∧ ∃ v, (opStep t h o.op = some (v, h) ∨ CallIs P t h o.op v) ∧ ∀ d, o.dst = some d → t d = v) ∨ (guardB t o.g = some false ∧ ∀ d, o.dst = some d → t d = .tup [])
  | y :: ys, hp, x, hx, o, ds, ho => by
    rcases List.mem_cons.1 hx with rfl | hx
    · have := hp.1
      rw [ho] at this
      exact this
    · exact hp.2.get x hx o ds ho

def statOk (L : DL) (rest pend : List Nat) : Bool :=
  pend.all fun x => match L.dst x with
    | none => true
    | some d => (pend.all fun y => (L.deps y).contains x || !(L.rd y).contains d) && (pend.all fun y => y == x || L.dst y != some d) && rest.all fun y => (L.deps y).contains x || !(L.rd y).contains d

theorem guardB_congr {t t' : T} {g : Option (Nat × Bool)} (h : ∀ j b, g = some (j, b) → t j = t' j) : guardB t g = guardB t' g := by
  cases g with
  | none => rfl
  | some jb => obtain ⟨j, b⟩ := jb; simp only [guardB, h j b rfl]

theorem AStep.congr {P t t' h o K K'} (hr : ∀ i ∈ o.rd, t i = t' i) (hs : AStep P t h o K) (hk : ∀ v h', K (put t o.dst v) h' → K' (put t' o.dst v) h') : AStep P t' h o K' := by
  have hg : guardB t o.g = guardB t' o.g := guardB_congr fun j b e => hr j (by simp only [AOper.rd, e]; simp)
  have hop : opStep t h o.op = opStep t' h o.op := opStep_congr fun i hi => hr i (by simp only [AOper.rd]; simp [hi])
  rcases hs with ⟨h1, h2⟩ | ⟨h1, h2⟩
  · exact .inl ⟨hg ▸ h1, hk _ _ h2⟩
  · refine .inr ⟨hg ▸ h1, ?_⟩
    rcases h2 with ⟨v, h', h3, h4⟩ | ⟨fo, args, f, caps, Q, h3, h4, h5, h6⟩
    · exact .inl ⟨v, h', hop ▸ h3, hk _ _ h4⟩
    · refine .inr ⟨fo, args, f, caps, Q, h3, ?_, ?_, fun v h' hq => hk _ _ (h6 v h' hq)⟩
      · rw [← h4]; exact (ev_congr fun i hi => hr i (by simp [AOper.rd, h3, AOp.rd, hi])).symm
      · have : args.map (Opd.ev t) = args.map (Opd.ev t') := evs_congr fun i hi => hr i (by
          simp only [AOper.rd, h3, AOp.rd, List.mem_append]; exact .inl (.inr hi))
        rw [← this]; exact h5

theorem mem_hidden {L : DL} {pend done : List Nat} {d : Nat} : d ∈ hidden L pend done ↔ ∃ x ∈ pend, x ∉ done ∧ L.dst x = some d := by
  simp only [hidden, List.mem_filterMap, List.mem_filter, Bool.not_eq_true', List.contains_eq_mem, decide_eq_false_iff_not]
  exact ⟨fun ⟨x, ⟨a, b⟩, c⟩ => ⟨x, a, b, c⟩, fun ⟨x, a, b, c⟩ => ⟨x, ⟨a, b⟩, c⟩⟩

theorem read_clear {L : DL} {rest pend : List Nat} (hst : statOk L rest pend = true) {t : T} {done j ao ds} (hL : L[j]? = some (ao, ds)) (hds : ∀ x ∈ ds, x ∈ done) (hj : j ∈ pend ∨ j ∈ rest) : ∀ i ∈ ao.rd, t i = mask t (hidden L pend done) i := by
  intro i hi
  have hdd : L.deps j = ds := by simp [DL.deps, hL]
  have hrd : L.rd j = ao.rd := by simp [DL.rd, hL]
  simp only [mask]
  rw [if_neg]
  intro hm
  obtain ⟨x, hx, hxd, hxs⟩ := mem_hidden.1 hm
  have := List.all_eq_true.1 hst x hx
  simp only [hxs, Bool.and_eq_true] at this
  have key : ((L.deps j).contains x || !(L.rd j).contains i) = true := by
    rcases hj with hj | hj
    · exact List.all_eq_true.1 this.1.1 j hj
    · exact List.all_eq_true.1 this.2 j hj
  rw [hdd, hrd] at key
  simp only [List.contains_eq_mem, hi, decide_true, Bool.not_true, Bool.or_false, decide_eq_true_eq] at key
  exact hxd (hds x key)

/-- a step of what was taken out of the way -/
theorem pend_goes {E : Env} {L : DL} {rest pend : List Nat} {t : T} {h : List O} (hst : statOk L rest pend = true) (hpo : PendOk E.P L t h pend) {ops} (hD : DRel E.P E.N ops L) {c0 w0} (h0 : HRel c0 w0 E.H0) {c w a done j todo}
    (hadv : Adv c0 w0 E.H0 c w h) (hh : HRel c w h) (hs : Sched ops done (j :: todo)) (hj : j ∈ pend) (ht : TRel E.N c (mask t (hidden L pend done)) a) (hd : a.defers = []) {b : Frame} {items cs}
    (next : ∀ c' w' a', Adv c0 w0 E.H0 c' w' h → HRel c' w' h → TRel E.N c' (mask t (hidden L pend (j :: done))) a' → a'.defers = [] → Goes E.P b (TriR E.H0 c0 w0 E.Post) (.inRegion ops todo :: items) cs a' w') :
    Goes E.P b (TriR E.H0 c0 w0 E.Post) (.inRegion ops (j :: todo) :: items) cs a w := by
  obtain ⟨hjd, ⟨o, ho, hdeps⟩, hs'⟩ := hs
  obtain ⟨ao, hL, hco, _⟩ := hD.get ho
  have hdst : L.dst j = ao.dst := by simp [DL.dst, hL]
  have hread := read_clear (t := t) hst hL (mem_deps hdeps) (.inl hj)
  have hval : ∃ v, (∀ d, ao.dst = some d → t d = v) ∧ AStep E.P t h ao (fun t' h' => t' = put t ao.dst v ∧ h' = h) := by
    rcases hpo.get j hj ao _ hL with ⟨hg, v, hop | hop, hv⟩ | ⟨hg, hv⟩
    · exact ⟨v, hv, .inr ⟨hg, .inl ⟨v, h, hop, rfl, rfl⟩⟩⟩
    · obtain ⟨fo, args, f, caps, Q, h3, h4, h5, h6⟩ := hop
      exact ⟨v, hv, .inr ⟨hg, .inr ⟨fo, args, f, caps, Q, h3, h4, h5, fun v' h' hq => by obtain ⟨rfl, rfl⟩ := h6 v' h' hq; exact ⟨rfl, rfl⟩⟩⟩⟩
    · exact ⟨.tup [], hv, .inl ⟨hg, rfl, rfl⟩⟩
  obtain ⟨v, hv, hstep⟩ := hval
  have hput : put t ao.dst v = t := by
    cases hda : ao.dst with
    | none => rfl
    | some d =>
      funext i
      simp only [put, upd]
      split
      · rename_i e; rw [e]; exact (hv d hda).symm
      · rfl
  have hstep' : AStep E.P (mask t (hidden L pend done)) h ao (fun t' h' => TRelLe t' (mask t (hidden L pend (j :: done))) ∧ h' = h) := by
    refine hstep.congr hread fun v' h' ⟨h1, h2⟩ => ⟨fun i => ?_, h2⟩
    by_cases hi : i ∈ hidden L pend (j :: done)
    · exact .inr (by simp [mask, hi])
    · refine .inl ?_
      have hput' : put t ao.dst v' = t := h1.trans hput
      have h3 : put t ao.dst v' i = t i := congrFun hput' i
      simp only [mask, if_neg hi]
      by_cases hid : ao.dst = some i
      · rw [hid] at h3 ⊢
        simpa [put, upd] using h3
      · have hni : i ∉ hidden L pend done := fun hm => by
          obtain ⟨x, hx, hxd, hxs⟩ := mem_hidden.1 hm
          refine hi (mem_hidden.2 ⟨x, hx, fun hm => ?_, hxs⟩)
          rcases List.mem_cons.1 hm with rfl | hm
          · exact hid (hdst ▸ hxs)
          · exact hxd hm
        have : put (mask t (hidden L pend done)) ao.dst v' i = mask t (hidden L pend done) i := by
          cases hda : ao.dst with
          | none => rfl
          | some d =>
            have : i ≠ d := fun e => hid (by rw [hda, e])
            simp [put, upd, this]
        rw [this, mask, if_neg hni]
  refine astep_goes h0 hadv hh ht hd ho hco hstep' ?_
  intro c' w' a' t' h' hadv' hh' _ ht' hd' _ ⟨hle, he⟩
  subst he
  exact next c' w' a' hadv' hh' (ht'.le hle) hd'

theorem RunD.next {E : Env} {L rest pend k t h} (hst : statOk L rest pend = true) (hne : (rest.any (· < L.length)) = true) (hnd : rest.Nodup) (hdj : pend.all (fun x => !rest.contains x) = true) (hpo : PendOk E.P L t h pend)
    (hr : ∀ y ∈ rest, (L.deps y).all (fun d => !rest.contains d) = true → ∃ o ds, L[y]? = some (o, ds) ∧ AStep E.P t h o (fun t' h' => RunD E L (rest.erase y) pend k t' h')) : RunD E L rest pend k t h := by
  intro ops hD c0 w0 h0 c w a done todo
  induction todo generalizing c w a done with
  | nil =>
    intro hadv hh hs hcl hdr hall ht hd b items cs hb hbk hk
    obtain ⟨x, hx, hxl⟩ := List.any_eq_true.1 hne
    exact absurd hx (hdr x (hs x (by rw [hD.size]; simpa using hxl)))
  | cons j todo ih =>
    intro hadv hh hs hcl hdr hall ht hd b items cs hb hbk hk
    have hjs := hs
    obtain ⟨hjd, ⟨o, ho, hdeps⟩, hs'⟩ := hs
    obtain ⟨ao, hL, hco, _⟩ := hD.get ho
    have hjl : j < L.length := (List.getElem?_eq_some_iff.1 hL).1
    by_cases hjp : j ∈ pend
    · have hjr : j ∉ rest := by simpa using List.all_eq_true.1 hdj j hjp
      refine pend_goes hst hpo hD h0 hadv hh hjs hjp ht hd fun c' w' a' hadv' hh' ht' hd' => ?_
      exact ih c' w' a' (j :: done) hadv' hh' hs' (hcl.cons ho hdeps) (fun i hi => by rcases List.mem_cons.1 hi with rfl | hi; exact hjr; exact hdr i hi) (fun i hi h1 h2 => List.mem_cons_of_mem _ (hall i hi h1 h2)) ht' hd' b items cs hb hbk hk
    · have hjr : j ∈ rest := Classical.byContradiction fun hn => hjd (hall j hjl hn hjp)
      obtain ⟨o', ds, hL', hstep⟩ := hr j hjr (by
        have : L.deps j = depsOf o := by simp [DL.deps, hL]
        rw [this]
        refine List.all_eq_true.2 fun d hdd => ?_
        simpa using hdr d (mem_deps hdeps d hdd))
      rw [hL] at hL'
      cases hL'
      have hread := read_clear (t := t) hst hL (mem_deps hdeps) (.inr hjr)
      have hstep' : AStep E.P (mask t (hidden L pend done)) h ao (fun t' h' => ∃ t1, RunD E L (rest.erase j) pend k t1 h' ∧ TRelLe t' (mask t1 (hidden L pend (j :: done)))) := by
        refine hstep.congr hread fun v h' h1 => ⟨_, h1, fun i => ?_⟩
        have hhid : ∀ i, i ∈ hidden L pend (j :: done) ↔ i ∈ hidden L pend done := by
          intro i
          simp only [mem_hidden]
          refine ⟨fun ⟨x, a, b, c⟩ => ⟨x, a, fun hm => b (List.mem_cons_of_mem _ hm), c⟩, fun ⟨x, a, b, c⟩ => ⟨x, a, fun hm => ?_, c⟩⟩
          rcases List.mem_cons.1 hm with rfl | hm
          · exact hjp a
          · exact b hm
        by_cases hi : i ∈ hidden L pend done
        · exact .inr (by simp [mask, hhid, hi])
        · refine .inl ?_
          simp only [mask, hhid, if_neg hi]
          cases ao.dst with
          | none => simp only [put, mask, if_neg hi]
          | some d =>
            simp only [put, upd]
            split
            · rfl
            · simp only [mask, if_neg hi]
      refine astep_goes h0 hadv hh ht hd ho hco hstep' ?_
      intro c' w' a' t' h' hadv' hh' _ ht' hd' _ ⟨t1, hrun, hle⟩
      refine hrun ops hD c0 w0 h0 c' w' a' (j :: done) todo hadv' hh' hs' (hcl.cons ho hdeps) ?_ ?_ (ht'.le hle) hd' b items cs hb hbk hk
      · intro i hi hm
        rcases List.mem_cons.1 hi with rfl | hi
        · exact (List.Nodup.mem_erase_iff hnd).1 hm |>.1 rfl
        · exact hdr i hi (List.mem_of_mem_erase hm)
      · intro i hi h1 h2
        by_cases e : i = j
        · subst e; exact List.mem_cons_self
        · exact List.mem_cons_of_mem _ (hall i hi (fun hm => h1 ((List.mem_erase_of_ne e).2 hm)) h2)

theorem RunD.next' {E : Env} {L rest pend k t h} (hst : statOk L rest pend = true) (hne : (rest.any (· < L.length)) = true) (hnd : rest.Nodup) (hdj : pend.all (fun x => !rest.contains x) = true) (hpo : PendOk E.P L t h pend)
    (hr : ∀ y ∈ rest, (L.deps y).all (fun d => !rest.contains d) = true → ∃ o ds, L[y]? = some (o, ds) ∧ AStep E.P t h o (fun t' h' => RunD E L (rest.erase y) (pend.filter fun x => !(clo L L.length ds).contains x) k t' h')) : RunD E L rest pend k t h := by
  intro ops hD c0 w0 h0 c w a done todo
  induction todo generalizing c w a done with
  | nil =>
    intro hadv hh hs hcl hdr hall ht hd b items cs hb hbk hk
    obtain ⟨x, hx, hxl⟩ := List.any_eq_true.1 hne
    exact absurd hx (hdr x (hs x (by rw [hD.size]; simpa using hxl)))
  | cons j todo ih =>
    intro hadv hh hs hcl hdr hall ht hd b items cs hb hbk hk
    have hjs := hs
    obtain ⟨hjd, ⟨o, ho, hdeps⟩, hs'⟩ := hs
    obtain ⟨ao, hL, hco, _⟩ := hD.get ho
    have hjl : j < L.length := (List.getElem?_eq_some_iff.1 hL).1
    by_cases hjp : j ∈ pend
    · have hjr : j ∉ rest := by simpa using List.all_eq_true.1 hdj j hjp
      refine pend_goes hst hpo hD h0 hadv hh hjs hjp ht hd fun c' w' a' hadv' hh' ht' hd' => ?_
      exact ih c' w' a' (j :: done) hadv' hh' hs' (hcl.cons ho hdeps) (fun i hi => by rcases List.mem_cons.1 hi with rfl | hi; exact hjr; exact hdr i hi) (fun i hi h1 h2 => List.mem_cons_of_mem _ (hall i hi h1 h2)) ht' hd' b items cs hb hbk hk
    · have hjr : j ∈ rest := Classical.byContradiction fun hn => hjd (hall j hjl hn hjp)
      obtain ⟨o', ds, hL', hstep⟩ := hr j hjr (by
        have : L.deps j = depsOf o := by simp [DL.deps, hL]
        rw [this]
        refine List.all_eq_true.2 fun d hdd => ?_
        simpa using hdr d (mem_deps hdeps d hdd))
      rw [hL] at hL'
      cases hL'
      have hread := read_clear (t := t) hst hL (mem_deps hdeps) (.inr hjr)
      have hstep' : AStep E.P (mask t (hidden L pend done)) h ao (fun t' h' => ∃ t1, RunD E L (rest.erase j) (pend.filter fun x => !(clo L L.length (depsOf o)).contains x) k t1 h' ∧ TRelLe t' (mask t1 (hidden L (pend.filter fun x => !(clo L L.length (depsOf o)).contains x) (j :: done)))) := by
        refine hstep.congr hread fun v h' h1 => ⟨_, h1, fun i => ?_⟩
        have hhid : ∀ i, i ∈ hidden L (pend.filter fun x => !(clo L L.length (depsOf o)).contains x) (j :: done) ↔ i ∈ hidden L pend done := by
          intro i
          simp only [mem_hidden, List.mem_filter]
          refine ⟨fun ⟨x, a, b, c⟩ => ⟨x, a.1, fun hm => b (List.mem_cons_of_mem _ hm), c⟩, fun ⟨x, a, b, c⟩ => ⟨x, ⟨a, ?_⟩, fun hm => ?_, c⟩⟩
          · simp only [Bool.not_eq_true', List.contains_eq_mem, decide_eq_false_iff_not]
            exact fun hm => b (clo_done hD hcl _ _ (mem_deps hdeps) x hm)
          rcases List.mem_cons.1 hm with rfl | hm
          · exact hjp a
          · exact b hm
        by_cases hi : i ∈ hidden L pend done
        · exact .inr (by rw [mask, if_pos ((hhid i).2 hi)])
        · refine .inl ?_
          simp only [mask, hhid, if_neg hi]
          cases ao.dst with
          | none => simp only [put, mask, if_neg hi]
          | some d =>
            simp only [put, upd]
            split
            · rfl
            · simp only [mask, if_neg hi]
      refine astep_goes h0 hadv hh ht hd ho hco hstep' ?_
      intro c' w' a' t' h' hadv' hh' _ ht' hd' _ ⟨t1, hrun, hle⟩
      refine hrun ops hD c0 w0 h0 c' w' a' (j :: done) todo hadv' hh' hs' (hcl.cons ho hdeps) ?_ ?_ (ht'.le hle) hd' b items cs hb hbk hk
      · intro i hi hm
        rcases List.mem_cons.1 hi with rfl | hi
        · exact (List.Nodup.mem_erase_iff hnd).1 hm |>.1 rfl
        · exact hdr i hi (List.mem_of_mem_erase hm)
      · intro i hi h1 h2
        by_cases e : i = j
        · subst e; exact List.mem_cons_self
        · refine List.mem_cons_of_mem _ ?_
          by_cases hp : i ∈ pend
          · have : i ∈ clo L L.length (depsOf o) := by
              refine Classical.byContradiction fun hn => h2 (List.mem_filter.2 ⟨hp, by simpa using hn⟩)
            exact clo_done hD hcl _ _ (mem_deps hdeps) i this
          · exact hall i hi (fun hm => h1 ((List.mem_erase_of_ne e).2 hm)) hp

theorem RunD.fin {E : Env} {L pend k t h} (hst : statOk L [] pend = true) (hpo : PendOk E.P L t h pend) (hr : Run E ⟨k, t, h⟩) : RunD E L [] pend k t h := by
  intro ops hD c0 w0 h0 c w a done todo
  induction todo generalizing c w a done with
  | nil =>
    intro hadv hh hs hcl hdr hall ht hd b items cs hb hbk hk
    refine Goes.step step_region_end (hr c0 w0 h0 c w a hadv hh (ht.le fun i => .inl ?_) hd b _ cs hb hbk hk)
    rw [mask, if_neg]
    intro hm
    obtain ⟨x, hx, hxd, hxs⟩ := mem_hidden.1 hm
    refine hxd (hs x ?_)
    rw [hD.size]
    simp only [DL.dst] at hxs
    cases hx' : L[x]? with
    | none => rw [hx'] at hxs; cases hxs
    | some y => exact (List.getElem?_eq_some_iff.1 hx').1
  | cons j todo ih =>
    intro hadv hh hs hcl hdr hall ht hd b items cs hb hbk hk
    have hjs := hs
    obtain ⟨hjd, ⟨o, ho, hdeps⟩, hs'⟩ := hs
    obtain ⟨ao, hL, hco, _⟩ := hD.get ho
    have hjl : j < L.length := (List.getElem?_eq_some_iff.1 hL).1
    have hjp : j ∈ pend := Classical.byContradiction fun hn => hjd (hall j hjl (by simp) hn)
    refine pend_goes hst hpo hD h0 hadv hh hjs hjp ht hd fun c' w' a' hadv' hh' ht' hd' => ?_
    exact ih c' w' a' (j :: done) hadv' hh' hs' (hcl.cons ho hdeps) (fun i _ => by simp) (fun i hi h1 h2 => List.mem_cons_of_mem _ (hall i hi h1 h2)) ht' hd' b items cs hb hbk hk

end Sx
