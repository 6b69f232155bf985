/-
  Sx: symbolic execution over abstract heaps: parts Zc, Zd, Ze, Zf, Zg, Zh, Zi.
-/
import Derived.Test.YthphkcpbglhabaaGreatDoorSx6
import Derived.RangeFuncIn
import Derived.RangeFuncLeaves
import Derived.Lib.Overlaps
import Derived.Lib.Bytealg
import Derived.Below

/-
  Sx, part Zc: the elements of a slice's object, told less exactly.
-/
namespace Sx
open Go
set_option linter.unusedSimpArgs false
set_option linter.unusedVariables false

def EsLe : List (List V) → List (List V) → Prop
  | [], [] => True
  | a :: l, b :: k => (VsLe a b ∧ V.ones b = true) ∧ EsLe l k
  | _, _ => False
theorem EsLe.len : ∀ {a b}, EsLe a b → a.length = b.length
  | [], [], _ => rfl
  | _ :: _, _ :: _, h => by simp [h.2.len]
theorem EsLe.get : ∀ {a b}, EsLe a b → ∀ i (h : i < a.length) (h' : i < b.length), VsLe a[i] b[i] ∧ V.ones b[i] = true
  | _ :: a, _ :: b, h, 0, _, _ => h.1
  | _ :: a, _ :: b, h, i + 1, h1, h2 => h.2.get i (by simpa using h1) (by simpa using h2)
theorem EsLe.refl : ∀ {a : List (List V)}, (∀ e ∈ a, V.ones e = true) → EsLe a a
  | [], _ => trivial
  | a :: l, h => ⟨⟨VsLe.refl a, h a (by simp)⟩, EsLe.refl fun e he => h e (by simp [he])⟩
theorem EsLe.append : ∀ {a b c d}, EsLe a b → EsLe c d → EsLe (a ++ c) (b ++ d)
  | [], [], _, _, _, k => k
  | _ :: a, _ :: b, _, _, h, k => ⟨h.1, h.2.append k⟩

theorem ORel.leE {ro m w p es es' sz} (h : EsLe es es') (hr : ORel ro m w p (.arr es sz)) : ORel ro m w p (.arr es' sz) := by
  obtain ⟨h1, h2, h3, h4⟩ := hr
  have hl := h.len
  refine ⟨fun hn => ?_, fun e he => ?_, fun i hi => ?_, fun hn => ?_⟩
  · have := h1 hn; subst this
    exact List.length_eq_zero_iff.1 (by simpa using hl.symm)
  · obtain ⟨i, hi, rfl⟩ := List.getElem_of_mem he
    exact (h.get i (by omega) hi).2
  · rw [← (h.get i (by omega) hi).1.len]; exact h3 i (by omega)
  · obtain ⟨cc, h5, h6, h7⟩ := h4 hn
    refine ⟨cc, h5, by rw [← hl]; exact h6, fun i hi j hj => ?_⟩
    have hg := (h.get i (by omega) hi).1
    obtain ⟨x, h8, h9⟩ := h7 i (by omega) j (by rw [hg.len]; exact hj)
    exact ⟨x, h8, hg.get j _ hj _ _ _ h9⟩

theorem Run.leE {E : Env} {k t h} (id : Nat) {es es' sz} (hid : h[id]? = some (.arr es sz)) (hle : EsLe es es') (hr : Run E ⟨k, t, h.set id (.arr es' sz)⟩) : Run E ⟨k, t, h⟩ := by
  intro c0 w0 h0 c w a hadv hh htr hd b items cs hb hbk hk
  simp only at hadv hh htr hk
  have hlt : id < h.length := (List.getElem?_eq_some_iff.1 hid).1
  have hget : ∀ (i : Nat) (o : O), (h.set id (.arr es' sz))[i]? = some o → ∃ o', h[i]? = some o' ∧ (o.live → o'.live) ∧ ∀ m' p, ORel c.ro m' w p o' → ORel c.ro m' w p o := by
    intro i o ho
    by_cases e : i = id
    · subst e
      rw [List.getElem?_set_self hlt] at ho; cases ho
      exact ⟨_, hid, fun _ => trivial, fun m' p => ORel.leE hle⟩
    · rw [List.getElem?_set_ne (Ne.symm e)] at ho
      exact ⟨o, ho, fun h => h, fun _ _ h => h⟩
  have hlive : ∀ i, Live (h.set id (.arr es' sz)) i → Live h i := by
    rintro i ⟨o, h1, h2⟩
    obtain ⟨o', h3, h4, -⟩ := hget i o h1
    exact ⟨o', h3, h4 h2⟩
  have g1 : HRel c w (h.set id (.arr es' sz)) := by
    refine ⟨hh.ro, fun i p hm => by rw [List.length_set]; exact hh.dom i p hm, fun i o ho hol => ?_, fun i j p q h1 h2 => hh.inj i j p q (hlive i h1) (hlive j h2), hh.glob⟩
    obtain ⟨o', h1, h2, h3⟩ := hget i o ho
    obtain ⟨p, h4, h5, h6⟩ := hh.obj i o' h1 (h2 hol)
    exact ⟨p, h4, h3 _ _ h5, h6⟩
  have g2 : Adv c w h c w (h.set id (.arr es' sz)) := ⟨fun _ _ h => h, fun _ _ h => h, by rw [List.length_set]; exact Nat.le_refl _, fun i _ h => hlive i h, Nat.le_refl _, fun _ _ _ => rfl, fun _ _ h _ => .inl h, fun _ _ h => .inl h, rfl, rfl, rfl⟩
  exact hr c0 w0 h0 c w a (hadv.trans h0 g2) g1 ⟨htr.size, htr.rel⟩ hd b items cs hb hbk hk

end Sx

/-
  Sx, part Zd: ranges over functions: rounds.
-/
namespace Sx
open Go
set_option linter.unusedSimpArgs false
set_option linter.unusedVariables false

theorem Run.opY {E : Env} {t h k} {ls : List AOper} {d g fo args l id Q} (htri : TriY E.P id (args.map (Opd.ev t)) h Q) (he : ls = ⟨d, g, .call fo args⟩ :: l) (hg : guardB t g = some true) (hf : fo.ev t = .yld id)
    (hk : ∀ v h', Q v h' → Run E ⟨.ops l :: k, put t d v, h'⟩) : Run E ⟨.ops ls :: k, t, h⟩ := by
  subst he
  intro c0 w0 h0 c w a hadv hh ht hd b items cs hb hbk hk'
  simp only at hadv hh ht hk'
  cases hk' with | cons hx hk' => cases hx with | @ops _ ops todo hl =>
  rename_i items
  cases todo with
  | nil => simp at hl
  | cons i todo =>
    obtain ⟨⟨o, ho, hco⟩, hl'⟩ := ops_cons hl
    obtain ⟨hcp, hdst, hdN, hgd⟩ := cOper_spec hco
    have hw := guard_wanted ht hgd hg
    obtain ⟨odst, op, ty, pos, after, guard⟩ := o
    simp only at hcp hdst
    have this := cOp_call hcp
    obtain ⟨fo', args', ats, rfl, hfo, hargs⟩ := this
    have r1 := opd_rel ht hfo
    rw [hf] at r1
    obtain ⟨p, hp, hpn, hcs1⟩ := r1.yld_inv
    have r2 := opds_rel ht hargs
    obtain ⟨f, tmps, assign, body, hy, hround⟩ := htri c w _ p hh r2 hp hpn
    have hexec : (execOp a.eval ⟨odst, .call { callee := .value fo', args := args', argTypes := ats }, ty, pos, after, guard⟩).run E.P w = .ok (.round p.block f tmps assign body) w := by
      simp [execOp, resolve, Sem.run_bind, hcs1, Deferred.ofValue, invoke, hy]
    have hgop := stepGR (P := E.P) (b := b) (k := items) (cs := cs) (w := w) (rest := todo) ho hw hcp
    obtain ⟨cv, w2, hsteps, v, H', c', cv', hQ, hcv, hv, hh', hadv'⟩ := hround (b.atR a (.inRegion ops (i :: todo) :: items)) cs
    cases hcv
    have henter : Go.step E.P (lone (b.atR a (.inRegion ops (i :: todo) :: items)) cs w) = .next (lone (Frame.round p.block f tmps assign body .normal) (b.atR a (.inRegion ops (i :: todo) :: items) :: cs) w) :=
      step_lone_go (by rw [hgop]; simp [stepG.apply, hexec, Frame.atR])
    have hfin := region_finish (b := b) (a := a) (rest := todo) (k := items) ho cv
    refine Goes.steps (a' := a.put odst cv) (k' := .inRegion ops todo :: items) (w' := w2) (.head henter (hfin ▸ hsteps)) ?_
    refine hk v H' hQ c0 w0 h0 c' w2 _ (hadv.trans h0 hadv') hh' (by rw [hdst]; exact (ht.mono hadv'.m hadv'.ro).put d hdN hv) ?_ b _ cs hb hbk (.cons (.ops hl') hk')
    cases odst <;> exact hd

def setPs : List Nat → List V → T → T
  | i :: is, v :: vs, t => setPs is vs (upd t i v)
  | _, _, t => t

theorem setPs_rel {N : Nat} {c : Ctx} : ∀ (is : List Nat) (vs : List V) (cs : List Value) (t : T) (tmps : Array Value), (∀ i ∈ is, i < N) → vs.length = cs.length → (∀ i (h : i < vs.length) (h' : i < cs.length), VRel c.ro c.m vs[i] cs[i]) →
    TRel N c t ⟨tmps, []⟩ → TRel N c (setPs is vs t) ⟨(is.zip cs).foldl (fun tmps (x : Nat × Value) => tmps.setIfInBounds x.1 x.2) tmps, []⟩
  | [], vs, cs, t, tmps, _, _, _, ht => by cases vs <;> exact ht
  | i :: is, [], [], t, tmps, _, _, _, ht => ht
  | i :: is, [], _ :: _, t, tmps, _, hl, _, _ => by simp at hl
  | i :: is, _ :: _, [], t, tmps, _, hl, _, _ => by simp at hl
  | i :: is, v :: vs, x :: cs, t, tmps, hi, hl, hv, ht => by
    simp only [setPs, List.zip_cons_cons, List.foldl_cons]
    refine setPs_rel is vs cs _ _ (fun j hj => hi j (List.mem_cons_of_mem _ hj)) (by simpa using hl) (fun j h h' => hv (j + 1) (Nat.succ_lt_succ h) (Nat.succ_lt_succ h')) ?_
    have := ht.put (some i) (fun y hy => by cases hy; exact hi i (by simp)) (hv 0 (by simp) (by simp))
    simpa [put, Act.put] using this

/-- the code of a loop, as it is told -/
structure LoopIs (P : Program) (L : LoopC) (f : FuncId) (N : Nat) (ps : List Nat) (ca cb : AC) : Prop where
  hfn : L.fn = f
  hN : L.N = N
  hps : L.params.toList = ps
  lt : ∀ i ∈ ps, i < N
  assign : cCode P N L.assign = some ca
  body : cCode P N L.body = some cb

theorem loop_at {c w h id L ts st} (hh : HRel c w h) (hid : h[id]? = some (.loop L ts st)) : ∃ p r, c.m id = some p ∧ p.null = false ∧ w.heap[p.block]? = some (.loop r) ∧ r.fn = L.fn ∧ r.params = L.params ∧ r.assign = L.assign ∧ r.body = L.body ∧ r.tmps.size = L.N ∧ st.tells r ∧
      ∀ x ∈ ts, VRel c.ro c.m x.2 (r.tmps.getD x.1 undef) := by
  obtain ⟨p, hp, ⟨h0, r, h1⟩, _⟩ := hh.obj id _ hid trivial
  exact ⟨p, r, hp, h0, h1⟩

theorem loop_set {c w h id L ts st p r} (hh : HRel c w h) (hid : h[id]? = some (.loop L ts st)) (hp : c.m id = some p) (hr : w.heap[p.block]? = some (.loop r)) (r' : Loop) (st' : LSt)
    (he : r'.fn = r.fn ∧ r'.params = r.params ∧ r'.assign = r.assign ∧ r'.body = r.body ∧ r'.tmps = r.tmps) (hs : st'.tells r') :
    HRel c { w with heap := w.heap.setIfInBounds p.block (.loop r') } (h.set id (.loop L ts st')) ∧ Adv c w h c { w with heap := w.heap.setIfInBounds p.block (.loop r') } (h.set id (.loop L ts st')) := by
  obtain ⟨p', r0, hp', hn, h1, h2, h3, h4, h5, h6, h7, h8⟩ := loop_at hh hid
  rw [hp] at hp'; cases hp'
  rw [hr] at h1; cases h1
  have hlt : p.block < w.heap.size := (Array.getElem?_eq_some_iff.1 hr).1
  obtain ⟨e1, e2, e3, e4, e5⟩ := he
  refine hh.change id _ _ p hid trivial hp hn (by simp) (fun b hb => by simp [Array.getElem?_setIfInBounds, Ne.symm hb]) rfl rfl rfl ?_
  exact ⟨hn, r', by simp [Array.getElem?_setIfInBounds, hlt], e1.trans h2, e2.trans h3, e3.trans h4, e4.trans h5, by rw [e5]; exact h6, hs, by rw [e5]; exact h8⟩

theorem TriY.of_run {P : Program} {id f N ps ca cb} {args : List V} {H : List O} {Post} {L : LoopC} {ts : List (Nat × V)} (hL : LoopIs P L f N ps ca cb) (hid : H[id]? = some (.loop L ts .ready)) (hl : args.length = ps.length)
    (hr : Run ⟨P, .round f id, N, H, Post⟩ ⟨[.code ca, .beginR, .code cb], setPs ps args (tl ts), H⟩) : TriY P id args H Post := by
  intro c w cargs p hh hv hp hn
  obtain ⟨p', r, hp', _, h1, h2, h3, h4, h5, h6, h7, h8⟩ := loop_at hh hid
  rw [hp] at hp'; cases hp'
  have hsz : cargs.size = r.params.size := by rw [← hv.1, hl, h3, ← hL.hps]; simp
  refine ⟨r.fn, (r.params.zip cargs).foldl (fun tmps (x : Tmp × Value) => tmps.setIfInBounds x.1 x.2) r.tmps, r.assign, r.body, by simp [Instr.yield, Instr.getLoop, getObj, Sem.run, h1, hsz, Sem.run_bind], fun fr cs => ?_⟩
  let b : Frame := { (default : Frame) with fn := f, kind := .normal, roundOf := some p.block }
  let tmps := (r.params.zip cargs).foldl (fun tmps (x : Tmp × Value) => tmps.setIfInBounds x.1 x.2) r.tmps
  have hb0 : Frame.round p.block r.fn tmps r.assign r.body .normal = b.atR { tmps := tmps, defers := [] } [.code r.assign, .beginRound, .code r.body] := by
    simp [Frame.round, Frame.atR, b, h2, hL.hfn]
  have ht0 : TRel N c (tl ts) ⟨r.tmps, []⟩ := by
    refine ⟨by rw [← hL.hN]; exact h6, fun i => ?_⟩
    have : ∀ l : List (Nat × V), (∀ x ∈ l, VRel c.ro c.m x.2 (r.tmps.getD x.1 undef)) → VRel c.ro c.m (tl l i) (r.tmps.getD i undef) := by
      intro l
      induction l with
      | nil => intro _; rw [tl_nil]; exact .any ..
      | cons y l ih =>
        intro hy
        obtain ⟨j, v⟩ := y
        by_cases e : i = j
        · subst e; simp only [tl_cons, if_true]; exact hy (i, v) (by simp)
        · simp only [tl_cons, if_neg e]; exact ih fun x hx => hy x (List.mem_cons_of_mem _ hx)
    exact this ts h8
  have ht : TRel N c (setPs ps args (tl ts)) ⟨tmps, []⟩ := by
    have := setPs_rel (N := N) (c := c) ps args cargs.toList (tl ts) r.tmps hL.lt (by simpa using hv.1) (fun i h h' => by simpa using hv.2 i h (by simpa using h')) ht0
    have e : tmps = (ps.zip cargs.toList).foldl (fun tmps (x : Nat × Value) => tmps.setIfInBounds x.1 x.2) r.tmps := by
      simp only [tmps]
      rw [← Array.foldl_toList, Array.toList_zip, h3, hL.hps]
    rw [e]; exact this
  obtain ⟨e, w', fr', ⟨w2, v, rfl, hR, hstep⟩, hcomes⟩ := hr c w hh c w ⟨tmps, []⟩ (Adv.refl ..) hh ht rfl b [.code r.assign, .beginRound, .code r.body] (fr :: cs) rfl ⟨rfl, p, hp, rfl⟩
    (.cons (.code (by rw [h4]; exact hL.assign)) (.cons .beginR (.cons (.code (by rw [h5]; exact hL.body)) .nil)))
  refine ⟨v, w2, ?_, hR⟩
  show Steps P (lone (Frame.round p.block r.fn tmps r.assign r.body .normal) (fr :: cs) w) _
  rw [hb0]
  exact Steps.trans hcomes (.one (hstep fr cs))

end Sx

/-
  Sx, part Ze: ranges over functions: a round's begin and end; the statement.
-/
namespace Sx
open Go
set_option linter.unusedSimpArgs false
set_option linter.unusedVariables false

theorem Run.beginR {E : Env} {f id k t h L ts} (hE : E.f = .round f id) (hid : h[id]? = some (.loop L ts .ready)) (hr : Run E ⟨k, t, h.set id (.loop L ts .busy)⟩) : Run E ⟨.beginR :: k, t, h⟩ := by
  intro c0 w0 h0 c w a hadv hh ht hd b items cs hb hbk hk
  simp only at hadv hh ht hk
  cases hk with | cons hx hk => cases hx with | beginR =>
  have hbk0 := hbk
  rw [hE] at hbk
  obtain ⟨hkind, p, hp0, hro⟩ := hbk
  have hp := hadv.m _ _ hp0
  obtain ⟨p', r, hp', hn, h1, h2, h3, h4, h5, h6, ⟨h7, h7'⟩, h8⟩ := loop_at hh hid
  rw [hp] at hp'; cases hp'
  obtain ⟨g1, g2⟩ := loop_set hh hid hp h1 { r with state := .busy } .busy ⟨rfl, rfl, rfl, rfl, rfl⟩ rfl
  refine Goes.step (stepR_beginRound (w' := { w with heap := w.heap.setIfInBounds p.block (.loop { r with state := .busy }) }) hro ?_) (hr c0 w0 h0 c _ a (hadv.trans h0 g2) g1 (ht.mono g2.m g2.ro) hd b _ cs hb hbk0 hk)
  simp [Instr.beginRound, Instr.getLoop, getObj, setObj, Sem.run, Sem.run_bind, h1, h7]

/-- how a round is left -/
def jumpOf : List AItem → Option (Option Code)
  | [] => some none
  | .code .ret :: _ => some (some .ret)
  | .code (.exit id) :: k => if (unwind id k).isNone then some (some (.exit id)) else none
  | _ => none
def stOf : Option Code → LSt
  | none => .ready
  | some j => .done j

theorem unwind_none {P N id} : ∀ {k : List AItem} {items : List Item}, unwind id k = none → KRel P N k items → exitTo id items = none
  | [], [], h, _ => rfl
  | x :: k, y :: items, h, .cons hx hk => by
    cases hx with
    | code hc => simp only [unwind] at h; simp only [exitTo]; exact unwind_none h hk
    | ops hc => simp only [unwind] at h; simp only [exitTo]; exact unwind_none h hk
    | inLoop hc => simp only [unwind] at h; simp only [exitTo]; exact unwind_none h hk
    | beginR => simp only [unwind] at h; simp only [exitTo]; exact unwind_none h hk
    | @endB j =>
      simp only [unwind] at h
      by_cases e : j = id
      · rw [if_pos e] at h; cases h
      · rw [if_neg e] at h; simp [exitTo, e, unwind_none h hk]

theorem Run.roundEnd {E : Env} {f id k t h L ts j} (hE : E.f = .round f id) (hj : jumpOf k = some j) (hid : h[id]? = some (.loop L ts .busy)) (ρ : Nat → Option Nat) {h' : List O} (hn : Names E.H0.length ρ (h.set id (.loop L ts (stOf j))) h') (hp : E.Post (.bool j.isNone) h') :
    Run E ⟨k, t, h⟩ := by
  intro c0 w0 h0 c w a hadv hh ht hd b items cs hb hbk hk
  simp only at hadv hh ht hk
  rw [hE] at hbk
  obtain ⟨hkind, p, hp0, hro⟩ := hbk
  have hpm := hadv.m _ _ hp0
  obtain ⟨p', r, hp', hnl, h1, h2, h3, h4, h5, h6, h7, h8⟩ := loop_at hh hid
  rw [hpm] at hp'; cases hp'
  have hst : (stOf j).tells { r with state := if j.isNone then .ready else .done, pending := j } := by
    cases j <;> exact ⟨rfl, rfl⟩
  obtain ⟨g1, g2⟩ := loop_set hh hid hpm h1 { r with state := if j.isNone then .ready else .done, pending := j } (stOf j) ⟨rfl, rfl, rfl, rfl, rfl⟩ hst
  obtain ⟨r1, r2⟩ := reindex h0 (hadv.trans h0 g2) g1 hn
  have hend : (Instr.endRound p.block j).run E.P w = .ok (.bool j.isNone) { w with heap := w.heap.setIfInBounds p.block (.loop { r with state := if j.isNone then .ready else .done, pending := j }) } := by
    simp [Instr.endRound, Instr.getLoop, getObj, setObj, Sem.run, Sem.run_bind, h1]
  have hF : ∀ items, (∀ c cs, Go.step E.P (lone (b.atR a items) (c :: cs) w) = .next (lone (c.finish (.bool j.isNone)) cs { w with heap := w.heap.setIfInBounds p.block (.loop { r with state := if j.isNone then .ready else .done, pending := j }) })) →
      Goes E.P b (E.F c0 w0) items cs a w := by
    intro items hs
    refine ⟨.returned (.bool j.isNone), w, b.atR a items, ?_, Steps.refl _ _⟩
    unfold Env.F
    rw [hE]
    exact ⟨_, _, rfl, ⟨_, h', _, _, hp, rfl, .bool .., r1, r2⟩, hs⟩
  refine hF items fun cf cs' => ?_
  cases hk with
  | nil => simp only [jumpOf, Option.some.injEq] at hj; subst hj; exact stepR_round_end hro hkind hend
  | cons hx hk' =>
    cases hx with
    | code hc =>
      rename_i ac
      cases ac <;> simp only [jumpOf] at hj <;> try (cases hj; done)
      case exit n =>
        split at hj
        case isFalse => cases hj
        rename_i hu
        cases hj
        cases cCode_exit hc
        exact stepR_round_exit hro hkind (unwind_none (by simpa using hu) hk') hend
      case ret =>
        cases hj
        cases cCode_ret hc
        exact stepR_round_ret hro hkind hend
    | ops => simp [jumpOf] at hj
    | endB => simp [jumpOf] at hj
    | inLoop => simp [jumpOf] at hj
    | beginR => simp [jumpOf] at hj

theorem cCode_rangeF {P N c fo ps ca cb} (h : cCode P N c = some (.rangeF fo ps ca cb)) : ∃ g params assign body, c = .rangeFunc g params assign body ∧ cOpd N g = some fo ∧ params.toList = ps ∧ (∀ i ∈ ps, i < N) ∧ cCode P N assign = some ca ∧ cCode P N body = some cb := by
  cases c
  case region id ops d => cases d <;> simp only [cCode] at h <;> split at h <;> cases h
  case rangeFunc g params assign body =>
    simp only [cCode] at h
    split at h
    case h_2 => cases h
    split at h
    case isFalse => cases h
    rename_i hall
    cases h
    exact ⟨_, _, _, _, rfl, by assumption, rfl, fun i hi => by simpa using List.all_eq_true.1 hall i hi, by assumption, by assumption⟩
  all_goals (simp only [cCode] at h; first | (cases h; done) | (repeat (first | (cases h; done) | split at h)) <;> cases h)

/-- what is asked at the end, where the names that there are then are kept -/
def PostR (E : Env) (v : V) (H : List O) : Prop := ∃ ρ v' H', Names E.H0.length ρ H H' ∧ v = v'.ren ρ ∧ E.Post v' H'

/-- another world, the same where it is told of -/
theorem HRel.other {c : Ctx} {w w' : World} {h : List O} (hh : HRel c w h) (hs : ∀ b, (Owns c h b ∨ ∃ cs, c.ro b = some cs) → w'.heap[b]? = w.heap[b]?) : HRel c w' h := by
  refine ⟨fun b cs hb => ?_, hh.dom, fun i o hi hl => ?_, hh.inj, hh.glob⟩
  · obtain ⟨e, fr, hw⟩ := hh.ro b cs hb
    exact ⟨e, fr, (hs b (.inr ⟨cs, hb⟩)).trans hw⟩
  · obtain ⟨p, hp, hr, hro⟩ := hh.obj i o hi hl
    exact ⟨p, hp, hr.mono (fun _ _ h => h) (fun _ _ h => h) (fun hn => hs _ (.inl ⟨i, p, ⟨o, hi, hl⟩, hp, hn, rfl⟩)), hro⟩

theorem Run.rangeF {E : Env} {g t h k fo ps ca cb f caps} (ts : List (Nat × V)) (hE : E.f = .fn g) (hf : fo.ev t = .fn f caps) (hts : ∀ x ∈ ts, t x.1 = x.2)
    (hr : ∀ L, LoopIs E.P L g E.N ps ca cb → ∃ Q, Tri E.P f (.yld h.length :: caps) (h ++ [.loop L ts .ready]) Q ∧
      ∀ v H', Q v H' → ∃ L' ts' st, H'[h.length]? = some (.loop L' ts' st) ∧ E.H0.length ≤ H'.length ∧ (match st with
        | .ready => ∀ ds, Run ⟨E.P, .fnD g ds, E.N, H'.set h.length .gone, PostR E⟩ ⟨k, t, H'.set h.length .gone⟩
        | .busy => False
        | .done j => ∃ jc, cCode E.P E.N j = some jc ∧ ∀ ds, Run ⟨E.P, .fnD g ds, E.N, H'.set h.length .gone, PostR E⟩ ⟨.code jc :: k, t, H'.set h.length .gone⟩)) :
    Run E ⟨.code (.rangeF fo ps ca cb) :: k, t, h⟩ := by
  intro c0 w0 h0 c w a hadv hh ht hd b items cs hb hbk hk
  simp only at hadv hh ht hk
  cases hk with | cons hx hk => cases hx with | code hc =>
  rename_i items cde
  obtain ⟨go, params, assign, body, rfl, hgo, hps, hlt, hca, hcb⟩ := cCode_rangeF hc
  rw [hE] at hbk hb hd
  obtain ⟨hkind, hro⟩ := hbk
  have hd : a.defers = [] := hd
  have hb : b.fn = g := hb
  have r1 := opd_rel ht hgo
  rw [hf] at r1
  obtain ⟨cs1, hcs1, hcaps⟩ := r1.fn_inv
  -- the loop is entered
  let L : LoopC := ⟨g, E.N, params, assign, body⟩
  have hL : LoopIs E.P L g E.N ps ca cb := ⟨rfl, rfl, hps, hlt, hca, hcb⟩
  obtain ⟨Q, ⟨⟨fn, hfn, hbody, hname⟩, hcalls⟩, hnext⟩ := hr L hL
  let r := w.heap.size
  let lp : Loop := { state := .ready, pending := none, fn := g, tmps := a.tmps, params := params, assign := assign, body := body, defers := r }
  let w1 : World := { w with heap := (w.heap.push (.deferred (some []))).push (.loop lp) }
  have hent : (Instr.enterLoop b.fn a.tmps params assign body b.roundOf).run E.P w = .ok (r + 1, [{ target := .collected r, args := #[] }]) w1 := by
    rw [hro, hb]
    show (Instr.enterLoop g a.tmps params assign body none).run E.P w = .ok (w.heap.size + 1, [{ target := .collected w.heap.size, args := #[] }]) { w with heap := (w.heap.push (.deferred (some []))).push (.loop { state := .ready, pending := none, fn := g, tmps := a.tmps, params := params, assign := assign, body := body, defers := w.heap.size }) }
    unfold Instr.enterLoop
    simp
    rfl
  let pl : Place := ⟨r + 1, 0, 0, false, 0⟩
  obtain ⟨g1, g2⟩ := hh.grow (w' := w1) (.loop L ts .ready) pl (fun _ => by simp [pl, r]) (by simp [w1]; omega) (fun b' hb' => by
      simp only [w1, Array.getElem?_push, Array.size_push]; rw [if_neg (by omega), if_neg (by omega)]) rfl rfl rfl (fun m' hm => by
    refine ⟨rfl, lp, (by show ((w.heap.push _).push _)[w.heap.size + 1]? = _; rw [Array.getElem?_push, if_pos (by simp)]), rfl, rfl, rfl, rfl, ht.size, ⟨rfl, rfl⟩, fun x hx => ?_⟩
    rw [← hts x hx]
    exact (ht.rel x.1).mono (fun _ _ h => h) hm)
  generalize hc1 : (⟨fun i => if i = h.length then some pl else c.m i, c.ro⟩ : Ctx) = c1 at g1 g2
  have hyl : c1.m h.length = some pl := by rw [← hc1]; simp
  have hw1s : w1.heap.size = r + 2 := by simp [w1, r]
  have hw1r : w1.heap[r]? = some (.deferred (some [])) := by
    show ((w.heap.push _).push _)[w.heap.size]? = _
    rw [Array.getElem?_push, if_neg (by simp), Array.getElem?_push, if_pos rfl]
  -- the function is called
  have hv : VRels c1.ro c1.m ([.yld h.length] ++ caps) (#[.func (.yield (r + 1)) #[] #[]] ++ cs1) :=
    VRels.append ⟨rfl, fun i h1 h2 => by
      have : i = 0 := by simpa using h1
      subst this
      exact .yld _ _ pl hyl rfl⟩ (hcaps.mono g2.ro g2.m)
  have hres : (resolve a.eval (rangeCall go (r + 1)) 0).run E.P w1 = .ok { target := .fn (.func f) cs1, args := #[.func (.yield (r + 1)) #[] #[]] } w1 := by
    have hce : ∀ x, a.eval (.const x) = x := fun _ => rfl
    simp [resolve, rangeCall, hcs1, Deferred.ofValue, hce, Sem.run_bind]
  have hn1 : ¬ fn.name = "runtime.NumGoroutine" := by simpa using hname
  have hn2 : ¬ fn.body = none := by intro h; simp [h] at hbody
  have hinv : (invoke (.fn (.func f) cs1) #[.func (.yield (r + 1)) #[] #[]]).run E.P w1 = .ok (.enter f (#[.func (.yield (r + 1)) #[] #[]] ++ cs1)) w1 := by
    simp [invoke, callFunc, hfn, hn1, hn2, Sem.run_bind]
  have henter := stepR_rangeFunc (P := E.P) (b := b) (a := a) (k := items) (cs := cs) (w := w) hent hres hinv
  obtain ⟨e, w2, fr, hR, hcomes, hfrf, hleave⟩ := hcalls c1 w1 _ g1 hv (b.atR { a with defers := [{ target := .collected r, args := #[] }] ++ a.defers } (.inRangeFunc (r + 1) :: items) :: cs)
  obtain ⟨v, H', c2, cv, hQ, rfl, hcv, hh2, hadv2⟩ := hR
  have hback := step_leave_returned (c := b.atR { a with defers := [{ target := .collected r, args := #[] }] ++ a.defers } (.inRangeFunc (r + 1) :: items)) (cs := cs) hleave
  rw [finish_atR_inRangeFunc] at hback
  obtain ⟨L', ts', st, hid, hlen, hst⟩ := hnext v H' hQ
  have hyl2 := hadv2.m _ _ hyl
  obtain ⟨p', r2, hp', hnl, q1, q2, q3, q4, q5, q6, q7, q8⟩ := loop_at hh2 hid
  rw [hyl2] at hp'; cases hp'
  -- the loop is left
  let w3 : World := { w2 with heap := w2.heap.setIfInBounds (r + 1) (.loop { r2 with state := .exhausted }) }
  have hlt2 : r + 1 < w2.heap.size := (Array.getElem?_eq_some_iff.1 q1).1
  obtain ⟨g3, g4⟩ := hh2.change (w' := w3) h.length _ .gone pl hid trivial hyl2 rfl (by simp [w3]) (fun b' hb' => by
    simp [w3, Array.getElem?_setIfInBounds, Ne.symm (show b' ≠ r + 1 from hb')]) rfl rfl rfl trivial
  -- the mark's block
  have no1 : ¬ Owns c1 (h ++ [.loop L ts .ready]) r := by
    rintro ⟨i, p, hl, hm, hn, he⟩
    rcases live_append hl with ⟨hi, hl'⟩ | ⟨hi, -⟩
    · rw [← hc1] at hm
      simp only [if_neg (by omega : ¬ i = h.length)] at hm
      have := hh.owns_lt ⟨i, p, hl', hm, hn, he⟩
      simp only [r] at this; omega
    · subst hi
      rw [hyl] at hm; cases hm
      simp only [pl] at he; omega
  have no2 : ¬ Owns c2 H' r := fun ho => by
    rcases Owns.of_adv hadv2 g1 ho with h1 | h1
    · exact no1 h1
    · omega
  have no3 : ¬ Owns c2 (H'.set h.length .gone) r := fun ho => by
    rcases Owns.of_adv g4 hh2 ho with h1 | h1
    · exact no2 h1
    · omega
  have hr3 : w3.heap[r]? = some (.deferred (some [])) := by
    have h1 : w3.heap[r]? = w2.heap[r]? := by simp [w3, Array.getElem?_setIfInBounds]
    rw [h1, hadv2.frame r (by omega) no1, hw1r]
  have hw3s : r < w3.heap.size := (Array.getElem?_eq_some_iff.1 hr3).1
  have hchain : Adv c0 w0 E.H0 c2 w3 (H'.set h.length .gone) := hadv.trans h0 (g2.trans hh (hadv2.trans g1 g4))
  have ht3 : TRel E.N c2 t { a with defers := [{ target := .collected r, args := #[] }] ++ a.defers } := by
    have := ((ht.mono g2.m g2.ro).mono hadv2.m hadv2.ro)
    exact ⟨this.size, this.rel⟩
  have hds : ({ a with defers := [{ target := .collected r, args := #[] }] ++ a.defers } : Act).defers = [{ target := .collected r, args := #[] }] := by simp [hd]
  have hfin : ∀ (k1 : List AItem) (items1 : List Item), KRel E.P E.N k1 items1 → Run ⟨E.P, .fnD g [{ target := .collected r, args := #[] }], E.N, H'.set h.length .gone, PostR E⟩ ⟨k1, t, H'.set h.length .gone⟩ →
      Go.step E.P (lone (b.atR { a with defers := [{ target := .collected r, args := #[] }] ++ a.defers } (.endRangeFunc (r + 1) :: items)) cs w2) = .next (lone (b.atR { a with defers := [{ target := .collected r, args := #[] }] ++ a.defers } items1) cs w3) →
      Goes E.P b (E.F c0 w0) (.code (.rangeFunc go params assign body) :: items) cs a w := by
    intro k1 items1 hk1 hrun hend
    obtain ⟨e', w', fr', hF, hcomes'⟩ := hrun c2 w3 g3 c2 w3 _ (Adv.refl ..) g3 ht3 hds b items1 cs hb ⟨hkind, hro⟩ hk1
    obtain ⟨cx, hX, fn', ⟨cv', rfl⟩, m1, m2, m3, m4, m5, m6, m7, m8⟩ := hF
    have no4 : ¬ Owns cx hX r := fun ho => by
      rcases Owns.of_adv m7 g3 ho with h1 | h1
      · exact no3 h1
      · omega
    have hr4 : w'.heap[r]? = some (.deferred (some [])) := by rw [m7.frame r hw3s no3, hr3]
    have hro4 : ∀ cs', cx.ro r ≠ some cs' := fun cs' hc' => by
      obtain ⟨e, f', hw'⟩ := m6.ro _ _ hc'
      rw [hr4] at hw'; cases hw'
    let w4 : World := { w' with heap := w'.heap.setIfInBounds r (.deferred none) }
    have htake : (Instr.takeDeferred r).run E.P w' = .ok [] w4 := by
      simp [Instr.takeDeferred, getObj, setObj, Sem.run, Sem.run_bind, hr4, w4]
    have hcol := step_collected (P := E.P) (cs := cs) (fr := fr') (ds := []) (by rw [m1]; intro h; cases h) m2 rfl htake
    have heq4 : ∀ b', b' ≠ r → w4.heap[b']? = w'.heap[b']? := fun b' hb' => by simp [w4, Array.getElem?_setIfInBounds, Ne.symm hb']
    have hA := hchain.trans h0 m7
    refine ⟨.returned cv', w4, { fr' with defers := [] }, ?_, ?_⟩
    · unfold Env.F
      rw [hE]
      refine ⟨cx, hX, fn', ⟨_, rfl⟩, m1, rfl, m3, m4, m5, m6.other fun b' hb' => heq4 b' ?_, ⟨hA.m, hA.ro, hA.len, hA.live, by simpa [w4] using hA.size, fun b' hb' hno => ?_, hA.fresh, hA.freshro, hA.os, hA.output, hA.tape⟩, fun w5 hh5 => ?_⟩
      · rintro rfl
        rcases hb' with h1 | ⟨cs', h1⟩
        · exact no4 h1
        · exact hro4 _ h1
      · rw [heq4 b' (by have := hadv.size; simp only [r]; omega)]
        exact hA.frame b' hb' hno
      · obtain ⟨cv5, v5, H5, c5, k1, ⟨ρ, v6, H6, hn, hv6, hp6⟩, k3, k4, k5⟩ := m8 w5 hh5
        exact ⟨cv5, v6, H6, c5.via ρ, k1, hp6, k3.of_ren ρ hv6 via_of, hn.rel k4, fun cA wA HA hhA hle hadvA => (reindex hhA (k5 cA wA HA hhA (by rw [List.length_set]; omega) hadvA) k4 (hn.less hle)).2⟩
    · exact Steps.trans (.head henter (Steps.trans hcomes (.head hback (.one hend)))) (Steps.trans hcomes' (.one (by simpa using hcol)))
  cases st with
  | busy => exact hst.elim
  | ready =>
    obtain ⟨s1, s2⟩ := q7
    refine hfin k items hk (hst _) (stepR_endRangeFunc (jump := none) ?_)
    simp [Instr.endLoop, Instr.getLoop, getObj, setObj, Sem.run, Sem.run_bind, show w2.heap[r + 1]? = some (.loop r2) from q1, s1, s2, w3]
  | done j =>
    obtain ⟨s1, s2⟩ := q7
    obtain ⟨jc, hjc, hst⟩ := hst
    refine hfin (.code jc :: k) (.code j :: items) (.cons (.code hjc) hk) (hst _) (stepR_endRangeFunc (jump := some j) ?_)
    simp [Instr.endLoop, Instr.getLoop, getObj, setObj, Sem.run, Sem.run_bind, show w2.heap[r + 1]? = some (.loop r2) from q1, s1, s2, w3]

end Sx

/-
  Sx, part Zf: calls of Go's own entries; capacities; names.
-/
namespace Sx
open Go
set_option linter.unusedSimpArgs false
set_option linter.unusedVariables false

/-- what calling an entry of the model comes to, that changes nothing -/
def TriX (P : Program) (f : FuncId) (args : List V) (H : List O) (v : V) : Prop :=
  ∀ c w cargs, HRel c w H → VRels c.ro c.m args cargs → ∃ cv, (callFunc f cargs).run P w = .ok (.value cv) w ∧ VRel c.ro c.m v cv

theorem Run.opX {E : Env} {t h k} {ls : List AOper} {d g fo args l f caps v} (htri : TriX E.P f (args.map (Opd.ev t) ++ caps) h v) (he : ls = ⟨d, g, .call fo args⟩ :: l) (hg : guardB t g = some true) (hf : fo.ev t = .fn f caps)
    (hk : Run E ⟨.ops l :: k, put t d v, h⟩) : Run E ⟨.ops ls :: k, t, h⟩ := by
  subst he
  intro c0 w0 h0 c w a hadv hh ht hd b items cs hb hbk hk'
  simp only at hadv hh ht hk'
  cases hk' with | cons hx hk' => cases hx with | @ops _ ops todo hl =>
  rename_i items
  cases todo with
  | nil => simp at hl
  | cons i todo =>
    obtain ⟨⟨o, ho, hco⟩, hl'⟩ := ops_cons hl
    obtain ⟨hcp, hdst, hdN, hgd⟩ := cOper_spec hco
    have hw := guard_wanted ht hgd hg
    obtain ⟨odst, op, ty, pos, after, guard⟩ := o
    simp only at hcp hdst
    have this := cOp_call hcp
    obtain ⟨fo', args', ats, rfl, hfo, hargs⟩ := this
    have r1 := opd_rel ht hfo
    rw [hf] at r1
    obtain ⟨cs1, hcs1, hcaps⟩ := r1.fn_inv
    have r2 := opds_rel ht hargs
    obtain ⟨cv, hcall, hcv⟩ := htri c w (args'.map a.eval ++ cs1) hh (VRels.append r2 hcaps)
    have hexec : (execOp a.eval ⟨odst, .call { callee := .value fo', args := args', argTypes := ats }, ty, pos, after, guard⟩).run E.P w = .ok (.value cv) w := by
      simp [execOp, resolve, Sem.run_bind, hcs1, Deferred.ofValue, invoke, hcall]
    have hgop := stepGR (P := E.P) (b := b) (k := items) (cs := cs) (w := w) (rest := todo) ho hw hcp
    have hfin := region_finish (b := b) (a := a) (rest := todo) (k := items) ho cv
    have hstep : Go.step E.P (lone (b.atR a (.inRegion ops (i :: todo) :: items)) cs w) = .next (lone (b.atR (a.put odst cv) (.inRegion ops todo :: items)) cs w) :=
      step_lone_go (by rw [hgop, ← hfin]; simp [stepG.apply, hexec])
    refine Goes.step hstep ?_
    refine hk c0 w0 h0 c w _ hadv hh (by rw [hdst]; exact ht.put d hdN hcv) ?_ b _ cs hb hbk (.cons (.ops hl') hk')
    cases odst <;> exact hd

/-- a list's capacity is some number -/
theorem Run.cap {E : Env} {t h k} (i : Nat) {id off len sz : Nat} (hi : t i = .sl id off len sz none) (hpos : 0 < len) (hr : ∀ c, len ≤ c → Run E ⟨k, upd t i (.sl id off len sz (some c)), h⟩) : Run E ⟨k, t, h⟩ := by
  intro c0 w0 h0 c w a hadv hh ht hd b items cs hb hbk hk
  simp only at hadv hh ht hk
  have hri := ht.rel i
  rw [hi] at hri
  rcases hri.sl_inv with ⟨p, cap, o, hp, hn, hcl, ho, hto, hkk, hcv⟩ | ⟨p, a', _, _, _, h0, _, _⟩
  · refine hr cap hcl c0 w0 h0 c w a hadv hh ⟨ht.size, fun j => ?_⟩ hd b items cs hb hbk hk
    show VRel c.ro c.m (if j = i then V.sl id off len sz (some cap) else t j) _
    split
    · rename_i e; subst e
      rw [hcv]
      exact .sl _ _ _ _ _ _ o _ p hp hn hcl ho hto (fun x hx => by cases hx; rfl)
    · exact ht.rel j
  · omega

/-- less is told: no capacity -/
theorem VLe.cap (id off len sz : Nat) (k : Option Nat) : VLe (.sl id off len sz k) (.sl id off len sz none) := by
  intro ro m c h
  rcases h.sl_inv with ⟨p, cap, o, hp, hn, hcl, ho, hto, hk, rfl⟩ | ⟨p, a, hp, hn, rfl, rfl, rfl, rfl⟩
  · exact .sl _ _ _ _ _ _ o _ p hp hn hcl ho hto (fun x hx => by cases hx)
  · exact .slnil _ _ _ p _ hp hn

theorem ORel.leS {ro m w p es sz} (n : Nat) (h : ORel ro m w p (.arr es sz)) : ORel ro m w p (.arr (es.take n) sz) := by
  obtain ⟨h1, h2, h3, h4⟩ := h
  refine ⟨fun hn => by rw [h1 hn]; simp, fun e he => h2 e (List.mem_of_mem_take he), fun i hi => by simp only [List.getElem_take]; exact h3 _ _, fun hn => ?_⟩
  obtain ⟨cc, h5, h6, h7⟩ := h4 hn
  refine ⟨cc, h5, ?_, fun i hi j hj => ?_⟩
  · have : (es.take n).length * sz ≤ es.length * sz := Nat.mul_le_mul_right _ (by simp; omega)
    omega
  · simp only [List.getElem_take] at hj ⊢
    exact h7 i (by simp at hi; omega) j hj

/-- fewer of a list's elements are told -/
theorem Run.leS {E : Env} {k t h} (id n : Nat) {es sz} (hid : h[id]? = some (.arr es sz)) (hr : Run E ⟨k, t, h.set id (.arr (es.take n) sz)⟩) : Run E ⟨k, t, h⟩ := by
  intro c0 w0 h0 c w a hadv hh htr hd b items cs hb hbk hk
  simp only at hadv hh htr hk
  have hlt : id < h.length := (List.getElem?_eq_some_iff.1 hid).1
  have hget : ∀ (i : Nat) (o : O), (h.set id (.arr (es.take n) sz))[i]? = some o → ∃ o', h[i]? = some o' ∧ (o.live → o'.live) ∧ ∀ m' p, ORel c.ro m' w p o' → ORel c.ro m' w p o := by
    intro i o ho
    by_cases e : i = id
    · subst e
      rw [List.getElem?_set_self hlt] at ho; cases ho
      exact ⟨_, hid, fun _ => trivial, fun m' p => ORel.leS n⟩
    · rw [List.getElem?_set_ne (Ne.symm e)] at ho
      exact ⟨o, ho, fun h => h, fun _ _ h => h⟩
  have hlive : ∀ i, Live (h.set id (.arr (es.take n) sz)) i → Live h i := by
    rintro i ⟨o, h1, h2⟩
    obtain ⟨o', h3, h4, -⟩ := hget i o h1
    exact ⟨o', h3, h4 h2⟩
  have g1 : HRel c w (h.set id (.arr (es.take n) sz)) := by
    refine ⟨hh.ro, fun i p hm => by rw [List.length_set]; exact hh.dom i p hm, fun i o ho hol => ?_, fun i j p q h1 h2 => hh.inj i j p q (hlive i h1) (hlive j h2), hh.glob⟩
    obtain ⟨o', h1, h2, h3⟩ := hget i o ho
    obtain ⟨p, h4, h5, h6⟩ := hh.obj i o' h1 (h2 hol)
    exact ⟨p, h4, h3 _ _ h5, h6⟩
  have g2 : Adv c w h c w (h.set id (.arr (es.take n) sz)) := ⟨fun _ _ h => h, fun _ _ h => h, by rw [List.length_set]; exact Nat.le_refl _, fun i _ h => hlive i h, Nat.le_refl _, fun _ _ _ => rfl, fun _ _ h _ => .inl h, fun _ _ h => .inl h, rfl, rfl, rfl⟩
  exact hr c0 w0 h0 c w a (hadv.trans h0 g2) g1 ⟨htr.size, htr.rel⟩ hd b items cs hb hbk hk

/-- a name for nothing -/
theorem Run.goneR {E : Env} {k t h} (hr : Run E ⟨k, t, h ++ [.gone]⟩) : Run E ⟨k, t, h⟩ := by
  intro c0 w0 h0 c w a hadv hh ht hd b items cs hb hbk hk
  simp only at hadv hh ht hk
  have hget : ∀ (i : Nat) (o : O), (h ++ [O.gone])[i]? = some o → o.live → h[i]? = some o := by
    intro i o ho hl
    rcases Nat.lt_or_ge i h.length with h1 | h1
    · rwa [List.getElem?_append_left h1] at ho
    · rw [List.getElem?_append_right h1] at ho
      cases hi : i - h.length with
      | zero => rw [hi] at ho; cases ho; exact hl.elim
      | succ n => rw [hi] at ho; cases ho
  have hlive : ∀ i, Live (h ++ [O.gone]) i → Live h i := fun i ⟨o, h1, h2⟩ => ⟨o, hget i o h1 h2, h2⟩
  refine hr c0 w0 h0 c w a ⟨hadv.m, hadv.ro, by have := hadv.len; simp; omega, fun i hi hl => hadv.live i hi (hlive i hl), hadv.size, hadv.frame, hadv.fresh, hadv.freshro, hadv.os, hadv.output, hadv.tape⟩
    ⟨hh.ro, fun i p hi => by have := hh.dom i p hi; simp; omega, fun i o ho hl => hh.obj i o (hget i o ho hl) hl, fun i j p q hi hj => hh.inj i j p q (hlive i hi) (hlive j hj), hh.glob⟩ ht hd b items cs hb hbk hk

theorem namesI {n : Nat} {h : List O} (hl : n ≤ h.length) (ho : Stay h.length h) : Names n (fr h.length) h h := by
  refine ⟨hl, fun i hi => by simp [fr]; omega, fun i j hij => ?_, fun i o hi _ => ⟨i, ?_, ?_⟩, fun i i' j h1 h2 => ?_⟩
  · unfold fr at hij; split at hij <;> simp at hij; omega
  · simp [fr, (List.getElem?_eq_some_iff.1 hi).1]
  · rw [ho.mem o (List.mem_of_getElem? hi)]; exact hi
  · unfold fr at h1 h2; split at h1 <;> split at h2 <;> simp at h1 h2; omega
theorem namesN (h : List O) : Names 0 (fun _ => none) h [] := ⟨by simp, (fun i hi => by simp at hi), (fun i j h => by cases h), (fun i o h => by simp at h), (fun i i' j h => by cases h)⟩
theorem objsSkip {X : O} (hX : ∀ ρ, X.ren ρ = X) (ρ) (h : List O) (j : Nat) (js : List Nat) (os : List O) (hj : h[j]? = some X) : Objs ρ h (j :: js) (X :: os) ↔ Objs ρ h js os := by
  simp only [Objs, hj, OLeO, hX, OLe.refl, true_and]

/-- two owned lists lie apart -/
theorem overlaps_apart {P : Program} {f : FuncId} {fn : Func} (hfn : P.funcs[f]? = some fn) {tS e : TypeId} {i : TypeInfo} (hps : fn.params = #[tS, tS]) (ht : P.underlying tS = some (.slice e)) (hi : P.info? e = some i)
    (hname : (fn.name == "runtime.NumGoroutine") = false) (hbody : fn.body.isNone = true) (hn : Extern.findNext fn = none) (hx : Extern.find fn = some (Extern.SlicesOverlaps.overlaps fn.params fn.resultTypes))
    {tR : TypeId} (hrs : fn.resultTypes = #[tR]) {id1 o1 l1 s1 id2 o2 l2 s2 : Nat} {k1 k2 : Option Nat} {es1 es2 : List (List V)} {z1 z2 : Nat} {H : List O} (hne : id1 ≠ id2) (h1 : H[id1]? = some (.arr es1 z1)) (h2 : H[id2]? = some (.arr es2 z2))
    (hl1 : 0 < l1) (hl2 : 0 < l2) (hs1 : 0 < s1) (hs2 : 0 < s2) : TriX P f [.sl id1 o1 l1 s1 k1, .sl id2 o2 l2 s2 k2] H (.bool false) := by
  intro c w cargs hh hv
  have hsz : cargs.size = 2 := by rw [← hv.1]; rfl
  have ha := hv.2 0 (by simp) (by omega)
  have hb := hv.2 1 (by simp) (by omega)
  rw [args2 hsz]
  simp only [List.getElem_cons_zero, List.getElem_cons_succ] at ha hb
  generalize cargs[0] = xa at *
  generalize cargs[1] = xb at *
  rcases ha.sl_inv with ⟨p, cap, o, hp, hpn, hcl, ho, hto, hk, rfl⟩ | ⟨_, _, _, _, _, h0, _, _⟩
  · rcases hb.sl_inv with ⟨q, cap', o', hq, hqn, hcl', ho', hto', hk', rfl⟩ | ⟨_, _, _, _, _, h0, _, _⟩
    · obtain ⟨cc1, e1, fr1, hw1, g1, g2, _, _, _, _, g3⟩ := arr_cells hh h1 hp hpn
      obtain ⟨cc2, e2, fr2, hw2, g4, g5, _, _, _, _, g6⟩ := arr_cells hh h2 hq hqn
      have hbl : p.block ≠ q.block := fun h => hne (hh.inj id1 id2 p q ⟨_, h1, trivial⟩ ⟨_, h2, trivial⟩ hp hq hpn hqn h)
      have t1 := hto (by omega)
      have t2 := hto' (by omega)
      have m1 : s1 ≤ cap * s1 := Nat.le_mul_of_pos_left s1 (by omega)
      have m2 : s2 ≤ cap' * s2 := Nat.le_mul_of_pos_left s2 (by omega)
      have ho1 : o = p.base + o1 * s1 := by rcases ho with h | h; exact h; omega
      have hfz : ∀ (j : Nat), j ≤ p.top → w.frozen? ⟨p.block, j, none⟩ = false := fun j hj => frozen_of_heap hw1 (g3 j hj)
      refine ⟨.bool false, ?_, .bool ..⟩
      rw [run_callFunc_extern hfn hname hbody hn hx, hps, hrs]
      rw [Lib.run_overlaps_apart w tS tR e ht i.size (fun w => by simp [Go.sizeOf, typeInfo, hi]) ⟨p.block, o, none⟩ ⟨q.block, o', none⟩ l1 cap l2 cap' hbl e1.1 e2.1 cc1.size cc2.size (shape_of_heap hw1) (shape_of_heap hw2) (by omega)
        (hfz o (by omega)) (by rw [g1]; exact hfz _ (Nat.le_refl _))]
      rfl
    · omega
  · omega

theorem cmp_entry {P : Program} {f : FuncId} {fn : Func} (hfn : P.funcs[f]? = some fn) (hname : (fn.name == "runtime.NumGoroutine") = false) (hbody : fn.body.isNone = true) (hn : Extern.findNext fn = none) (hx : Extern.find fn = some Extern.BytealgCompare.compare)
    (a b : List UInt8) (H : List O) : TriX P f [.str a, .str b] H (.int .i64 (Lib.compareBytes a b)) := by
  intro c w cargs hh hv
  have hsz : cargs.size = 2 := by rw [← hv.1]; rfl
  have ha := (hv.2 0 (by simp) (by omega)).str_inv
  have hb := (hv.2 1 (by simp) (by omega)).str_inv
  rw [args2 hsz, ha, hb]
  refine ⟨_, ?_, .int ..⟩
  rw [run_callFunc_extern hfn hname hbody hn hx, Lib.run_compareString]
  rfl

end Sx

/-
  Sx, part Zg: is a list nil? Where it is not known, both ways are gone.
-/
namespace Sx
open Go
set_option linter.unusedSimpArgs false
set_option linter.unusedVariables false

theorem cOp_eq {P : Program} {N : Nat} {op : Op} {neg : Bool} {kind : Nat} {x y : Opd} (hcp : cOp P N op = some (.eq neg kind x y)) :
    ∃ bop tt x' y' yt, op = .binOp bop tt x' y' yt ∧ (bop = .eql ∨ bop = .neq) ∧ cEq P tt = some kind ∧ cOpd N x' = some x ∧ cOpd N y' = some y := by
  cases op
  case makeMap mt mr => cases mr <;> simp [cOp] at hcp
  case binOp bop tt x' y' yt =>
    simp only [cOp] at hcp
    split at hcp
    case h_2 => cases hcp
    case h_1 hx hy =>
      split at hcp
      · cases hcp
      · rename_i hsc
        split at hcp
        · cases hcp
        · cases hcp
        · have hop : bop = .eql ∨ bop = .neq := by cases bop <;> simp [scalarOp] at hsc <;> simp
          split at hcp
          · cases hcp
            exact ⟨_, _, _, _, _, rfl, hop, by assumption, hx, hy⟩
          · split at hcp <;> cases hcp
  case call cl =>
    obtain ⟨callee, cargs, ats⟩ := cl
    cases callee <;> simp only [cOp] at hcp
    all_goals (repeat' (first | (cases hcp; done) | (unfold cBuiltin at hcp) | split at hcp))
  case makeFunc fn first captured =>
    cases fn <;> simp only [cOp] at hcp
    all_goals (repeat' (first | (cases hcp; done) | split at hcp))
  all_goals (first | (simp only [cOp] at hcp; done) | (simp only [cOp] at hcp; repeat' (first | (cases hcp; done) | split at hcp)))

/-- of a list it is only known that it is one: it is nil, or not -/
theorem Run.opEqN {E : Env} {t h k} {ls : List AOper} {d g neg x y l} (he : ls = ⟨d, g, .eq neg 2 x y⟩ :: l) (hg : guardB t g = some true) (hx : ∀ ro m c, VRel ro m (x.ev t) c → ∃ a n q, c = .slice a n q) (hy : y.ev t = .nils)
    (hr : ∀ b, Run E ⟨.ops l :: k, put t d (.bool b), h⟩) : Run E ⟨.ops ls :: k, t, h⟩ := by
  subst he
  intro c0 w0 h0 c w a hadv hh ht hd b items cs hb hbk hk'
  simp only at hadv hh ht hk'
  cases hk' with | cons hx' hk' => cases hx' with | @ops _ ops todo hl =>
  rename_i items
  cases todo with
  | nil => simp at hl
  | cons i todo =>
    obtain ⟨⟨o, ho, hco⟩, hl'⟩ := ops_cons hl
    obtain ⟨hcp, hdst, hdN, hgd⟩ := cOper_spec hco
    have hw := guard_wanted ht hgd hg
    obtain ⟨odst, op, ty, pos, after, guard⟩ := o
    simp only at hcp hdst
    obtain ⟨bop, tt, x', y', yt, rfl, hop, hcq, hxo, hyo⟩ := cOp_eq hcp
    obtain ⟨ad, n, q, r1⟩ := hx _ _ _ (opd_rel ht hxo)
    have r2 := opd_rel ht hyo
    rw [hy] at r2
    have r2' := r2.nils_inv
    have hut : ∃ e, E.P.underlying tt = some (.slice e) := by
      unfold cEq at hcq
      split at hcq <;> try (first | (cases hcq; done) | (split at hcq <;> cases hcq; done))
      exact ⟨_, by assumption⟩
    obtain ⟨e, hut⟩ := hut
    have hbin : ∃ bb, (binOp bop tt (a.eval x') (a.eval y')).run E.P w = .ok (.bool bb) w := by
      rw [r1, r2']
      have h1 : ∀ d, (Op.equalIn (d + 1) tt (.slice ad n q) (.slice none 0 0)).run E.P w = .ok ad.isNone w := by intro d; cases ad <;> simp [Op.equalIn, run_underlying hut]
      have h2 : (Op.equal tt (.slice ad n q) (.slice none 0 0)).run E.P w = .ok ad.isNone w := h1 9999
      rcases hop with rfl | rfl
      · exact ⟨_, by simp only [binOp, Sem.run_bind, h2, Result.andThen_ok]; rfl⟩
      · exact ⟨_, by simp only [binOp, Sem.run_bind, h2, Result.andThen_ok]; rfl⟩
    obtain ⟨bb, hbin⟩ := hbin
    have hgu := eqGuard_plain (P := E.P) (w := w) bop tt x' y' (a := a.eval x') (b := a.eval y') (by rw [r1]; intro l h; cases h) (by rw [r1]; intro h; cases h)
    have hexec : (execOp a.eval ⟨odst, .binOp bop tt x' y' yt, ty, pos, after, guard⟩).run E.P w = .ok (.value (.bool bb)) w := by
      simp [execOp, Sem.run_bind, hgu, hbin]
    have hgop := stepGR (P := E.P) (b := b) (k := items) (cs := cs) (w := w) (rest := todo) ho hw hcp
    have hfin := region_finish (b := b) (a := a) (rest := todo) (k := items) ho (.bool bb)
    have hstep : Go.step E.P (lone (b.atR a (.inRegion ops (i :: todo) :: items)) cs w) = .next (lone (b.atR (a.put odst (.bool bb)) (.inRegion ops todo :: items)) cs w) :=
      step_lone_go (by rw [hgop, ← hfin]; simp [stepG.apply, hexec])
    refine Goes.step hstep ?_
    refine hr bb c0 w0 h0 c w _ hadv hh (by rw [hdst]; exact ht.put d hdN (.bool ..)) ?_ b _ cs hb hbk (.cons (.ops hl') hk')
    cases odst <;> exact hd

theorem vs_slice {es sz} (ro m c) (h : VRel ro m (.vs es sz) c) : ∃ a n q, c = .slice a n q := by
  rcases h.vs_inv with ⟨b, o, cap, cs, f, _, _, _, _, _, _, rfl⟩ | ⟨a, h, rfl⟩
  · exact ⟨_, _, _, rfl⟩
  · exact ⟨_, _, _, rfl⟩
theorem sl_slice {id off len sz k} (ro m c) (h : VRel ro m (.sl id off len sz k) c) : ∃ a n q, c = .slice a n q := by
  rcases h.sl_inv with ⟨p, cap, o, hp, hn, hcl, ho, hto, hk, rfl⟩ | ⟨p, a, hp, hn, rfl, rfl, rfl, rfl⟩
  · exact ⟨_, _, _, rfl⟩
  · exact ⟨_, _, _, rfl⟩

end Sx

/-
  Sx, part Zh: steps told shortly.
-/
namespace Sx
open Go
set_option linter.unusedSimpArgs false
set_option linter.unusedVariables false

/-- what goes on without a look at the variables -/
def adm : List AItem → Option (List AItem)
  | .code .skip :: k => some k
  | .code (.region l) :: k => some (.ops l :: k)
  | .code (.seq a b) :: k => some (.code a :: .code b :: k)
  | .code (.block id c) :: k => some (.code c :: .endB id :: k)
  | .code (.exit id) :: k => unwind id k
  | .ops [] :: k => some k
  | .endB _ :: k => some k
  | _ => none
theorem Run.adm {E : Env} {k k' : List AItem} {t : T} {h : List O} (hs : Sx.adm k = some k') (hr : Run E ⟨k', t, h⟩) : Run E ⟨k, t, h⟩ := by
  unfold Sx.adm at hs
  split at hs
  · cases hs; exact Run.skip hr
  · cases hs; exact Run.reg hr
  · cases hs; exact Run.seq hr
  · cases hs; exact Run.block hr
  · exact Run.exit hs hr
  · cases hs; exact Run.opE rfl hr
  · cases hs; exact Run.endB hr
  · cases hs

def condR (v : V) (a b : AC) : Option AC := match v with
  | .bool true => some a
  | .bool false => some b
  | _ => none
theorem Run.condS {E : Env} {o : Opd} {a b c : AC} {k : List AItem} {t : T} {h : List O} (hs : condR (o.ev t) a b = some c) (hr : Run E ⟨.code c :: k, t, h⟩) : Run E ⟨.code (.cond o a b) :: k, t, h⟩ := by
  unfold condR at hs
  split at hs
  · rename_i hv; cases hs; exact Run.condT hv hr
  · rename_i hv; cases hs; exact Run.condF hv hr
  · cases hs

/-- an operation's value; what is skipped has none -/
def stepV (t : T) (h : List O) (g : Option (Nat × Bool)) (o : AOp) : Option (V × List O) := match guardB t g with
  | some true => opStep t h o
  | some false => some (.tup [], h)
  | none => none
theorem stepV_cases {t h g o v h'} (hs : stepV t h g o = some (v, h')) : (guardB t g = some true ∧ opStep t h o = some (v, h')) ∨ (guardB t g = some false ∧ v = .tup [] ∧ h' = h) := by
  unfold stepV at hs
  split at hs
  · exact .inl ⟨by assumption, hs⟩
  · cases hs; exact .inr ⟨by assumption, rfl, rfl⟩
  · cases hs
theorem Run.opS {E : Env} {k : List AItem} {t : T} {h : List O} {ls : List AOper} {d g o l v h'} (he : ls = ⟨d, g, o⟩ :: l) (hs : stepV t h g o = some (v, h')) (hr : Run E ⟨.ops l :: k, put t d v, h'⟩) : Run E ⟨.ops ls :: k, t, h⟩ := by
  rcases stepV_cases hs with ⟨h1, h2⟩ | ⟨h1, rfl, rfl⟩
  · exact Run.opA he h1 h2 hr
  · exact Run.opN he h1 hr
theorem opStep_call {t h o v} (h1 : opStep t h o = some v) : isCall o = false := by
  cases o <;> first | rfl | (simp [opStep] at h1)
theorem execQ_S {P : Program} {K : T → List O → Prop} {t : T} {h : List O} {ls : List AOper} {d g o l v h'} (he : ls = ⟨d, g, o⟩ :: l) (hs : stepV t h g o = some (v, h')) (hr : execQ P l (put t d v) h' K) : execQ P ls t h K := by
  rcases stepV_cases hs with ⟨h1, h2⟩ | ⟨h1, rfl, rfl⟩
  · exact execQ_A he h1 (opStep_call h2) h2 hr
  · exact execQ_N he h1 hr
theorem AStep.S {P : Program} {t : T} {h : List O} {K : T → List O → Prop} {o : AOper} {d g op v h'} (he : o = ⟨d, g, op⟩) (hs : stepV t h g op = some (v, h')) (hr : K (put t d v) h') : AStep P t h o K := by
  rcases stepV_cases hs with ⟨h1, h2⟩ | ⟨h1, rfl, rfl⟩
  · exact AStep.A he h1 h2 hr
  · exact AStep.N he h1 hr
theorem PendOk.S {P : Program} {L : DL} {t : T} {h : List O} {x : Nat} {xs : List Nat} {d g op ds v} (hL : L[x]? = some (⟨some d, g, op⟩, ds)) (hd : t d = v) (hs : stepV t h g op = some (v, h)) (r : PendOk P L t h xs) : PendOk P L t h (x :: xs) := by
  rcases stepV_cases hs with ⟨h1, h2⟩ | ⟨h1, rfl, -⟩
  · exact PendOk.op hL hd h1 h2 r
  · exact PendOk.skip hL hd h1 r

end Sx

/-
  Sx, part Zi: heaps of unknown length: what is known of the variables alone; results as they are; contracts out of the library's.
-/
namespace Sx
open Go Go.RowKit
set_option linter.unusedSimpArgs false
set_option linter.unusedVariables false

/-- what is known of the variables; the objects as they are -/
def KnownS (t : T) : List (Nat × V) → Prop
  | [] => True
  | (i, v) :: l => VLe (t i) v ∧ KnownS t l
theorem KnownS.at {t : T} : ∀ {l}, KnownS t l → ∀ i, VLe (t i) (tl l i)
  | [], _, i => by rw [tl_nil]; exact VLe.any _
  | (j, v) :: l, h, i => by
    rw [tl_cons]
    split
    · rename_i e; subst e; exact h.1
    · exact h.2.at i
theorem Run.sl {E : Env} {k t h} (slots : List (Nat × V)) (hs : KnownS t slots) (hr : Run E ⟨k, tl slots, h⟩) : Run E ⟨k, t, h⟩ := Run.le (fun i => hs.at i) (HLe.refl h) hr

theorem Run.retS {E : Env} {fn : Func} (hf : E.P.funcs[E.f.f]? = some fn) {ars} (hr : fn.results.toList.mapM (cRes E.P E.N) = some ars) {k t h} (hk : AtEnd k) {vs} (hv : evs t h ars = some vs)
    (hp : E.Post (mkRes vs) h) (hw : E.f.isFn := by exact True.intro) : Run E ⟨k, t, h⟩ := by
  intro c0 w0 h0 c w a hadv hh ht hd b items cs hb hbk hkk
  simp only at hadv hh ht hkk
  have hbk' : b.kind = .normal ∧ b.roundOf = none := by
    generalize E.f = x at hw hbk
    cases x <;> first | exact hbk | exact hw.elim
  have hR : ∀ items, FnR E.P E.f.f E.f.ds E.H0 c0 w0 E.Post (.returned undef) w { b.atR a items with mode := .returning } := by
    refine fun items => ⟨c, h, fn, ⟨_, rfl⟩, rfl, hd, hbk'.1, hb, hf, hh, hadv, fun w2 hh2 => ?_⟩
    obtain ⟨cv, g1, g2⟩ := results_run (P := E.P) hh2 ht hr hv
    exact ⟨cv, mkRes vs, h, c, g1, hp, g2, hh2, fun c1 w1 H1 hh1 hle hadv1 => hadv1⟩
  have hF : ∀ items, E.F c0 w0 (.returned undef) w { b.atR a items with mode := .returning } := by
    intro items
    have := hR items
    unfold Env.F
    generalize E.f = x at hw this
    cases x <;> first | exact this | exact hw.elim
  cases hkk with
  | nil => exact ⟨_, w, _, hF _, Steps.one (stepR_end hbk'.2)⟩
  | cons hx hk' =>
    cases hx with
    | code hc =>
      rename_i ac
      cases ac <;> simp only [AtEnd] at hk
      cases cCode_ret hc
      exact ⟨_, w, _, hF _, Steps.one (stepR_ret hbk'.2)⟩
    | ops => simp only [AtEnd] at hk
    | endB => simp only [AtEnd] at hk
    | inLoop => simp only [AtEnd] at hk
    | beginR => simp only [AtEnd] at hk

/-- one operation of which it is known what it does -/
theorem Run.opDo {E : Env} {t h k} {ls : List AOper} {d g ao l v h'} (he : ls = ⟨d, g, ao⟩ :: l) (hg : guardB t g = some true)
    (hd : ∀ c w a (o : Oper), HRel c w h → TRel E.N c t a → cOp E.P E.N o.op = some ao → Does E.P c w h (execOp a.eval o) v h') (hr : Run E ⟨.ops l :: k, put t d v, h'⟩) : Run E ⟨.ops ls :: k, t, h⟩ := by
  subst he
  intro c0 w0 h0 c w a hadv hh ht hdf b items cs hb hbk hk'
  simp only at hadv hh ht hk'
  cases hk' with | cons hx' hk' => cases hx' with | @ops _ ops todo hl =>
  rename_i items
  cases todo with
  | nil => simp at hl
  | cons i todo =>
    obtain ⟨⟨o, ho, hco⟩, hl'⟩ := ops_cons hl
    obtain ⟨hcp, hdst, hdN, hgd⟩ := cOper_spec hco
    have hw := guard_wanted ht hgd hg
    obtain ⟨r, w', c', h1, h2, h3, h4⟩ := hd c w a o hh ht hcp
    have hgs := stepGR (P := E.P) (b := b) (k := items) (cs := cs) (w := w) (rest := todo) ho hw hcp
    have hfin := fun v => region_finish (b := b) (a := a) (rest := todo) (k := items) ho v
    have ht' := ht.mono h4.m h4.ro
    rcases h2 with ⟨cv, rfl, hv⟩ | ⟨rfl, rfl⟩
    · refine Goes.step (a' := a.put o.dst cv) (k' := .inRegion ops todo :: items) (w' := w') (step_lone_go ?_) ?_
      · rw [hgs, ← hfin]; simp [stepG.apply, h1]
      · refine hr c0 w0 h0 c' w' _ (hadv.trans h0 h4) h3 (by rw [hdst]; exact ht'.put d hdN hv) ?_ b _ cs hb hbk (.cons (.ops hl') hk')
        cases o.dst <;> exact hdf
    · refine Goes.step (a' := a.put o.dst undef) (k' := .inRegion ops todo :: items) (w' := w') (step_lone_go ?_) ?_
      · rw [hgs, ← hfin]; simp [stepG.apply, h1]
      · refine hr c0 w0 h0 c' w' _ (hadv.trans h0 h4) h3 (by rw [hdst]; exact ht'.put d hdN (.any ..)) ?_ b _ cs hb hbk (.cons (.ops hl') hk')
        cases o.dst <;> exact hdf

theorem cOp_appendB {P : Program} {N : Nat} {op : Op} {x y : Opd} {n : Nat} {ty : TypeId} (hcp : cOp P N op = some (.appendB x y n ty)) :
    ∃ args ats t u z, op = .call { callee := .builtin .append, args := args, argTypes := ats } ∧ cOpds N args = some [x, y] ∧ ats[0]? = some t ∧ ats[1]? = some u ∧ cElem P t = some (1, z, n) ∧ 0 < n ∧ P.underlying u = some .string := by
  cases op
  case makeMap mt mr => cases mr <;> simp [cOp] at hcp
  case call cl =>
    obtain ⟨callee, cargs, ats⟩ := cl
    cases callee with
    | value f' =>
      simp only [cOp] at hcp
      split at hcp
      · split at hcp <;> cases hcp
      · split at hcp <;> cases hcp
    | invoke r m => simp [cOp] at hcp
    | builtin bb =>
      simp only [cOp] at hcp
      split at hcp
      case h_2 => cases hcp
      case h_1 xs hxs =>
        unfold cBuiltin at hcp
        split at hcp
        case h_2 x' y' tt hts =>
          split at hcp
          case h_2 => cases hcp
          case h_1 n' z bytes u hel hu =>
            split at hcp
            case isTrue => cases hcp
            case isFalse hb =>
              split at hcp
              · rename_i hstr
                split at hcp
                case h_2 => cases hcp
                case h_1 e hue =>
                  split at hcp <;> cases hcp
                  rename_i hn
                  subst hn
                  exact ⟨_, _, _, _, _, rfl, hxs, hts, hu, hel, Nat.pos_of_ne_zero hb, isStr_spec hstr⟩
              · split at hcp <;> cases hcp
        all_goals (repeat' (first | (cases hcp; done) | split at hcp))
  case makeFunc fn first captured =>
    cases fn <;> simp only [cOp] at hcp
    all_goals (repeat' (first | (cases hcp; done) | split at hcp))
  all_goals (first | (simp only [cOp] at hcp; done) | (simp only [cOp] at hcp; repeat' (first | (cases hcp; done) | split at hcp)))

/-- a text's bytes behind a list's, whatever is known of the list's type -/
theorem Run.opAB {E : Env} {t h k} {ls : List AOper} {d g x y n ty l v h'} (he : ls = ⟨d, g, .appendB x y n ty⟩ :: l) (hg : guardB t g = some true) (hs : appendV h (x.ev t) (y.ev t) 1 n true = some (v, h'))
    (hr : Run E ⟨.ops l :: k, put t d v, h'⟩) : Run E ⟨.ops ls :: k, t, h⟩ := by
  refine Run.opDo he hg (fun c w a o hh ht hcp => ?_) hr
  obtain ⟨odst, op, oty, pos, after, guard⟩ := o
  simp only at hcp
  obtain ⟨args, ats, tt, u, z, rfl, hxs, hts, hu, hel, hb, hstr⟩ := cOp_appendB hcp
  have hr2 := opds_rel ht hxs
  have hsz : (args.map a.eval).size = 2 := by rw [← hr2.1]; rfl
  have hx := hr2.2 0 (by simp) (by omega)
  have hy := hr2.2 1 (by simp) (by omega)
  simp only [List.map_cons, List.getElem_cons_zero, List.getElem_cons_succ] at hx hy
  obtain ⟨cv, w', c', h1, h2, h3, h4, -⟩ := sound_appendX (P := E.P) (ty := oty) (u := u) hh hel hb (.inl ⟨rfl, hstr, rfl⟩) hx hy hs
  have happ : ∀ xc yc, Builtin.append_ ats oty #[xc, yc] = Builtin.append_ #[tt, u] oty #[xc, yc] := by
    intro xc yc
    simp [Builtin.append_, hts, hu]
  refine ⟨.value cv, w', c', ?_, .inl ⟨cv, rfl, h2⟩, h3, h4⟩
  have h1' := h1
  rw [← happ, ← args2 hsz] at h1'
  simp only [execOp, resolve, Sem.run_bind, Sem.run_pure, Result.andThen_ok, invoke, builtin]
  simp [h1', Sem.run_bind, Result.andThen]

/-- as freeze, where the other objects do not speak of the list -/
theorem Run.frzS {E : Env} {k t h} (id : Nat) {es : List (List V)} {sz : Nat} (ho : h[id]? = some (.arr es sz)) (hr : Run E ⟨k, fun i => (t i).frz id es sz, h.set id .gone⟩) : Run E ⟨k, t, h⟩ := by
  intro c0 w0 h0 c w a hadv hh htr hd b items cs hb hbk hk
  simp only at hadv hh htr hk
  obtain ⟨p, hm, horel, hnone⟩ := hh.obj id _ ho trivial
  obtain ⟨hnull, h1, hsz, hcell⟩ := horel
  have hlt : id < h.length := (List.getElem?_eq_some_iff.1 ho).1
  -- the new context
  have hctx : ∃ ro' : Ro, (∀ b cs, c.ro b = some cs → ro' b = some cs) ∧ (∀ b cs, ro' b = some cs → c.ro b = some cs ∨ (p.null = false ∧ b = p.block ∧ ∃ elem fr, w.heap[b]? = some (.cells cs elem fr))) ∧
      (p.null = false → ∃ cc, ro' p.block = some cc ∧ ∀ i (h : i < es.length) j (h' : j < es[i].length), ∃ x, cc[p.base + i * sz + j]? = some x ∧ VRel c.ro Pl.none es[i][j] x) := by
    cases hn : p.null with
    | true => exact ⟨c.ro, fun _ _ h => h, fun _ _ h => .inl h, fun h => by cases h⟩
    | false =>
      obtain ⟨cc, ⟨_, _, _, elem, fr, hw, _⟩, _, hx⟩ := hcell hn
      refine ⟨fun b => if b = p.block then some cc else c.ro b, fun b cs hb => ?_, fun b cs hb => ?_, fun _ => ⟨cc, by simp, hx⟩⟩
      · by_cases e : b = p.block
        · subst e; rw [hnone hn] at hb; cases hb
        · simp [e, hb]
      · by_cases e : b = p.block
        · subst e; simp only [if_true, Option.some.injEq] at hb; subst hb; exact .inr ⟨rfl, rfl, elem, fr, hw⟩
        · simp only [if_neg e] at hb; exact .inl hb
  obtain ⟨ro', hro, hro2, hc⟩ := hctx
  have hfrz := fun {v : V} {m : Pl} {cv} => frz_rel (c := c) (w := w) (id := id) (es := es) (sz := sz) (p := p) (ro' := ro') hm hro hsz h1 hnull hc (v := v) (m := m) (cv := cv)
  have hget : ∀ (i : Nat) (o : O), (h.set id .gone)[i]? = some o → o.live → i ≠ id ∧ h[i]? = some o := by
    intro i o hi hl
    rw [List.getElem?_set] at hi
    by_cases e : id = i
    · subst e
      simp only [if_true, hlt] at hi
      cases hi
      exact hl.elim
    · rw [if_neg e] at hi
      exact ⟨fun h => e h.symm, hi⟩
  have hlive : ∀ i, Live (h.set id .gone) i → i ≠ id ∧ Live h i := by
    rintro i ⟨o, hi, hl⟩
    obtain ⟨g1, g2⟩ := hget i o hi hl
    exact ⟨g1, o, g2, hl⟩
  have hnew : HRel ⟨c.m, ro'⟩ w (h.set id .gone) := by
    refine ⟨fun b cs hb => ?_, fun i q hq => by simpa using hh.dom i q hq, fun i o hi hl => ?_, fun i j q r hi hj => hh.inj i j q r (hlive i hi).2 (hlive j hj).2, fun b cs hb => hro b cs (hh.glob b cs hb)⟩
    · rcases hro2 b cs hb with g | ⟨_, rfl, g⟩
      · exact hh.ro b cs g
      · exact g
    · obtain ⟨g1, g2⟩ := hget i o hi hl
      obtain ⟨q, g3, g4, g5⟩ := hh.obj i o g2 hl
      refine ⟨q, g3, ORel.mono hro (fun _ _ h => h) (fun _ => rfl) g4, fun hn => ?_⟩
      · cases hq : ro' q.block with
        | none => exact hq
        | some cs' =>
          rcases hro2 _ _ hq with k1 | ⟨k1, k2, _⟩
          · rw [g5 hn] at k1; cases k1
          · exact absurd (hh.inj i id q p ⟨o, g2, hl⟩ ⟨_, ho, trivial⟩ g3 hm hn k1 k2) g1
  have hadv' : Adv c w h ⟨c.m, ro'⟩ w (h.set id .gone) := by
    refine ⟨fun _ _ h => h, hro, by simp, fun i _ hl => (hlive i hl).2, Nat.le_refl _, fun _ _ _ => rfl, fun _ _ h _ => .inl h, fun b cs hb => ?_, rfl, rfl, rfl⟩
    rcases hro2 b cs hb with g | ⟨g1, rfl, _⟩
    · exact .inl g
    · exact .inr (.inl ⟨id, p, ⟨_, ho, trivial⟩, hm, g1, rfl⟩)
  exact hr c0 w0 h0 ⟨c.m, ro'⟩ w a (hadv.trans h0 hadv') hnew ⟨htr.size, fun i => hfrz (htr.rel i) (fun _ _ h => h)⟩ hd b items cs hb hbk hk

/-- nothing that lay has turned -/
theorem HRel.below {c : Ctx} {w w' : World} {H : List O} (hh : HRel c w H) (hb : Below w.heap.size w w') : HRel c w' H ∧ Adv c w H c w' H := by
  have hs : ∀ b, (Owns c H b ∨ ∃ cs, c.ro b = some cs) → w'.heap[b]? = w.heap[b]? := by
    rintro b (ho | ⟨cs, ho⟩)
    · exact hb.block b (hh.owns_lt ho)
    · obtain ⟨e, fr, h1⟩ := hh.ro b cs ho
      exact hb.block b (Array.getElem?_eq_some_iff.1 h1).1
  exact ⟨hh.other hs, fun _ _ h => h, fun _ _ h => h, Nat.le_refl _, fun _ _ h => h, hb.size, fun b hlt _ => hb.block b hlt, fun _ _ h _ => .inl h, fun _ _ h => .inl h, hb.os, hb.output, hb.tape⟩

end Sx
