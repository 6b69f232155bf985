/-
  Layer 12, part W: what sorting and what putting in its place come to is the same: plain.
-/
import Derived.Test.YtpipgcmiaccdkaaManV
namespace Go.Proofs.Ytpipgcmiaccdkaa
open Sx Go
set_option maxRecDepth 100000
set_option linter.unusedSimpArgs false
set_option linter.unusedVariables false
set_option linter.unnecessarySimpa false

/-- what a state keeps -/
def GoodT (l : List Tb) : Prop := Srt l ∧ (l.map (·.id)).Nodup ∧ ∀ t ∈ l, tabB t = true

theorem mem_tw {α : Type} {p : α → Bool} : ∀ {l : List α} {a : α}, a ∈ l.takeWhile p → p a = true
  | [], a, h => by simp at h
  | x :: l, a, h => by
    rw [List.takeWhile_cons] at h
    split at h
    · rcases List.mem_cons.1 h with rfl | h
      · assumption
      · exact mem_tw h
    · simp at h
theorem inj_map {α β : Type} {f : α → β} : ∀ {l : List α}, (l.map f).Nodup → ∀ {a b}, a ∈ l → b ∈ l → f a = f b → a = b
  | [], _, a, b, h, _, _ => by simp at h
  | x :: l, hn, a, b, ha, hb, he => by
    rw [List.map_cons, List.nodup_cons] at hn
    rcases List.mem_cons.1 ha with h1 | h1
    · rcases List.mem_cons.1 hb with h2 | h2
      · rw [h1, h2]
      · exact absurd (List.mem_map.2 ⟨b, h2, by rw [← he, h1]⟩) hn.1
    · rcases List.mem_cons.1 hb with h2 | h2
      · exact absurd (List.mem_map.2 ⟨a, h1, by rw [he, h2]⟩) hn.1
      · exact inj_map hn.2 h1 h2 he
theorem pw_sym {α : Type} {R : α → α → Prop} (hs : ∀ a b, R a b → R b a) : ∀ {l : List α}, l.Pairwise R → ∀ {a b}, a ∈ l → b ∈ l → a ≠ b → R a b
  | [], _, a, b, h, _, _ => by simp at h
  | x :: l, hp, a, b, ha, hb, hne => by
    obtain ⟨h1, h2⟩ := List.pairwise_cons.1 hp
    rcases List.mem_cons.1 ha with g1 | g1
    · rcases List.mem_cons.1 hb with g2 | g2
      · exact absurd (g1.trans g2.symm) hne
      · rw [g1]; exact h1 b g2
    · rcases List.mem_cons.1 hb with g2 | g2
      · rw [g2]; exact hs _ _ (h1 a g1)
      · exact pw_sym hs h2 g1 g2 hne
theorem putT_perm (l : List Tb) (t : Tb) : (putT l t).Perm (t :: l) := by
  unfold putT
  refine List.perm_middle.trans ?_
  rw [List.takeWhile_append_dropWhile]
theorem foldl_perm : ∀ (f l : List Tb), (f.foldl putT l).Perm (l ++ f)
  | [], l => by simp
  | t :: f, l => by
    refine (foldl_perm f (putT l t)).trans ?_
    refine (List.Perm.append_right f (putT_perm l t)).trans ?_
    simp only [List.cons_append]
    exact List.perm_middle.symm
theorem putT_srt {l : List Tb} (h : Srt l) (t : Tb) : Srt (putT l t) := by
  unfold putT
  have e := List.takeWhile_append_dropWhile (p := fun x => aheadB x t) (l := l)
  refine srt_mid (by rw [e]; exact h) (fun a ha => ahead_le (mem_tw (p := fun x => aheadB x t) ha)) ?_
  have hd : Srt (l.dropWhile (fun x => aheadB x t)) := h.sublist (List.dropWhile_sublist _)
  cases hx : l.dropWhile (fun x => aheadB x t) with
  | nil => simp
  | cons y r =>
    rw [hx] at hd
    have hy : aheadB y t = false := by
      have := List.head?_dropWhile_not (fun x => aheadB x t) l
      rw [hx] at this
      simpa using this
    intro b hb
    rcases List.mem_cons.1 hb with rfl | hb
    · exact hy
    · exact leT_trans hy ((List.pairwise_cons.1 hd).1 b hb)
theorem foldl_srt : ∀ (f l : List Tb), Srt l → Srt (f.foldl putT l)
  | [], l, h => h
  | t :: f, l, h => foldl_srt f _ (putT_srt h t)

theorem hasId_mem {l : List Tb} {n : Int} : hasId l n = true ↔ n ∈ l.map (·.id) := by
  simp [hasId]
theorem kept_good {s : St} {e : Ed} (h : GoodT s.tabs) : GoodT (kept s e) :=
  ⟨h.1.sublist List.filter_sublist, h.2.1.sublist (List.filter_sublist.map _), fun t ht => h.2.2 t (List.mem_filter.1 ht).1⟩
/-- what comes in, one behind the other -/
theorem all_good {s : St} {e : Ed} (hm : mayE e = true) (h : GoodT s.tabs) (ha : addsOk s e) : ((kept s e ++ e.add).map (·.id)).Nodup ∧ ∀ t ∈ kept s e ++ e.add, tabB t = true := by
  obtain ⟨k1, k2, k3⟩ := kept_good (e := e) h
  refine ⟨?_, fun t ht => ?_⟩
  · rw [List.map_append, List.nodup_append]
    refine ⟨k2, ha.2, fun x hx y hy hxy => ?_⟩
    subst hxy
    obtain ⟨t, ht, rfl⟩ := List.mem_map.1 hy
    have := (ha.1 t ht).1
    have h2 : hasId s.tabs t.id = true := by
      rw [hasId_mem]
      obtain ⟨u, hu, hut⟩ := List.mem_map.1 hx
      exact List.mem_map.2 ⟨u, (List.mem_filter.1 hu).1, hut⟩
    rw [h2] at this; cases this
  · rcases List.mem_append.1 ht with ht | ht
    · exact k3 t ht
    · exact (mayE_spec hm).2.2.1 t ht
theorem built_perm (s : St) (e : Ed) : (built s e).Perm (kept s e ++ e.add) := foldl_perm _ _
theorem built_good {s : St} {e : Ed} (hm : mayE e = true) (h : GoodT s.tabs) (ha : addsOk s e) : GoodT (built s e) := by
  obtain ⟨h1, h2⟩ := all_good hm h ha
  exact ⟨foldl_srt _ _ (kept_good h).1, ((built_perm s e).map _).nodup_iff.2 h1, fun t ht => h2 t ((built_perm s e).mem_iff.1 ht)⟩

theorem clash_symm (a b : Tb) : clash a b = clash b a := by
  unfold clash
  by_cases h : a.level = b.level
  · rw [h]
    cases Op.bytesLess a.hi b.lo <;> cases Op.bytesLess b.hi a.lo <;> simp
  · have h' : ¬ b.level = a.level := fun e => h e.symm
    simp [h, h']
theorem apart_perm {l l' : List Tb} (h : l.Perm l') : ApartP l ↔ ApartP l' :=
  h.pairwise_iff (fun {a b} hab => by rw [clash_symm]; exact hab)

theorem lo_le_hi {t : Tb} (h : tabB t = true) : Op.bytesLess t.hi t.lo = false := (tabB_spec h).2.2.2.2
theorem level_nn {t : Tb} (h : tabB t = true) : 0 ≤ t.level := (tabB_spec h).2.1.1
/-- no two stand alike -/
theorem no_ties {l : List Tb} (hn : (l.map (·.id)).Nodup) (ht : ∀ t ∈ l, tabB t = true) (ha : ApartP l) {a b : Tb} (ha' : a ∈ l) (hb' : b ∈ l) (h1 : leT a b) (h2 : leT b a) : a = b := by
  have hid : a.id = b.id → a = b := fun he => inj_map hn ha' hb' he
  unfold leT aheadB at h1 h2
  by_cases hl : a.level = b.level
  · rw [if_pos hl.symm] at h1
    rw [if_pos hl] at h2
    by_cases h0 : a.level = 0
    · rw [if_pos (by omega)] at h1
      rw [if_pos h0] at h2
      simp only [decide_eq_false_iff_not] at h1 h2
      exact hid (by omega)
    · rw [if_neg (by omega)] at h1
      rw [if_neg h0] at h2
      have hlo : a.lo = b.lo := by
        rcases bless_total a.lo b.lo with h | h | h
        · exact h
        · rw [h2] at h; cases h
        · rw [h1] at h; cases h
      apply Decidable.byContradiction
      intro hne
      have hc : clash a b = false := pw_sym (R := fun b a => clash a b = false) (fun a b h => by rw [clash_symm]; exact h) ha hb' ha' (fun e => hne e.symm)
      have l1 := lo_le_hi (ht a ha')
      have l2 := lo_le_hi (ht b hb')
      have hp : 0 < a.level := by have := level_nn (ht a ha'); omega
      unfold clash at hc
      rw [← hlo, l1, hlo, l2] at hc
      simp [hl] at hc
      omega
  · rw [if_neg (fun e => hl e.symm)] at h1
    rw [if_neg hl] at h2
    simp only [decide_eq_false_iff_not] at h1 h2
    omega

/-- sorted in the same way: the same -/
theorem srt_unique : ∀ {l l' : List Tb}, l.Perm l' → Srt l → Srt l' → (∀ a ∈ l, ∀ b ∈ l, leT a b → leT b a → a = b) → l = l'
  | [], l', hp, _, _, _ => (List.nil_perm.1 hp).symm
  | x :: l, [], hp, _, _, _ => absurd hp.length_eq (by simp)
  | x :: l, y :: l', hp, h1, h2, ht => by
    have hxy : x = y := by
      have hx : x ∈ y :: l' := hp.mem_iff.1 List.mem_cons_self
      have hy : y ∈ x :: l := hp.mem_iff.2 List.mem_cons_self
      rcases List.mem_cons.1 hx with h | h
      · exact h
      rcases List.mem_cons.1 hy with h' | h'
      · exact h'.symm
      exact ht x List.mem_cons_self y hy ((List.pairwise_cons.1 h1).1 y h') ((List.pairwise_cons.1 h2).1 x h)
    subst hxy
    rw [srt_unique (hp.cons_inv) (List.pairwise_cons.1 h1).2 (List.pairwise_cons.1 h2).2 (fun a ha b hb => ht a (List.mem_cons_of_mem _ ha) b (List.mem_cons_of_mem _ hb))]

/-- sorted by the machine, or by putting in place -/
theorem sorted_is {s : St} {e : Ed} (hm : mayE e = true) (h : GoodT s.tabs) (ha : addsOk s e) {Z : List Tb} (hp : Z.Perm (kept s e ++ e.add)) (hs : Srt Z) (hz : ApartP Z) : Z = built s e := by
  obtain ⟨h1, h2⟩ := all_good hm h ha
  refine srt_unique (hp.trans (built_perm s e).symm) hs (foldl_srt _ _ (kept_good h).1) fun a ha' b hb' => no_ties ((hp.map _).nodup_iff.2 h1) (fun t ht => h2 t (hp.mem_iff.1 ht)) hz ha' hb'
theorem apart_is {s : St} {e : Ed} {Z : List Tb} (hp : Z.Perm (kept s e ++ e.add)) : ApartP Z ↔ ApartP (built s e) := apart_perm (hp.trans (built_perm s e).symm)

/-! neighbours are enough -/
def Nb (a b : Tb) : Prop := leT a b ∧ Op.bytesLess a.hi a.lo = false ∧ Op.bytesLess b.hi b.lo = false ∧ (0 < a.level → a.level = b.level → Op.bytesLess a.hi b.lo = true)
theorem leT_level {a b : Tb} (h : leT a b) : a.level ≤ b.level := by
  unfold leT aheadB at h
  split at h
  · omega
  · simp only [decide_eq_false_iff_not] at h; omega
theorem Nb.trans {a b c : Tb} (h : Nb a b) (k : Nb b c) : Nb a c := by
  obtain ⟨h1, h2, h3, h4⟩ := h
  obtain ⟨k1, k2, k3, k4⟩ := k
  refine ⟨leT_trans h1 k1, h2, k3, fun hp he => ?_⟩
  have l1 := leT_level h1
  have l2 := leT_level k1
  have h5 := h4 hp (by omega)
  have h6 := k4 (by omega) (by omega)
  rcases bless_total b.lo b.hi with e | e | e
  · rw [e] at h5; exact bless_trans h5 h6
  · exact bless_trans h5 (bless_trans e h6)
  · rw [e] at h3; cases h3
theorem nb_all : ∀ {l : List Tb}, (∀ i a b, l[i]? = some a → l[i + 1]? = some b → Nb a b) → l.Pairwise Nb
  | [], _ => List.Pairwise.nil
  | [x], _ => List.pairwise_singleton _ _
  | x :: y :: r, h => by
    have hxy := h 0 x y rfl rfl
    have ih := nb_all (l := y :: r) (fun i a b ha hb => h (i + 1) a b (by simpa using ha) (by simpa using hb))
    refine List.pairwise_cons.2 ⟨fun z hz => ?_, ih⟩
    rcases List.mem_cons.1 hz with rfl | hz
    · exact hxy
    · exact hxy.trans ((List.pairwise_cons.1 ih).1 z hz)
/-- do neighbours have no key in common -/
def nbOk (a b : Tb) : Bool := !(decide (0 < a.level) && decide (a.level = b.level) && !Op.bytesLess a.hi b.lo)
theorem nb_clash {a b : Tb} (h : leT a b) (ht : Op.bytesLess b.hi b.lo = false) : nbOk a b = !clash b a := by
  unfold nbOk clash
  by_cases hl : a.level = b.level
  · by_cases h0 : 0 < a.level
    · have h0' : 0 < b.level := by omega
      unfold leT aheadB at h
      rw [if_pos hl.symm, if_neg (by omega)] at h
      have : Op.bytesLess b.hi a.lo = false := by
        cases hx : Op.bytesLess b.hi a.lo with
        | false => rfl
        | true =>
          rcases bless_total b.lo b.hi with e | e | e
          · rw [e, hx] at h; cases h
          · rw [bless_trans e hx] at h; cases h
          · rw [e] at ht; cases ht
      simp [hl, h0', this]
    · have h0' : ¬ 0 < b.level := by omega
      simp [h0, h0']
  · have hl' : ¬ b.level = a.level := fun e => hl e.symm
    simp [hl, hl']
theorem apart_nb {Z : List Tb} (hs : Srt Z) (ht : ∀ t ∈ Z, tabB t = true) (h : ∀ i a b, Z[i]? = some a → Z[i + 1]? = some b → nbOk a b = true) : ApartP Z := by
  have hq : Z.Pairwise Nb := nb_all fun i a b ha hb => by
    have hi := (List.getElem?_eq_some_iff.1 ha)
    have hj := (List.getElem?_eq_some_iff.1 hb)
    have hle : leT a b := by
      have := List.pairwise_iff_getElem.1 hs i (i + 1) hi.1 hj.1 (by omega)
      rw [hi.2, hj.2] at this; exact this
    refine ⟨hle, lo_le_hi (ht a (List.mem_of_getElem? ha)), lo_le_hi (ht b (List.mem_of_getElem? hb)), fun h0 he => ?_⟩
    have := h i a b ha hb
    unfold nbOk at this
    have h0' : 0 < b.level := by omega
    simpa [h0', he] using this
  refine List.Pairwise.imp (fun {a b} hab => ?_) hq
  unfold clash
  by_cases h1 : b.level = a.level
  · by_cases h2 : 0 < b.level
    · rw [hab.2.2.2 (by omega) h1.symm]; simp
    · simp [h2]
  · simp [h1]
theorem nb_apart {Z : List Tb} (hs : Srt Z) (ht : ∀ t ∈ Z, tabB t = true) (h : ApartP Z) {i : Nat} {a b : Tb} (ha : Z[i]? = some a) (hb : Z[i + 1]? = some b) : nbOk a b = true := by
  have hi := (List.getElem?_eq_some_iff.1 ha)
  have hj := (List.getElem?_eq_some_iff.1 hb)
  have hle : leT a b := by
    have := List.pairwise_iff_getElem.1 hs i (i + 1) hi.1 hj.1 (by omega)
    rw [hi.2, hj.2] at this; exact this
  have hc : clash b a = false := by
    have := List.pairwise_iff_getElem.1 h i (i + 1) hi.1 hj.1 (by omega)
    rw [hi.2, hj.2] at this; exact this
  rw [nb_clash hle (lo_le_hi (ht b (List.mem_of_getElem? hb))), hc]; rfl

end Go.Proofs.Ytpipgcmiaccdkaa
