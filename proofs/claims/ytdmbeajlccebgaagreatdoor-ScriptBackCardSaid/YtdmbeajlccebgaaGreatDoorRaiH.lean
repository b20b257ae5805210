/- A part of the proof of ScriptLines: general lemmas, with no condition of their own. -/
import Derived.Test.YtdmbeajlccebgaaGreatDoorRaiG
/- Templates: a state is brought into a template's form. -/
set_option linter.unusedVariables false
set_option linter.unusedSimpArgs false
namespace Go.Rai
open Go.RowKit
variable {P : Program}

theorem OSh_under {s : OSh} {d : s.D} {n : Nat} (h : s.underB n = true) : (s.ob d).under n := by
  cases s with
  | box s => exact underB_under h
  | arr e a => exact underB_under (s := a) h

theorem lookP_mem {l : List (Nat × Option Nat)} {q : Nat} {o : Option Nat} (h : lookP l q = some o) : (q, o) ∈ l := by
  induction l with
  | nil => simp [lookP] at h
  | cons p r ih =>
    simp only [lookP] at h
    cases hb : Nat.beq p.1 q with
    | true =>
      rw [hb, cond_true] at h
      cases h
      obtain rfl := Nat.eq_of_beq_eq_true hb
      simp
    | false =>
      rw [hb, cond_false] at h
      exact List.mem_cons_of_mem _ (ih h)
theorem lookP_append {l m : List (Nat × Option Nat)} {q : Nat} {o : Option Nat} (h : lookP l q = some o) : lookP (l ++ m) q = some o := by
  induction l with
  | nil => simp [lookP] at h
  | cons p r ih =>
    simp only [List.cons_append, lookP] at h ⊢
    cases hb : Nat.beq p.1 q with
    | true => simp only [hb, cond_true] at h ⊢; exact h
    | false => simp only [hb, cond_false] at h ⊢; exact ih h
theorem plc_append {seeds : List Nat} {l m : List (Nat × Option Nat)} {q : Nat} {o : Option Nat} (h : plc seeds l q = some o) : plc seeds (l ++ m) q = some o := by
  unfold plc at h ⊢
  cases hm : memN q seeds with
  | true => simp only [hm, cond_true] at h ⊢; exact h
  | false => simp only [hm, cond_false] at h ⊢; exact lookP_append h

theorem oEq_eq : ∀ {a b : Option Nat}, oEq a b = true → a = b
  | none, none, _ => rfl
  | some a, some b, h => by rw [Nat.eq_of_beq_eq_true h]
  | none, some _, h => by cases h
  | some _, none, h => by cases h
theorem ooEq_eq : ∀ {a b : Option (Option Nat)}, ooEq a b = true → a = b
  | none, none, _ => rfl
  | some a, some b, h => by rw [oEq_eq h]
  | none, some _, h => by cases h
  | some _, none, h => by cases h
theorem pairsOk_mem {dom seeds : List Nat} {all : List (Nat × Option Nat)} : ∀ {ps : List (Nat × Option Nat)}, pairsOk dom seeds all ps = true → ∀ p ∈ ps, (p.1 ∈ dom → plc seeds all p.1 = some p.2) ∧ (p.1 ∉ dom → p.2 = some p.1)
  | [], _, p, hp => by simp at hp
  | q :: r, h, p, hp => by
    simp only [pairsOk, Bool.and_eq_true] at h
    rcases List.mem_cons.1 hp with rfl | hp
    · refine ⟨fun hd => ?_, fun hd => ?_⟩
      · have := h.1
        rw [memN_iff.2 hd, cond_true] at this
        exact ooEq_eq this
      · have := h.1
        rw [memN_false hd, cond_false] at this
        exact oEq_eq this
    · exact pairsOk_mem h.2 p hp
theorem actual_mem {seeds : List Nat} {ps : List (Nat × Option Nat)} {q x : Nat} : ∀ {l : List Nat}, q ∈ l → plc seeds ps q = some (some x) → x ∈ actual seeds ps l
  | [], h, _ => by simp at h
  | a :: l, h, e => by
    simp only [actual]
    rcases List.mem_cons.1 h with rfl | h
    · rw [e]; simp
    · split
      · exact List.mem_cons_of_mem _ (actual_mem h e)
      · exact actual_mem h e
theorem actual_inj {seeds : List Nat} {ps : List (Nat × Option Nat)} {q q' x : Nat} : ∀ {l : List Nat}, nodupN (actual seeds ps l) = true → q ∈ l → q' ∈ l → plc seeds ps q = some (some x) → plc seeds ps q' = some (some x) → q = q'
  | [], _, h, _, _, _ => by simp at h
  | a :: l, hn, h, h', e, e' => by
    by_cases ha : plc seeds ps a = some (some x)
    · simp only [actual, ha, nodupN, Bool.and_eq_true, Bool.not_eq_true'] at hn
      have hnot : x ∉ actual seeds ps l := fun hm => by rw [memN_iff.2 hm] at hn; cases hn.1
      have only : ∀ z, z ∈ a :: l → plc seeds ps z = some (some x) → z = a := by
        intro z hz ez
        rcases List.mem_cons.1 hz with rfl | hz
        · rfl
        · exact absurd (actual_mem hz ez) hnot
      rw [only q h e, only q' h' e']
    · have hq : q ∈ l := by
        rcases List.mem_cons.1 h with rfl | h
        · exact absurd e ha
        · exact h
      have hq' : q' ∈ l := by
        rcases List.mem_cons.1 h' with rfl | h'
        · exact absurd e' ha
        · exact h'
      have hn' : nodupN (actual seeds ps l) = true := by
        simp only [actual] at hn
        split at hn
        · simp only [nodupN, Bool.and_eq_true] at hn; exact hn.2
        · exact hn
      exact actual_inj hn' hq hq' e e'

theorem exObjs_spec {st : St} {seeds : List Nat} : ∀ {l : List (Nat × OSh)} {ps ps' : List (Nat × Option Nat)} {y : ObD l}, exObjs st seeds l ps = some (y, ps') → (∀ p ∈ ps, p ∈ ps') ∧ (∃ m, ps' = ps ++ m) ∧
    ∀ (f : Nat → Option Ob) q x, mkObjs f l y q = some x → (q ∉ keysO l ∧ f q = some x) ∨ ∃ (osh : OSh) (d : osh.D) (o : Option Nat) (more : List (Nat × Option Nat)), (q, osh) ∈ l ∧ x = osh.ob d ∧ plc seeds ps' q = some o ∧ exOb st (some o) osh = some (d, more) ∧ ∀ p ∈ more, p ∈ ps'
  | [], ps, ps', y, h => by
    simp only [exObjs, Option.some.injEq, Prod.mk.injEq] at h
    obtain ⟨_, rfl⟩ := h
    exact ⟨fun _ h => h, ⟨[], by simp⟩, fun f q x hx => .inl ⟨by simp [keysO], hx⟩⟩
  | p :: r, ps, ps', y, h => by
    simp only [exObjs] at h
    split at h
    case h_2 => cases h
    rename_i d more he
    split at h
    case h_2 => cases h
    rename_i y' ps'' hr
    simp only [Option.some.injEq, Prod.mk.injEq] at h
    obtain ⟨rfl, rfl⟩ := h
    obtain ⟨h1, ⟨m, h2⟩, h3⟩ := exObjs_spec hr
    refine ⟨fun q hq => h1 q (by simp [hq]), ⟨more ++ m, by rw [h2, List.append_assoc]⟩, fun f q x hx => ?_⟩
    by_cases e : q = p.1
    · subst e
      simp only [mkObjs, upd_same, Option.some.injEq] at hx
      obtain ⟨o, ho⟩ : ∃ o, plc seeds ps p.1 = some o := by
        cases hp : plc seeds ps p.1 with
        | some o => exact ⟨o, rfl⟩
        | none => rw [hp] at he; obtain ⟨pk, ps0⟩ := p; cases ps0 <;> simp [exOb] at he
      rw [ho] at he
      refine .inr ⟨p.2, d, o, more, by simp, hx.symm, ?_, he, fun z hz => h1 z (by simp [hz])⟩
      rw [h2]
      exact plc_append (plc_append ho)
    · simp only [mkObjs] at hx
      rw [upd_ne _ _ e] at hx
      rcases h3 f q x hx with ⟨h4, h5⟩ | ⟨osh, d', o, more', h4, h5⟩
      · refine .inl ⟨fun hm => ?_, h5⟩
        simp only [keysO] at hm
        rcases List.mem_cons.1 hm with hm | hm
        · exact e hm
        · exact h4 hm
      · exact .inr ⟨osh, d', o, more', by simp [h4], h5⟩

theorem exSlots_spec {st : St} : ∀ {l : List (Nat × Sh)} {x : SlD l}, exSlots st l = some x → ∀ (f : Nat → SV) t, (t ∉ keysS l ∧ mkSlots f l x t = f t) ∨ ∃ (s : Sh) (d : s.D), (t, s) ∈ l ∧ mkSlots f l x t = ⟨s, d⟩ ∧ co s (st.slots t) = some d ∧ ∀ p ∈ s.mat (st.slots t).s, p ∈ matSlots st l
  | [], x, h, f, t => .inl ⟨by simp [keysS], rfl⟩
  | p :: r, x, h, f, t => by
    simp only [exSlots] at h
    split at h
    case h_2 => cases h
    rename_i d y h1 h2
    simp only [Option.some.injEq] at h
    subst h
    by_cases e : t = p.1
    · subst e
      refine .inr ⟨p.2, d, by simp, by simp only [mkSlots, upd_same], h1, fun q hq => ?_⟩
      simp only [matSlots, List.mem_append]
      exact .inl hq
    · simp only [mkSlots]
      rw [upd_ne _ _ e]
      rcases exSlots_spec h2 f t with ⟨h3, h4⟩ | ⟨s, d', h3, h4, h5, h6⟩
      · refine .inl ⟨fun hm => ?_, h4⟩
        simp only [keysS] at hm
        rcases List.mem_cons.1 hm with hm | hm
        · exact e hm
        · exact h3 hm
      · exact .inr ⟨s, d', by simp [h3], h4, h5, fun q hq => by simp only [matSlots, List.mem_append]; exact .inr (h6 q hq)⟩

theorem mem_keysO {l : List (Nat × OSh)} {q : Nat} {s : OSh} (h : (q, s) ∈ l) : q ∈ keysO l := by
  induction l with
  | nil => simp at h
  | cons p r ih =>
    simp only [keysO]
    rcases List.mem_cons.1 h with rfl | h
    · simp
    · exact List.mem_cons_of_mem _ (ih h)

/-- A STATE IN A TEMPLATE's FORM. st: the state of before; st': the state that is told. -/
theorem inst {T : Tm} {st st' : St} {η η' : Nat → Value} {X : Fr} {w0 : World} {n : Nat} {a : Act} {w : World} {d : T.D} (hI : Inv X w0 n st' η' a w) (hex : T.ex st' = some d) (hwf : T.wf st.next = true) (hund : Und st.slots st.objs st.next) (hlocked : ∀ l, st.lockO l = true → l < st.next)
    (hpl : ∀ l, l < st.next → η' l = η l) (hsl : ∀ i, i ∉ keysS T.slots → i ∉ T.dead → st'.slots i = st.slots i) (hob : ∀ l, l < st.next → l ∉ T.seeds → l ∉ T.mv → st'.objs l = st.objs l ∧ st'.lockO l = true) :
    ∃ η'', (∀ l, l < st.next → η'' l = η l) ∧ Inv X w0 n (T.mk' st d) η'' a w := by
  unfold Tm.ex at hex
  split at hex
  case h_2 => cases hex
  rename_i x y ps hx hy
  cases hchk : (pairsOk (keysO T.objs) T.seeds ps ps && nodupN (actual T.seeds ps (keysO T.objs)) && allB (fun l => !(st'.lockO l)) (actual T.seeds ps (keysO T.objs))) with
  | false => rw [hchk, cond_false] at hex; cases hex
  | true =>
  rw [hchk, cond_true] at hex
  simp only [Option.some.injEq] at hex
  subst hex
  simp only [Bool.and_eq_true] at hchk
  obtain ⟨⟨hpairs, hnod⟩, hfree⟩ := hchk
  have hpm := pairsOk_mem hpairs
  obtain ⟨hps, _, hobj⟩ := exObjs_spec hy
  simp only [Tm.wf, Bool.and_eq_true] at hwf
  obtain ⟨⟨⟨⟨⟨⟨hnx, hws⟩, hwo⟩, hks⟩, hko⟩, hsd⟩, hmv⟩ := hwf
  have hnx := Nat.le_of_ble_eq_true hnx
  -- fresh places of the template
  have hdom : ∀ q s, (q, s) ∈ T.objs → s.underB T.nx = true ∧ (q ∈ T.seeds → q < st.next) ∧ (q ∉ T.seeds → st.next ≤ q ∧ q < T.nx) := by
    intro q s hq
    have := allB_mem hwo (q, s) hq
    simp only [Bool.and_eq_true] at this
    refine ⟨this.1, fun h => ?_, fun h => ?_⟩
    · have h2 := this.2
      rw [memN_iff.2 h, cond_true] at h2
      exact blt_lt h2
    · have h2 := this.2
      rw [memN_false h, cond_false] at h2
      simp only [Bool.and_eq_true] at h2
      exact ⟨Nat.le_of_ble_eq_true h2.1, blt_lt h2.2⟩
  have hkeys : ∀ q, q ∈ keysO T.objs → ∃ s, (q, s) ∈ T.objs := by
    have : ∀ (l : List (Nat × OSh)) q, q ∈ keysO l → ∃ s, (q, s) ∈ l := by
      intro l
      induction l with
      | nil => intro q h; simp [keysO] at h
      | cons p r ih =>
        intro q h
        simp only [keysO] at h
        rcases List.mem_cons.1 h with rfl | h
        · exact ⟨p.2, by simp⟩
        · obtain ⟨s, hs⟩ := ih q h
          exact ⟨s, by simp [hs]⟩
    exact this T.objs
  let η'' : Nat → Value := fun l => if l ∈ keysO T.objs then (match plc T.seeds ps l with | some (some x) => η' x | _ => .slice none 0 0) else η' l
  have hE1 : ∀ l, l ∉ keysO T.objs → η'' l = η' l := fun l hl => if_neg hl
  have hE2 : ∀ l x, l ∈ keysO T.objs → plc T.seeds ps l = some (some x) → η'' l = η' x := by
    intro l x hl hp
    show (if l ∈ keysO T.objs then _ else _) = _
    rw [if_pos hl, hp]
  have hE3 : ∀ l, l ∈ keysO T.objs → plc T.seeds ps l = some none → η'' l = .slice none 0 0 := by
    intro l hl hp
    show (if l ∈ keysO T.objs then _ else _) = _
    rw [if_pos hl, hp]
  have hplcS : ∀ l, l ∈ T.seeds → plc T.seeds ps l = some (some l) := by
    intro l hl
    unfold plc
    rw [memN_iff.2 hl]
    rfl
  have hold : ∀ l, l < st.next → η'' l = η' l := by
    intro l hl
    by_cases hd : l ∈ keysO T.objs
    · obtain ⟨s, hs⟩ := hkeys l hd
      by_cases hsd' : l ∈ T.seeds
      · exact hE2 l l hd (hplcS l hsd')
      · have := ((hdom l s hs).2.2 hsd').1
        omega
    · exact hE1 l hd
  have hmat : ∀ m : List (Nat × Option Nat), (∀ p ∈ m, p ∈ ps) → MatOk η' η'' m := by
    intro m hm L o hLo
    have h1 := hpm (L, o) (hm _ hLo)
    by_cases hd : L ∈ keysO T.objs
    · have h2 := h1.1 hd
      cases o with
      | some y => exact hE2 L y hd h2
      | none => exact hE3 L hd h2
    · have h2 := h1.2 hd
      simp only at h2
      subst h2
      exact hE1 L hd
  -- what a place of the new state is
  have hcase : ∀ q z, (T.mk' st (x, y)).objs q = some z → (q ∉ keysO T.objs ∧ st.objs q = some z ∧ q < st.next ∧ q ∉ T.mv ∧ st'.objs q = some z ∧ st'.lockO q = true) ∨
      ∃ (osh : OSh) (d : osh.D) (o : Option Nat) (more : List (Nat × Option Nat)), (q, osh) ∈ T.objs ∧ z = osh.ob d ∧ plc T.seeds ps q = some o ∧ exOb st' (some o) osh = some (d, more) ∧ ∀ p ∈ more, p ∈ ps := by
    intro q z hz
    rcases hobj _ q z hz with ⟨h1, h2⟩ | h1
    · left
      have hnm : q ∉ T.mv := fun hm => by
        simp only [dropO, memN_iff.2 hm, cond_true] at h2; cases h2
      have h3 : st.objs q = some z := by
        simpa only [dropO, memN_false hnm, cond_false] using h2
      have hlt := (hund.objs q z h3).2
      have hns : q ∉ T.seeds := by
        intro hs
        have := allB_mem hsd q hs
        simp only [Bool.and_eq_true] at this
        exact h1 (memN_iff.1 this.1)
      obtain ⟨h4, h5⟩ := hob q hlt hns hnm
      exact ⟨h1, h3, hlt, hnm, h4.trans h3, h5⟩
    · exact .inr h1
  -- where its memory lies
  have hwhere : ∀ q z b, (T.mk' st (x, y)).objs q = some z → blk (η'' q) = some b → ∃ q' z', st'.objs q' = some z' ∧ blk (η' q') = some b ∧ ((q ∉ keysO T.objs ∧ q' = q ∧ st'.lockO q = true) ∨ (q ∈ keysO T.objs ∧ plc T.seeds ps q = some (some q'))) := by
    intro q z b hz hb
    rcases hcase q z hz with ⟨h1, h2, h3, h4, h5, h6⟩ | ⟨osh, d, o, more, h1, h2, h3, h4, h5⟩
    · rw [hE1 q h1] at hb
      exact ⟨q, z, h5, hb, .inl ⟨h1, rfl, h6⟩⟩
    · have hk := mem_keysO h1
      cases o with
      | none => rw [hE3 q hk h3] at hb; cases hb
      | some x' =>
        rw [hE2 q x' hk h3] at hb
        have : ∃ z', st'.objs x' = some z' := by
          cases osh with
          | box s =>
            simp only [exOb] at h4
            split at h4
            · rename_i hq; exact ⟨_, hq⟩
            · cases h4
          | arr e s =>
            simp only [exOb] at h4
            split at h4
            · rename_i hq; exact ⟨_, hq⟩
            · cases h4
        obtain ⟨z', hz'⟩ := this
        exact ⟨x', z', hz', hb, .inr ⟨hk, h3⟩⟩
  have Kp : ∀ m, m ≤ st.next → Keeps w (okOf X.G st'.objs η') η' w (okOf X.G (T.mk' st (x, y)).objs η'') η'' m := by
    intro m hm
    refine ⟨fun ad u ho hu => ⟨⟨ho.1, fun q z hz hb => ?_⟩, hu⟩, fun l hl => hold l (Nat.lt_of_lt_of_le hl hm)⟩
    obtain ⟨q', z', h1, h2, _⟩ := hwhere q z ad.block hz hb
    exact ho.2 q' z' h1 h2
  have okmono : ∀ b, okOf X.G st'.objs η' b → okOf X.G (T.mk' st (x, y)).objs η'' b := by
    intro b ho
    refine ⟨ho.1, ?_⟩
    intro q z hz hb
    obtain ⟨q', z', h1, h2, _⟩ := hwhere q z b hz hb
    exact ho.2 q' z' h1 h2
  refine ⟨η'', fun l hl => (hold l hl).trans (hpl l hl), ⟨hI.kept, hI.gnew, hI.gold, hI.size, hI.defers, fun t => ?_, fun q z hz => ?_, fun q z b hz hb => ?_, fun q q' z z' b hz hz' hb hb' => ?_, ⟨fun t => ?_, fun q z hz => ?_⟩, fun l hl => ?_⟩⟩
  · rcases exSlots_spec hx (killS st.slots T.dead) t with ⟨h1, h2⟩ | ⟨s, d, h1, h2, h3, h4⟩
    · show VS w _ η'' (mkSlots (killS st.slots T.dead) T.slots x t) _
      rw [h2]
      by_cases hd : t ∈ T.dead
      · rw [killS_in hd]; trivial
      · rw [killS_out hd]
        have := hI.slots t
        rw [hsl t h1 hd] at this
        exact V_keeps (Kp st.next (Nat.le_refl _)) (hund.slots t) this
    · show VS w _ η'' (mkSlots (killS st.slots T.dead) T.slots x t) _
      rw [h2]
      have hv := V_ok okmono (hI.und.slots t) (hI.slots t)
      exact co_VS (hI.und.slots t) hv h3 (hmat _ fun p hp => hps p (h4 p hp))
  · rcases hcase q z hz with ⟨h1, h2, h3, h4, h5, h6⟩ | ⟨osh, d, o, more, h1, rfl, h3, h4, h5⟩
    · exact OK1_keeps (Kp st.next (Nat.le_refl _)) (hE1 q h1) (hund.objs q z h2).1 (fun _ _ => rfl) (hI.objs q z h5)
    · have hk := mem_keysO h1
      cases osh with
      | box s =>
        cases o with
        | none => simp [exOb] at h4
        | some x' =>
        simp only [exOb] at h4
        split at h4
        case h_2 => cases h4
        rename_i s' d' hq
        split at h4
        case h_2 => cases h4
        rename_i y' hco
        simp only [Option.some.injEq, Prod.mk.injEq] at h4
        obtain ⟨rfl, rfl⟩ := h4
        obtain ⟨b, cs, Ty, e1, e2, e3⟩ := hI.objs x' _ hq
        exact ⟨b, cs, Ty, (hE2 q x' hk h3).trans e1, e2, co_C (hI.und.objs x' _ hq).1 (C_ok okmono (hI.und.objs x' _ hq).1 e3) hco (hmat _ h5)⟩
      | arr e s =>
        cases o with
        | none =>
          simp only [exOb, Option.some.injEq, Prod.mk.injEq] at h4
          obtain ⟨rfl, rfl⟩ := h4
          exact .inl ⟨hE3 q hk h3, rfl⟩
        | some x' =>
          simp only [exOb] at h4
          split at h4
          case h_2 => cases h4
          rename_i e' b' xs hq
          split at h4
          case isFalse => cases h4
          rename_i hbe
          obtain ⟨rfl, rfl⟩ := hbe
          simp only [Option.some.injEq, Prod.mk.injEq, cast_eq] at h4
          obtain ⟨rfl, rfl⟩ := h4
          exact OK1_keeps (n := 0) ⟨fun ad u ho hu => ⟨okmono _ ho, hu⟩, fun l hl => absurd hl (Nat.not_lt_zero _)⟩ (hE2 q x' hk h3) (hI.und.objs x' _ hq).1 (fun _ _ => rfl) (hI.objs x' _ hq)
  · obtain ⟨q', z', h1, h2, _⟩ := hwhere q z b hz hb
    exact hI.mine q' z' b h1 h2
  · obtain ⟨q1, z1, h1, h2, h3⟩ := hwhere q z b hz hb
    obtain ⟨q2, z2, h1', h2', h3'⟩ := hwhere q' z' b hz' hb'
    have e : q1 = q2 := hI.apart q1 q2 z1 z2 b h1 h1' h2 h2'
    subst e
    rcases h3 with ⟨g1, rfl, g3⟩ | ⟨g1, g2⟩ <;> rcases h3' with ⟨g1', g2', g3'⟩ | ⟨g1', g2'⟩
    · exact g2'
    · have := allB_mem hfree _ (actual_mem g1' g2')
      simp only [Bool.not_eq_true'] at this
      rw [this] at g3; cases g3
    · subst g2'
      have := allB_mem hfree _ (actual_mem g1 g2)
      simp only [Bool.not_eq_true'] at this
      rw [g3'] at this; cases this
    · exact actual_inj hnod g1 g1' g2 g2'
  · rcases exSlots_spec hx (killS st.slots T.dead) t with ⟨h1, h2⟩ | ⟨s, d, h1, h2, h3, h4⟩
    · show (mkSlots (killS st.slots T.dead) T.slots x t).s.under T.nx
      rw [h2]
      by_cases hd : t ∈ T.dead
      · rw [killS_in hd]; trivial
      · rw [killS_out hd]; exact under_mono hnx (hund.slots t)
    · show (mkSlots (killS st.slots T.dead) T.slots x t).s.under T.nx
      rw [h2]
      exact underB_under (allB_mem hws (t, s) h1)
  · rcases hcase q z hz with ⟨h1, h2, h3, h4, h5, h6⟩ | ⟨osh, d, o, more, h1, rfl, h3, h4, h5⟩
    · exact ⟨Ob.under_mono hnx (hund.objs q z h2).1, Nat.lt_of_lt_of_le h3 hnx⟩
    · obtain ⟨g1, g2, g3⟩ := hdom q osh h1
      refine ⟨OSh_under g1, ?_⟩
      by_cases hs : q ∈ T.seeds
      · exact Nat.lt_of_lt_of_le (g2 hs) hnx
      · exact (g3 hs).2
  · show l < T.nx
    have hl : ((Nat.blt l st.next && !(memN l T.seeds) && !(memN l T.mv)) || st.lockO l) = true := hl
    rcases (Bool.or_eq_true _ _ ▸ hl : _ = true ∨ _ = true) with h | h
    · simp only [Bool.and_eq_true] at h
      exact Nat.lt_of_lt_of_le (blt_lt h.1.1) hnx
    · exact Nat.lt_of_lt_of_le (hlocked l h) hnx

theorem inst_fz {T : Tm} {st st' : St} {η η' : Nat → Value} {X : Fr} {w0 : World} {n : Nat} {a : Act} {w : World} {d : T.D} (hI : Inv X w0 n st' η' a w) (hex : T.ex (T.fz st') = some d) (hwf : T.wf st.next = true) (hund : Und st.slots st.objs st.next) (hlocked : ∀ l, st.lockO l = true → l < st.next)
    (hpl : ∀ l, l < st.next → η' l = η l) (hsl : ∀ i, i ∉ keysS T.slots → i ∉ T.dead → st'.slots i = st.slots i ∧ st'.lockS i = true) (hob : ∀ l, l < st.next → l ∉ T.seeds → l ∉ T.mv → st'.objs l = st.objs l ∧ st'.lockO l = true) :
    ∃ η'', (∀ l, l < st.next → η'' l = η l) ∧ Inv X w0 n (T.mk' st d) η'' a w := by
  obtain ⟨h1, h2⟩ := frz_inv (misL st' T.slots) hI
  exact inst h2 hex hwf hund hlocked hpl (fun i b c => (h1.slots i (hsl i b c).2).trans (hsl i b c).1) (fun l b c e => ⟨(h1.objs l (hob l b c e).2).trans (hob l b c e).1, by rw [h1.lockO]; exact (hob l b c e).2⟩)
end Go.Rai

/- CODE COMES TO WHAT 'denote' SAYS. -/
set_option linter.unusedVariables false
set_option linter.unusedSimpArgs false
namespace Go.Rai
open Go.RowKit
variable {P : Program}

def opIn (n : Nat) (o : Oper) : Bool := match o.dst with | some d => Nat.blt d n | none => true
/-- all slots that are written lie in the frame -/
def boundsB (n : Nat) : Code → Bool
  | .region _ ops _ => allB (opIn n) ops.toList
  | .seq a b => boundsB n a && boundsB n b
  | .cond _ a b => boundsB n a && boundsB n b
  | .block _ c => boundsB n c
  | .loop c => boundsB n c
  | _ => true

def ExR : Exit → Ex → Prop
  | .normal, .normal => True
  | .exit i, .exit j => i = j
  | .ret, .ret => True
  | _, _ => False

theorem numbered_at : ∀ {l : List Oper} {n i : Nat} {o : Oper}, (i, o) ∈ numbered n l → n ≤ i ∧ l[i - n]? = some o
  | [], n, i, o, h => by simp [numbered] at h
  | x :: l, n, i, o, h => by
    simp only [numbered] at h
    rcases List.mem_cons.1 h with h | h
    · cases h; simp
    · obtain ⟨h1, h2⟩ := numbered_at h
      refine ⟨by omega, ?_⟩
      rw [show i - n = (i - (n + 1)) + 1 by omega, List.getElem?_cons_succ]
      exact h2
theorem wpChain_numbered {ops : Array Oper} {Q : Exit → Act → World → Prop} : ∀ (l : List Oper) (n : Nat) (a : Act) (w : World), wpChain P ops Q (numbered n l) (Q .normal) a w → wpOps P ops Q (List.range' n l.length) a w
  | [], n, a, w, h => h
  | x :: l, n, a, w, h => by
    simp only [List.length_cons, List.range'_succ]
    rw [wpOps_cons]
    exact wpOp_mono (fun a w => wpChain_numbered l (n + 1) a w) h

theorem wp_loop_n {c : Code} {Q : Exit → Act → World → Prop} (J : Nat → Act → World → Prop) (zero : ∀ a w, ¬ J 0 a w) (round : ∀ m a w, J (m + 1) a w → c.wp P (Exit.then (J m) Q) a w) :
    ∀ m a w, J m a w → (Code.loop c).wp P Q a w := by
  intro m a w h b k cs
  have key : ∀ m a w, J m a w → ∃ e a' w', Q e a' w' ∧ Arrives P (lone (b.at a (.code c :: .inLoop c :: k)) cs w) b k cs e a' w' := by
    intro m
    induction m with
    | zero => intro a w h; exact absurd h (zero a w)
    | succ m ih =>
      intro a w h
      obtain ⟨e, a₁, w₁, hq, harr⟩ := round m a w h b (.inLoop c :: k) cs
      cases e with
      | normal =>
        obtain ⟨e₂, a₂, w₂, hq₂, harr₂⟩ := ih a₁ w₁ hq
        exact ⟨e₂, a₂, w₂, hq₂, .of_steps (Steps.trans harr (.one step_inLoop)) harr₂⟩
      | exit id => exact ⟨_, a₁, w₁, hq, .pass (x := .inLoop c) rfl (fun _ _ => .inl (by simp)) harr⟩
      | goto l => exact ⟨_, a₁, w₁, hq, .pass (x := .inLoop c) rfl (fun _ _ => .inl (by simp)) harr⟩
      | ret => exact ⟨_, a₁, w₁, hq, .pass (x := .inLoop c) rfl (fun _ _ => .inl (by simp)) harr⟩
      | panic ch => exact ⟨_, a₁, w₁, hq, .pass (x := .inLoop c) rfl (fun _ _ => .inl (by simp)) harr⟩
      | outgrown => exact ⟨_, a₁, w₁, hq, .pass (x := .inLoop c) rfl (fun _ _ => .inl (by simp)) harr⟩
  obtain ⟨e, a', w', hq, harr⟩ := key m a w h
  exact ⟨e, a', w', hq, .of_steps (.one step_loop) harr⟩

theorem iterN_mono {σ ρ : Type} {f : σ → Option (σ ⊕ ρ)} : ∀ {n : Nat} {s : σ} {r : ρ}, iterN n f s = some r → ∀ m, n ≤ m → iterN m f s = some r
  | 0, s, r, h, _, _ => by simp [iterN] at h
  | n + 1, s, r, h, 0, hm => by omega
  | n + 1, s, r, h, m + 1, hm => by
    simp only [iterN] at h ⊢
    cases e : f s with
    | none => rw [e] at h; cases h
    | some v =>
      rw [e] at h
      cases v with
      | inr r' => exact h
      | inl s' => exact iterN_mono (n := n) h m (by omega)
theorem iterN_det {σ ρ : Type} {f : σ → Option (σ ⊕ ρ)} {n m : Nat} {s : σ} {r r' : ρ} (h : iterN n f s = some r) (h' : iterN m f s = some r') : r = r' := by
  have h1 := iterN_mono h (max n m) (Nat.le_max_left _ _)
  have h2 := iterN_mono h' (max n m) (Nat.le_max_right _ _)
  rw [h1] at h2
  exact Option.some.inj h2
theorem iterW_some {σ ρ : Type} {f : σ → Option (σ ⊕ ρ)} {s : σ} {r : ρ} : iterW f s = some r ↔ ∃ n, iterN n f s = some r := by
  unfold iterW
  constructor
  · intro h
    split at h
    · rename_i hq
      simp only [Option.some.injEq] at h
      exact ⟨hq.choose, by rw [← h]; exact hq.choose_spec.choose_spec⟩
    · cases h
  · rintro ⟨n, hn⟩
    have hq : ∃ n r, iterN n f s = some r := ⟨n, r, hn⟩
    rw [dif_pos hq, iterN_det hq.choose_spec.choose_spec hn]
/-- one round -/
theorem iterW_eq {σ ρ : Type} (f : σ → Option (σ ⊕ ρ)) (s : σ) : iterW f s = match f s with | none => none | some (.inr r) => some r | some (.inl s') => iterW f s' := by
  have key : ∀ r, iterW f s = some r ↔ (match f s with | none => none | some (.inr r) => some r | some (.inl s') => iterW f s') = some r := by
    intro r
    rw [iterW_some]
    constructor
    · rintro ⟨n, hn⟩
      cases n with
      | zero => simp [iterN] at hn
      | succ n =>
        simp only [iterN] at hn
        split at hn
        · cases hn
        · rename_i r' e; rw [e]; exact hn
        · rename_i s' e; rw [e]; exact iterW_some.2 ⟨n, hn⟩
    · intro h
      split at h
      · cases h
      · rename_i r' e; exact ⟨1, by simp only [iterN, e]; exact h⟩
      · rename_i s' e
        obtain ⟨n, hn⟩ := iterW_some.1 h
        exact ⟨n + 1, by simp only [iterN, e]; exact hn⟩
  cases h : iterW f s with
  | some r => exact ((key r).1 h).symm
  | none =>
    cases h2 : (match f s with | none => none | some (.inr r) => some r | some (.inl s') => iterW f s') with
    | none => rfl
    | some r => rw [(key r).2 h2] at h; cases h

theorem mkSlots_out : ∀ {l : List (Nat × Sh)} {x : SlD l} {f : Nat → SV} {t : Nat}, t ∉ keysS l → mkSlots f l x t = f t
  | [], _, _, _, _ => rfl
  | p :: r, x, f, t, h => by
    simp only [keysS, List.mem_cons, not_or] at h
    simp only [mkSlots]
    rw [upd_ne _ _ h.1]
    exact mkSlots_out h.2
theorem mkObjs_out : ∀ {l : List (Nat × OSh)} {x : ObD l} {f : Nat → Option Ob} {t : Nat}, t ∉ keysO l → mkObjs f l x t = f t
  | [], _, _, _, _ => rfl
  | p :: r, x, f, t, h => by
    simp only [keysO, List.mem_cons, not_or] at h
    simp only [mkObjs]
    rw [upd_ne _ _ h.1]
    exact mkObjs_out h.2
theorem keysO_mem {l : List (Nat × OSh)} {q : Nat} (h : q ∈ keysO l) : ∃ s, (q, s) ∈ l := by
  induction l with
  | nil => simp [keysO] at h
  | cons p r ih =>
    simp only [keysO] at h
    rcases List.mem_cons.1 h with rfl | h
    · exact ⟨p.2, by simp⟩
    · obtain ⟨s, hs⟩ := ih h
      exact ⟨s, by simp [hs]⟩
/-- what a template leaves alone -/
theorem mk_keeps {T : Tm} {st : St} {d : T.D} (hwf : T.wf st.next = true) : (∀ i, i ∉ keysS T.slots → i ∉ T.dead → (T.mk' st d).slots i = st.slots i) ∧ (∀ l, l < st.next → l ∉ T.seeds → l ∉ T.mv → (T.mk' st d).objs l = st.objs l) ∧ st.next ≤ T.nx := by
  simp only [Tm.wf, Bool.and_eq_true] at hwf
  obtain ⟨⟨⟨⟨⟨⟨hnx, hws⟩, hwo⟩, hks⟩, hko⟩, hsd⟩, hmv⟩ := hwf
  refine ⟨fun i h1 h2 => ?_, fun l h1 h2 h3 => ?_, Nat.le_of_ble_eq_true hnx⟩
  · show mkSlots (killS st.slots T.dead) T.slots d.1 i = _
    rw [mkSlots_out h1, killS_out h2]
  · show mkObjs (dropO st.objs T.mv) T.objs d.2 l = _
    rw [mkObjs_out]
    · simp only [dropO, memN_false h3, cond_false]
    · intro hk
      obtain ⟨s, hs⟩ := keysO_mem hk
      have := allB_mem hwo (l, s) hs
      simp only [Bool.and_eq_true, memN_false h2, cond_false] at this
      have := Nat.le_of_ble_eq_true this.2.1
      omega
theorem later_mk {T : Tm} {st : St} {d : T.D} {η η'' : Nat → Value} (hwf : T.wf st.next = true) (hfr : T.free st = true) (hlk : ∀ l, st.lockO l = true → l < st.next) (hpl : ∀ l, l < st.next → η'' l = η l) : Later st η (relock st (T.mk' st d)) η'' := by
  obtain ⟨h1, h2, h3⟩ := mk_keeps (d := d) hwf
  simp only [Tm.free, Bool.and_eq_true] at hfr
  obtain ⟨⟨⟨f1, f2⟩, f3⟩, f4⟩ := hfr
  have no : ∀ {l : List Nat} {p : Nat → Bool} {i : Nat}, allB (fun i => !(p i)) l = true → p i = true → i ∉ l := by
    intro l p i hl hp hm
    have := allB_mem hl i hm
    simp only [hp, Bool.not_true] at this
    cases this
  exact ⟨hpl, h3, rfl, rfl, fun i hi => h1 i (no f1 hi) (no f2 hi), fun l hl => h2 l (hlk l hl) (no f3 hl) (no f4 hl)⟩

theorem fz1_next (st : St) (l : Nat) : (fz1 st l).next = st.next := by
  unfold fz1
  split
  · cases st.lockO l <;> rfl
  · rfl
theorem frz_next : ∀ (ls : List Nat) (st : St), (frz ls st).next = st.next
  | [], st => rfl
  | l :: r, st => (frz_next r (fz1 st l)).trans (fz1_next st l)

theorem den_sound {tt : TT} (hT : TTok P tt) {env : Env} {X : Fr} {w0 : World} (hE : EnvAt P X w0 env) (hm : P.follows .mixedOrders = true) {ann : Ann} {n : Nat} : ∀ (c : Code) {R : Type} {p : Nat} {st : St} {k : Ex → St → Option R} {r : R} {η : Nat → Value} {a : Act} {w : World} {Q : Exit → Act → World → Prop},
    boundsB n c = true → denote tt env ann c p st k = some r → Inv X w0 n st η a w → (∀ e ex a' w', ExR e ex → Post X w0 n st η (k ex) r a' w' → Q e a' w') → c.wp P Q a w := by
  intro c
  induction c with
  | skip => intro R p st k r η a w Q hb h hI hQ; exact wp_skip (hQ .normal .normal a w trivial ⟨st, η, Later.refl _ _, hI, by simpa [denote] using h⟩)
  | exit i => intro R p st k r η a w Q hb h hI hQ; exact wp_exit (hQ (.exit i) (.exit i) a w rfl ⟨st, η, Later.refl _ _, hI, by simpa [denote] using h⟩)
  | ret => intro R p st k r η a w Q hb h hI hQ; exact wp_ret (hQ .ret .ret a w trivial ⟨st, η, Later.refl _ _, hI, by simpa [denote] using h⟩)
  | region id ops draw =>
    intro R p st k r η a w Q hb h hI hQ
    simp only [denote] at h
    obtain ⟨hLf, hIf⟩ := frz_inv (frOf (ann p)) hI
    cases draw with
    | true =>
      rw [cond_true] at h
      rw [← frz_next (frOf (ann p)) st] at h
      refine draw_sound hT hE hm h hIf (fun q hq d hdq => ?_) fun a' w' ⟨st'', η'', hL, hI'', hk⟩ => hQ .normal .normal a' w' trivial ⟨st'', η'', hLf.trans hL, hI'', hk⟩
      have hmem : q.2 ∈ ops.toList := List.mem_of_getElem? (numbered_ops hq)
      have := allB_mem hb q.2 hmem
      simp only [opIn] at this
      rw [hdq] at this
      exact blt_lt this
    | false =>
      rw [cond_false] at h
      refine wp_region ?_
      have hr : List.range ops.size = List.range' 0 ops.toList.length := by simp [List.range_eq_range']
      rw [hr]
      refine wpChain_numbered ops.toList 0 a w ?_
      have hin : ∀ q ∈ numbered 0 ops.toList, ops[q.1]? = some q.2 := by
        rintro ⟨i, o⟩ hq
        have := (numbered_at hq).2
        simpa using this
      refine evalOps_sound hT hE _ h hIf hin ?_ trivial fun a' w' ⟨st'', η'', hL, hI'', hk⟩ => hQ .normal .normal a' w' trivial ⟨st'', η'', hLf.trans hL, hI'', hk⟩
      rintro ⟨i, o⟩ hq d hd
      have hm : o ∈ ops.toList := List.mem_of_getElem? (numbered_at hq).2
      have := allB_mem hb o hm
      simp only [opIn] at this
      have hd : o.dst = some d := hd
      rw [hd] at this
      exact blt_lt this
  | seq x y ihx ihy =>
    intro R p st k r η a w Q hb h hI hQ
    simp only [boundsB, Bool.and_eq_true] at hb
    simp only [denote] at h
    refine wp_seq ?_
    split at h
    · refine ihx hb.1 h hI fun e ex a' w' he hP => ?_
      obtain ⟨st', η', hL, hI', hk⟩ := hP
      cases e <;> cases ex <;> simp only [ExR] at he
      · exact ihy hb.2 hk hI' fun e ex a'' w'' he ⟨st'', η'', hL', hI'', hk'⟩ => hQ e ex a'' w'' he ⟨st'', η'', hL.trans hL', hI'', hk'⟩
      · subst he; exact hQ (.exit _) (.exit _) a' w' rfl ⟨st', η', hL, hI', hk⟩
      · exact hQ .ret .ret a' w' trivial ⟨st', η', hL, hI', hk⟩
    · rename_i T hT'
      cases hwf : (T.wf st.next && T.free st) with
      | false => rw [hwf, cond_false] at h; cases h
      | true =>
      rw [hwf, cond_true] at h
      simp only [Bool.and_eq_true] at hwf
      obtain ⟨hwf, hfr⟩ := hwf
      obtain ⟨z, hz, h⟩ := bind_some h
      have hIg : Inv X w0 n (T.guard st) η a w := ⟨hI.kept, hI.gnew, hI.gold, hI.size, hI.defers, hI.slots, hI.objs, hI.mine, hI.apart, hI.und, fun l hl => by
        have hl : ((Nat.blt l st.next && !(memN l T.seeds) && !(memN l T.mv)) || st.lockO l) = true := hl
        rcases (Bool.or_eq_true _ _ ▸ hl : _ = true ∨ _ = true) with h | h
        · simp only [Bool.and_eq_true] at h; exact blt_lt h.1.1
        · exact hI.locked l h⟩
      refine ihx hb.1 hz hIg fun e ex a' w' he hP => ?_
      obtain ⟨st', η', hL, hI', hk⟩ := hP
      have hrel : Later st η (relock st st') η' ∧ Inv X w0 n (relock st st') η' a' w' := by
        refine ⟨⟨hL.place, hL.next, rfl, rfl, fun i hi => hL.slots i ?_, fun l hl => hL.objs l ?_⟩, ⟨hI'.kept, hI'.gnew, hI'.gold, hI'.size, hI'.defers, hI'.slots, hI'.objs, hI'.mine, hI'.apart, hI'.und, fun l hl => Nat.lt_of_lt_of_le (hI.locked l hl) hL.next⟩⟩
        · show (!(memN i (keysS T.slots) || memN i T.dead) || st.lockS i) = true
          rw [hi, Bool.or_true]
        · show ((Nat.blt l st.next && !(memN l T.seeds) && !(memN l T.mv)) || st.lockO l) = true
          rw [hl, Bool.or_true]
      cases e <;> cases ex <;> simp only [ExR] at he
      · -- the ways meet
        cases hex : T.ex (T.fz st') with
        | none => simp [hex] at hk
        | some d =>
        simp only [hex, Option.map_some, Option.some.injEq] at hk
        subst hk
        simp only at h
        obtain ⟨η'', e1, e2⟩ := inst_fz hI' hex hwf hI.und hI.locked (fun l hl => hL.place l hl) (fun i h1 h2 => by
            have hlo : (T.guard st).lockS i = true := by
              show (!(memN i (keysS T.slots) || memN i T.dead) || st.lockS i) = true
              rw [memN_false h1, memN_false h2]; rfl
            exact ⟨hL.slots i hlo, by rw [hL.lockS]; exact hlo⟩) (fun l h1 h2 h3 => by
            have hlo : (T.guard st).lockO l = true := by
              show ((Nat.blt l st.next && !(memN l T.seeds) && !(memN l T.mv)) || st.lockO l) = true
              rw [memN_false h2, memN_false h3, lt_blt h1]; rfl
            exact ⟨hL.objs l hlo, by rw [hL.lockO]; exact hlo⟩)
        have hIr : Inv X w0 n (relock st (T.mk' st d)) η'' a' w' := ⟨e2.kept, e2.gnew, e2.gold, e2.size, e2.defers, e2.slots, e2.objs, e2.mine, e2.apart, e2.und, fun l hl => Nat.lt_of_lt_of_le (hI.locked l hl) (mk_keeps (d := d) hwf).2.2⟩
        have hLr := later_mk (d := d) (η := η) hwf hfr hI.locked e1
        exact ihy hb.2 h hIr fun e ex a'' w'' he ⟨st'', η3, hL', hI'', hk'⟩ => hQ e ex a'' w'' he ⟨st'', η3, hLr.trans hL', hI'', hk'⟩
      · subst he
        rename_i i
        cases hk' : k (.exit i) (relock st st') with
        | none => simp [hk'] at hk
        | some r' =>
          simp only [hk', Option.map_some, Option.some.injEq] at hk
          subst hk
          simp only [Option.some.injEq] at h
          subst h
          exact hQ (.exit _) (.exit _) a' w' rfl ⟨_, η', hrel.1, hrel.2, hk'⟩
      · cases hk' : k .ret (relock st st') with
        | none => simp [hk'] at hk
        | some r' =>
          simp only [hk', Option.map_some, Option.some.injEq] at hk
          subst hk
          simp only [Option.some.injEq] at h
          subst h
          exact hQ .ret .ret a' w' trivial ⟨_, η', hrel.1, hrel.2, hk'⟩
  | cond c x y ihx ihy =>
    intro R p st k r η a w Q hb h hI hQ
    simp only [boundsB, Bool.and_eq_true] at hb
    simp only [denote] at h
    split at h
    · rename_i t hc
      have hv : a.eval c = .bool t := V_bool (evalO_VS (ops := #[c]) (fun t _ => hI.slots t) (by simp)) hc
      cases t with
      | true => rw [cond_true] at h; exact wp_cond_true hv (ihx hb.1 h hI hQ)
      | false => rw [cond_false] at h; exact wp_cond_false hv (ihy hb.2 h hI hQ)
    · cases h
  | block i c ih =>
    intro R p st k r η a w Q hb h hI hQ
    simp only [denote] at h
    refine wp_block (ih hb h hI fun e ex a' w' he hP => ?_)
    obtain ⟨st', η', hL, hI', hk⟩ := hP
    cases e <;> cases ex <;> simp only [ExR] at he
    · exact hQ .normal .normal a' w' trivial ⟨st', η', hL, hI', hk⟩
    · subst he
      rename_i j
      by_cases hij : j = i
      · subst hij
        simp only [Exit.inBlock, if_true]
        have : Nat.beq j j = true := by simp
        simp only [this, cond_true] at hk
        exact hQ .normal .normal a' w' trivial ⟨st', η', hL, hI', hk⟩
      · simp only [Exit.inBlock, hij, if_false]
        have : Nat.beq i j = false := by
          cases hb : Nat.beq i j with
          | true => exact absurd (Nat.eq_of_beq_eq_true hb).symm hij
          | false => rfl
        simp only [this, cond_false] at hk
        exact hQ (.exit j) (.exit j) a' w' rfl ⟨st', η', hL, hI', hk⟩
    · exact hQ .ret .ret a' w' trivial ⟨st', η', hL, hI', hk⟩
  | loop c ih =>
    intro R p st k r η a w Q hb h hI hQ
    simp only [denote] at h
    split at h
    case h_2 =>
      refine wp_loop_n (fun m a w => ∃ st' η', Later st η st' η' ∧ Inv X w0 n st' η' a w ∧ unroll (fun st k => denote tt env ann c (2 * p) st k) m st' k = some r) (fun a w ⟨_, _, _, _, h⟩ => by simp [unroll] at h) ?_ 40 a w ⟨st, η, Later.refl _ _, hI, h⟩
      rintro m a1 w1 ⟨st1, η1, q1, q2, q3⟩
      simp only [unroll] at q3
      refine ih hb q3 q2 fun e ex a' w' he hP => ?_
      obtain ⟨st', η', hL, hI', hk⟩ := hP
      cases e <;> cases ex <;> simp only [ExR] at he
      · exact ⟨st', η', q1.trans hL, hI', hk⟩
      · subst he; exact hQ (.exit _) (.exit _) a' w' rfl ⟨st', η', q1.trans hL, hI', hk⟩
      · exact hQ .ret .ret a' w' trivial ⟨st', η', q1.trans hL, hI', hk⟩
    rename_i T hT'
    cases hwf : (T.wf st.next && T.free st) with
    | false => rw [hwf, cond_false] at h; cases h
    | true =>
    rw [hwf, cond_true] at h
    simp only [Bool.and_eq_true] at hwf
    obtain ⟨hwf, hfr⟩ := hwf
    split at h
    case h_2 => cases h
    rename_i d0 hd0
    obtain ⟨m, hm⟩ := iterW_some.1 h
    obtain ⟨k1, k2, k3⟩ := mk_keeps (T := T) (st := st) (d := d0) hwf
    have hIg : Inv X w0 n (T.guard st) η a w := ⟨hI.kept, hI.gnew, hI.gold, hI.size, hI.defers, hI.slots, hI.objs, hI.mine, hI.apart, hI.und, fun l hl => by
      have hl : ((Nat.blt l st.next && !(memN l T.seeds) && !(memN l T.mv)) || st.lockO l) = true := hl
      rcases (Bool.or_eq_true _ _ ▸ hl : _ = true ∨ _ = true) with h | h
      · simp only [Bool.and_eq_true] at h; exact blt_lt h.1.1
      · exact hI.locked l h⟩
    have hlockg : ∀ l, l < st.next → l ∉ T.seeds → l ∉ T.mv → ((Nat.blt l st.next && !(memN l T.seeds) && !(memN l T.mv)) || st.lockO l) = true := fun l h1 h2 h3 => by
      rw [memN_false h2, memN_false h3, lt_blt h1]; rfl
    obtain ⟨η0, g1, g2⟩ := inst_fz hIg hd0 hwf hI.und hI.locked (fun l _ => rfl) (fun i h1 h2 => ⟨rfl, by
      show (!(memN i (keysS T.slots) || memN i T.dead) || st.lockS i) = true
      rw [memN_false h1, memN_false h2]; rfl⟩) (fun l h1 h2 h3 => ⟨rfl, hlockg l h1 h2 h3⟩)
    refine wp_loop_n (fun m a w => ∃ d η1, (∀ l, l < st.next → η1 l = η l) ∧ Inv X w0 n (T.mk' st d) η1 a w ∧ iterN m _ d = some r) (fun a w ⟨d, η1, _, _, h⟩ => by simp [iterN] at h) ?_ m a w ⟨d0, η0, g1, g2, hm⟩
    rintro m a1 w1 ⟨d, η1, q1, q2, q3⟩
    simp only [iterN] at q3
    have hrun : ∀ z, denote tt env ann c (2 * p) (R := T.D ⊕ R) (T.mk' st d) (fun e st' => match e with
          | .normal => (T.ex (T.fz st')).map .inl
          | e => (k e (relock st st')).map .inr) = some z → (∀ d', z = .inl d' → iterN m (fun d => denote tt env ann c (2 * p) (R := T.D ⊕ R) (T.mk' st d) (fun e st' => match e with
          | .normal => (T.ex (T.fz st')).map .inl
          | e => (k e (relock st st')).map .inr)) d' = some r) → (∀ r', z = .inr r' → r' = r) → c.wp P (Exit.then (fun a w => ∃ d η1, (∀ l, l < st.next → η1 l = η l) ∧ Inv X w0 n (T.mk' st d) η1 a w ∧ iterN m (fun d => denote tt env ann c (2 * p) (R := T.D ⊕ R) (T.mk' st d) (fun e st' => match e with
          | .normal => (T.ex (T.fz st')).map .inl
          | e => (k e (relock st st')).map .inr)) d = some r) Q) a1 w1 := by
      intro z hz hl hr
      refine ih hb hz q2 fun e ex a' w' he hP => ?_
      obtain ⟨st', η', hL, hI', hk⟩ := hP
      obtain ⟨k1', k2', _⟩ := mk_keeps (T := T) (st := st) (d := d) hwf
      have hplace : ∀ l, l < st.next → η' l = η l := fun l hl => (hL.place l (Nat.lt_of_lt_of_le hl k3)).trans (q1 l hl)
      have hslk : ∀ i, i ∉ keysS T.slots → i ∉ T.dead → st'.slots i = st.slots i := fun i h1 h2 => (hL.slots i (by
        show (!(memN i (keysS T.slots) || memN i T.dead) || st.lockS i) = true
        rw [memN_false h1, memN_false h2]; rfl)).trans (k1' i h1 h2)
      have hobk : ∀ l, l < st.next → l ∉ T.seeds → l ∉ T.mv → st'.objs l = st.objs l ∧ st'.lockO l = true := fun l h1 h2 h3 =>
        ⟨(hL.objs l (hlockg l h1 h2 h3)).trans (k2' l h1 h2 h3), by rw [hL.lockO]; exact hlockg l h1 h2 h3⟩
      have hrel : Later st η (relock st st') η' ∧ Inv X w0 n (relock st st') η' a' w' := by
        simp only [Tm.free, Bool.and_eq_true] at hfr
        obtain ⟨⟨⟨f1, f2⟩, f3⟩, f4⟩ := hfr
        have no : ∀ {l : List Nat} {p : Nat → Bool} {i : Nat}, allB (fun i => !(p i)) l = true → p i = true → i ∉ l := by
          intro l p i hl hp hm
          have := allB_mem hl i hm
          simp only [hp, Bool.not_true] at this
          cases this
        exact ⟨⟨hplace, Nat.le_trans k3 hL.next, rfl, rfl, fun i hi => hslk i (no f1 hi) (no f2 hi), fun l hl => (hobk l (hI.locked l hl) (no f3 hl) (no f4 hl)).1⟩,
          ⟨hI'.kept, hI'.gnew, hI'.gold, hI'.size, hI'.defers, hI'.slots, hI'.objs, hI'.mine, hI'.apart, hI'.und, fun l hl => Nat.lt_of_lt_of_le (hI.locked l hl) (Nat.le_trans k3 hL.next)⟩⟩
      cases e <;> cases ex <;> simp only [ExR] at he
      · cases hex : T.ex (T.fz st') with
        | none => simp [hex] at hk
        | some d' =>
          simp only [hex, Option.map_some, Option.some.injEq] at hk
          obtain ⟨η'', e1, e2⟩ := inst_fz hI' hex hwf hI.und hI.locked hplace (fun i h1 h2 => ⟨hslk i h1 h2, by
            rw [hL.lockS]
            show (!(memN i (keysS T.slots) || memN i T.dead) || st.lockS i) = true
            rw [memN_false h1, memN_false h2]; rfl⟩) hobk
          exact ⟨d', η'', e1, e2, hl d' hk.symm⟩
      · subst he
        rename_i i
        cases hk' : k (.exit i) (relock st st') with
        | none => simp [hk'] at hk
        | some r' =>
          simp only [hk', Option.map_some, Option.some.injEq] at hk
          obtain rfl := hr r' hk.symm
          exact hQ (.exit _) (.exit _) a' w' rfl ⟨_, η', hrel.1, hrel.2, hk'⟩
      · cases hk' : k .ret (relock st st') with
        | none => simp [hk'] at hk
        | some r' =>
          simp only [hk', Option.map_some, Option.some.injEq] at hk
          obtain rfl := hr r' hk.symm
          exact hQ .ret .ret a' w' trivial ⟨_, η', hrel.1, hrel.2, hk'⟩
    split at q3
    · cases q3
    · rename_i r' e1
      simp only [Option.some.injEq] at q3
      subst q3
      exact hrun _ e1 (fun d' h => by cases h) (fun r'' h => by cases h; rfl)
    · rename_i d' e1
      exact hrun _ e1 (fun d'' h => by cases h; exact q3) (fun r'' h => by cases h)
  | _ => intro R p st k r η a w Q hb h hI hQ; simp [denote] at h
end Go.Rai

/- A FUNCTION COMES TO WHAT ITS CODE'S DENOTATION SAYS: its signature is true. -/
set_option linter.unusedVariables false
set_option linter.unusedSimpArgs false
namespace Go.Rai
open Go.RowKit
variable {P : Program}

def resM (tmps : Array Value) : ResultVar → Sem Value
  | .tmp t => pure (tmps.getD t undef)
  | .cell a t => do loadVar t (← asAddr (tmps.getD a undef))

theorem res_one {tt : TT} (hT : TTok P tt) {X : Fr} {w0 : World} {n : Nat} {st : St} {η : Nat → Value} {a : Act} {w : World} (hI : Inv X w0 n st η a w) {rv : ResultVar} {q : SV} (h : resSV tt st rv = some q) :
    q.s.under st.next ∧ ∃ v, (resM a.tmps rv).run P w = .ok v w ∧ VS w (okOf X.G st.objs η) η q v := by
  cases rv with
  | tmp t =>
    simp only [resSV, Option.some.injEq] at h
    subst h
    exact ⟨hI.und.slots t, _, rfl, hI.slots t⟩
  | cell b ty =>
    simp only [resSV] at h
    split at h
    · rename_i l o d q' hs ht
      split at h
      · rename_i s dd hl
        split at h
        · rename_i r' e1
          have hu := (hI.und.objs l _ hl).1
          have hvs := hI.slots b
          rw [hs] at hvs
          obtain ⟨g, hg, hv⟩ := hvs
          obtain ⟨m, hm, hc⟩ := OK1_box (hI.objs l _ hl) hg e1
          obtain ⟨val, hr, hval⟩ := run_loadAt hT ht hm hc h
          refine ⟨part_under (dropC_under (x := ⟨s, dd⟩) hu e1) h, val, ?_, hval⟩
          have hv : a.tmps.getD b undef = .pointer (some ⟨g, o, none⟩) := by simpa using hv
          simp only [resM, hv, asAddr, pure_bind]
          simpa [Instr.loadAt, Instr.sureAddr] using hr
        · cases h
      · cases h
    · cases h

theorem run_mapM_cons {α β : Type} {g : α → Sem β} {x : α} {l : List α} {v : β} {vs : List β} {w : World} (h : (g x).run P w = .ok v w) (k : (l.mapM g).run P w = .ok vs w) : ((x :: l).mapM g).run P w = .ok (v :: vs) w := by
  simp [List.mapM_cons, Sem.run_bind, h, k]

theorem cl_ok {w : World} {ok ok' : Nat → Prop} {η η' : Nat → Value} {a : Sh} {xs : List a.D} {m : List Value} (hu : a.under 0) (hok : ∀ b, ok b → ok' b) (h : CL w ok η a xs m) : CL w ok' η' a xs m :=
  ⟨h.1, fun i hi => C_ok (n := 0) hok hu (C_free hu (h.2 i hi))⟩

theorem res_all {tt : TT} (hT : TTok P tt) {X : Fr} {w0 : World} {n : Nat} {st : St} {η η0 : Nat → Value} {a : Act} {w : World} (hI : Inv X w0 n st η a w) (hX : ∀ b, ¬ X.X b) {ok2 : Nat → Prop} :
    ∀ {l : List RS} {rvs : List ResultVar} {r : RSD l}, (∀ t ∈ l, t.under 0) → resEx tt st l rvs = some r → nodupN (resPl tt st l rvs) = true →
    (∀ b, okOf X.G st.objs η b → ok2 b) → (∀ q ∈ resRd tt st l rvs, ∀ x b, st.objs q = some x → blk (η q) = some b → ok2 b) →
    ∃ vs own, (rvs.mapM (resM a.tmps)).run P w = .ok vs w ∧ own.Nodup ∧ (∀ b ∈ own, ∃ q ∈ resPl tt st l rvs, ∃ x, st.objs q = some x ∧ blk (η q) = some b) ∧ ResRep w0.heap.size w ok2 η0 l r vs own
  | [], [], r, hu, h, hn, hok, hrd => ⟨[], [], rfl, List.nodup_nil, fun b hb => by simp at hb, rfl⟩
  | [], _ :: _, r, hu, h, hn, hok, hrd => by simp [resEx] at h
  | .val s :: l, [], r, hu, h, hn, hok, hrd => by simp [resEx] at h
  | .own e a :: l, [], r, hu, h, hn, hok, hrd => by simp [resEx] at h
  | .val s :: l, v :: rvs, r, hu, h, hn, hok, hrd => by
    simp only [resEx] at h
    split at h
    · rename_i q hq
      split at h
      · rename_i x y e1 e2
        simp only [Option.some.injEq] at h
        subst h
        obtain ⟨hqu, val, hrun, hval⟩ := res_one hT hI hq
        simp only [resPl] at hn
        simp only [resRd, hq] at hrd
        obtain ⟨vs, own, h1, h2, h3, h4⟩ := res_all (η0 := η0) hT hI hX (fun t ht => hu t (by simp [ht])) e2 hn hok (fun p hp => hrd p (by simp [hp]))
        obtain ⟨hus, _⟩ := hu (.val s) (by simp)
        refine ⟨val :: vs, own, run_mapM_cons hrun h1, h2, fun b hb => by simpa only [resPl] using h3 b hb, ?_, h4⟩
        have hv : V w ok2 η s x val := by
          obtain ⟨qs, qd⟩ := q
          exact coX_V hok hI.objs hus hqu hval e1 (fun p hp => hrd p (by simp [hp]))
        exact V_keeps (n := 0) ⟨fun _ _ p q => ⟨p, q⟩, fun l hl => absurd hl (Nat.not_lt_zero _)⟩ hus hv
      · cases h
    · cases h
  | .own e b :: l, v :: rvs, r, hu, h, hn, hok, hrd => by
    have hub : b.under 0 := hu (.own e b) (by simp)
    simp only [resEx] at h
    split at h
    · rename_i p b' d y hq e2
      split at h
      · rename_i e' c xs hl
        split at h
        · rename_i hce
          obtain ⟨rfl, rfl⟩ := hce
          simp only [Option.some.injEq, cast_eq] at h
          subst h
          obtain ⟨hqu, val, hrun, hval⟩ := res_one hT hI hq
          simp only [resPl, hq, nodupN, Bool.and_eq_true, Bool.not_eq_true'] at hn
          simp only [resRd] at hrd
          obtain ⟨vs, own, h1, h2, h3, h4⟩ := res_all (η0 := η0) hT hI hX (fun t ht => hu t (by simp [ht])) e2 hn.2 hok hrd
          have hvv : val = η p := by
            have hval : C w (okOf X.G st.objs η) η (.ref p b') () [val] := hval
            simpa using hval.1
          subst hvv
          have hfr : ∀ g, blk (η p) = some g → g ∉ own := by
            intro g hg hm
            obtain ⟨q, hq1, x, hx, hb⟩ := h3 g hm
            have := hI.apart p q _ x g hl hx hg hb
            subst this
            rw [memN_iff.2 hq1] at hn
            cases hn.1
          have hown : ∃ m, w.ownsRow w0.heap.size e' c.cells (η p) xs.length m ∧ CL w (okOf X.G st.objs η) η c xs m := by
            rcases hI.objs p _ hl with ⟨k1, k2⟩ | ⟨g, cap, cs, k1, k2, k3, k4, k5, k6⟩
            · refine ⟨[], ⟨by simp [k2], .inl ⟨k1, k2⟩⟩, by simp [k2], fun i hi => by omega⟩
            · have hle : xs.length * c.cells ≤ cap * c.cells := Nat.mul_le_mul_right _ k4
              have hg := (hI.mine p _ g hl (by rw [k1]; rfl)).1
              refine ⟨cs.toList.take (xs.length * c.cells), ⟨by simp; omega, .inr ⟨g, cap, cs, k1, ?_, k2, k4, k5, k3, rfl⟩⟩, by simp; omega, fun i hi => ?_⟩
              · rcases hg with hg | hg
                · exact hg
                · exact absurd hg (hX g)
              · have : seg (cs.toList.take (xs.length * c.cells)) (i * c.cells) c.cells = seg cs.toList (i * c.cells) c.cells := by
                  have hm : (i + 1) * c.cells ≤ xs.length * c.cells := Nat.mul_le_mul_right _ hi
                  have e : (i + 1) * c.cells = i * c.cells + c.cells := Nat.succ_mul _ _
                  apply List.ext_getElem?
                  intro q
                  rw [seg_get, seg_get]
                  by_cases hq : q < c.cells
                  · rw [if_pos hq, if_pos hq, List.getElem?_take, if_pos (by omega)]
                  · rw [if_neg hq, if_neg hq]
                rw [this]
                exact k6 i hi
          obtain ⟨m, hm1, hm2⟩ := hown
          refine ⟨η p :: vs, (match blk (η p) with | some g => g :: own | none => own), run_mapM_cons hrun h1, ?_, ?_, m, own, hm1, cl_ok hub hok hm2, rfl, h4⟩
          · split
            · rename_i g hg; exact List.nodup_cons.2 ⟨hfr g hg, h2⟩
            · exact h2
          · intro g hg
            simp only [resPl, hq]
            split at hg
            · rename_i g' hg'
              rcases List.mem_cons.1 hg with rfl | hg
              · exact ⟨p, by simp, _, hl, hg'⟩
              · obtain ⟨q, hq1, hx⟩ := h3 g hg
                exact ⟨q, by simp [hq1], hx⟩
            · obtain ⟨q, hq1, hx⟩ := h3 g hg
              exact ⟨q, by simp [hq1], hx⟩
        · cases h
      · cases h
    · rename_i d y hq e2
      simp only [Option.some.injEq] at h
      subst h
      obtain ⟨hqu, val, hrun, hval⟩ := res_one hT hI hq
      simp only [resPl, hq] at hn
      simp only [resRd] at hrd
      obtain ⟨vs, own, h1, h2, h3, h4⟩ := res_all (η0 := η0) hT hI hX (fun t ht => hu t (by simp [ht])) e2 hn hok hrd
      have hval : [val] = [Value.slice none 0 0] := hval
      simp only [List.cons.injEq, and_true] at hval
      subst hval
      exact ⟨_ :: vs, own, run_mapM_cons hrun h1, h2, fun g hg => by simpa only [resPl, hq] using h3 g hg, [], own, ⟨by simp, .inl ⟨rfl, rfl⟩⟩, CL_nil, rfl, h4⟩
    · cases h

def RS.underB : RS → Bool
  | .val s => s.underB 0 && !s.isTup
  | .own _ a => a.underB 0
theorem RS_under {t : RS} (h : t.underB = true) : t.under 0 := by
  cases t with
  | val s =>
    simp only [RS.underB, Bool.and_eq_true, Bool.not_eq_true'] at h
    exact ⟨underB_under h.1, h.2⟩
  | own e a => exact underB_under (s := a) h
/-- all that is looked at ahead, of a function and a signature -/
def sigB (fn : Func) (ins : List Sh) (outs : List RS) : Bool :=
  (match fn.body with | some c => boundsB fn.ntmps c | none => false) && Nat.ble ins.length fn.ntmps && allB (fun s => s.underB 0) ins && allB RS.underB outs && decide (fn.name ≠ "runtime.NumGoroutine")

theorem args_len {w : World} {ok : Nat → Prop} {η : Nat → Value} : ∀ {l : List Sh} {d : ShD l} {vs : List Value}, ArgsRep w ok η l d vs → vs.length = l.length
  | [], _, [], _ => rfl
  | _ :: _, _, [], h => h.elim
  | [], _, _ :: _, h => h.elim
  | s :: l, d, v :: vs, h => by simp [args_len h.2]
theorem args_slot {w : World} {ok : Nat → Prop} {η : Nat → Value} : ∀ {l : List Sh} {d : ShD l} {vs : List Value} {i : Nat}, ArgsRep w ok η l d vs → (∀ t ∈ l, t.under 0) →
    ∀ t, (argSlots i l d t).s.under 0 ∧ (argSlots i l d t = .undef ∨ ∃ j v, t = i + j ∧ vs[j]? = some v ∧ VS w ok η (argSlots i l d t) v)
  | [], _, [], i, _, _, t => ⟨trivial, .inl rfl⟩
  | _ :: _, _, [], _, h, _, _ => h.elim
  | [], _, _ :: _, _, h, _, _ => h.elim
  | s :: l, d, v :: vs, i, h, hu, t => by
    simp only [argSlots]
    by_cases e : t = i
    · subst e
      rw [upd_same]
      exact ⟨hu s (by simp), .inr ⟨0, v, rfl, rfl, h.1⟩⟩
    · rw [upd_ne _ _ e]
      obtain ⟨h1, h2⟩ := args_slot (i := i + 1) h.2 (fun t ht => hu t (by simp [ht])) t
      refine ⟨h1, h2.imp id ?_⟩
      rintro ⟨j, u, rfl, h3, h4⟩
      exact ⟨j + 1, u, by omega, by simpa using h3, h4⟩

theorem ResRep_ok {B : Nat} {w : World} {ok ok' : Nat → Prop} {η : Nat → Value} (hok : ∀ b, ok b → ok' b) : ∀ {l : List RS} {d : RSD l} {vs : List Value} {own : List Nat}, (∀ t ∈ l, t.under 0) → ResRep B w ok η l d vs own → ResRep B w ok' η l d vs own
  | [], _, [], _, _, h => h
  | .val s :: l, d, v :: vs, own, hu, h => ⟨V_ok hok (hu (.val s) (by simp)).1 h.1, ResRep_ok hok (fun t ht => hu t (by simp [ht])) h.2⟩
  | .own e a :: l, d, v :: vs, own, hu, h => by
    obtain ⟨m, own', h1, h2, h3, h4⟩ := h
    exact ⟨m, own', h1, cl_ok (hu (.own e a) (by simp)) hok h2, h3, ResRep_ok hok (fun t ht => hu t (by simp [ht])) h4⟩
  | [], _, _ :: _, _, _, h => h.elim
  | .val _ :: _, _, [], _, _, h => h.elim
  | .own _ _ :: _, _, [], _, _, h => h.elim

theorem sig_of {tt : TT} (hT : TTok P tt) {S : World → Prop} (hS : ∀ w w', S w → Below w.heap.size w w' → S w') {env : Env} (hE : EnvOK P S env) (hm : P.follows .mixedOrders = true) (ann : Ann) {f : Nat} {fn : Func} {s : Sig} (hf : P.funcs[f]? = some fn) (hb : sigB fn s.ins s.outs = true)
    (h : ∀ d, s.f d = funDen tt env ann fn s.ins s.outs d) : SigOK P S f s := by
  simp only [sigB, Bool.and_eq_true] at hb
  obtain ⟨⟨⟨⟨hb1, hb2⟩, hb3⟩, hb4⟩, hb5⟩ := hb
  have hins : ∀ t ∈ s.ins, t.under 0 := fun t ht => underB_under (allB_mem hb3 t ht)
  have houts : ∀ t ∈ s.outs, t.under 0 := fun t ht => RS_under (allB_mem hb4 t ht)
  cases hbody : fn.body with
  | none => rw [hbody] at hb1; cases hb1
  | some c =>
  rw [hbody] at hb1
  refine ⟨hins, houts, ⟨fn, hf, by simpa using hb5, by simp [hbody]⟩, fun d r hr w ok η args hSw hargs => ?_⟩
  rw [h d] at hr
  simp only [funDen, hbody] at hr
  have hlen := args_len hargs
  have hsz : args.size ≤ fn.ntmps := by
    have := Nat.le_of_ble_eq_true hb2
    have e : args.toList.length = args.size := by simp
    omega
  let X : Fr := ⟨fun _ => False, fun b => b < w.heap.size → ok b, S⟩
  have hok : ∀ b, ok b → okOf X.G (fun _ => none) η b := fun b hb => ⟨fun _ => hb, fun l x hx => by cases hx⟩
  have hI : Inv X w fn.ntmps (entry s.ins d) η { tmps := args ++ Array.replicate (fn.ntmps - args.size) undef, defers := [] } w := by
    refine ⟨KeptX.refl _ _ _, fun b hb hlt => absurd hlt (by omega), fun b hb hlt => hb.elim (fun h => absurd hlt (by omega)) (fun h => h.elim), by simp; omega, rfl, fun t => ?_, fun l x hx => (by cases hx), fun l x b hx => (by cases hx), fun l l' x x' b hx => (by cases hx), ⟨fun t => (args_slot (i := 0) hargs hins t).1, fun l x hx => (by cases hx)⟩, fun l hl => (by cases hl)⟩
    show VS w (okOf X.G (fun _ => none) η) η (argSlots 0 s.ins d t) _
    obtain ⟨h1, h2⟩ := args_slot (i := 0) hargs hins t
    rcases h2 with h2 | ⟨j, v, rfl, hv, h2⟩
    · rw [h2]; trivial
    · have : (args ++ Array.replicate (fn.ntmps - args.size) undef).getD (0 + j) undef = v := by
        obtain ⟨hj, hv⟩ := List.getElem?_eq_some_iff.1 hv
        have hj : j < args.size := by simpa using hj
        have hv : args[j] = v := by simpa using hv
        simp [Array.getD, Array.getElem_append, hj, hv]
        omega
      rw [this]
      exact V_ok hok h1 h2
  refine calls_of_wp hf hbody ?_
  refine den_sound hT (X := X) ⟨hE, fun w' hk => hS w w' hSw ⟨hk.os, hk.tape, hk.output, hk.size, fun k hk' => hk.block k hk' (fun h => h)⟩⟩ hm c hb1 hr hI fun e ex a' w' he ⟨st', η', hL, hI', hk⟩ => ?_
  have fin : (bif nodupN (resPl tt st' s.outs fn.results.toList) && allB (fun l => !(memN l (resPl tt st' s.outs fn.results.toList))) (resRd tt st' s.outs fn.results.toList) then resEx tt st' s.outs fn.results.toList else none) = some r →
      a'.defers = [] ∧ ∃ v, (results fn a'.tmps).run P w' = .ok v w' ∧ Back w ok η s.outs r (.returned v) w' := by
    intro hk
    cases hc : nodupN (resPl tt st' s.outs fn.results.toList) && allB (fun l => !(memN l (resPl tt st' s.outs fn.results.toList))) (resRd tt st' s.outs fn.results.toList) with
    | false => rw [hc] at hk; cases hk
    | true =>
    rw [hc, cond_true] at hk
    simp only [Bool.and_eq_true] at hc
    refine ⟨hI'.defers, ?_⟩
    have main : ∀ own0 : Nat → Prop, (∀ b, own0 b → ∃ q ∈ resPl tt st' s.outs fn.results.toList, ∃ x, st'.objs q = some x ∧ blk (η' q) = some b) →
        ∃ vs own, (fn.results.toList.mapM (resM a'.tmps)).run P w' = .ok vs w' ∧ own.Nodup ∧ (∀ b ∈ own, ∃ q ∈ resPl tt st' s.outs fn.results.toList, ∃ x, st'.objs q = some x ∧ blk (η' q) = some b) ∧ ResRep w.heap.size w' (fun b => (b < w.heap.size ∧ ok b) ∨ (w.heap.size ≤ b ∧ ¬ own0 b)) η s.outs r vs own := by
      intro own0 hown0
      refine res_all (η0 := η) hT hI' (fun b hb => hb) houts hk hc.1 ?_ ?_
      · rintro b ⟨h1, h2⟩
        rcases Nat.lt_or_ge b w.heap.size with hlt | hge
        · exact .inl ⟨hlt, h1 hlt⟩
        · right
          refine ⟨hge, fun ho => ?_⟩
          obtain ⟨q, _, x, hx, hq⟩ := hown0 b ho
          exact h2 q x hx hq
      · intro q hq x b hx hb
        right
        refine ⟨?_, fun ho => ?_⟩
        · rcases (hI'.mine q x b hx hb).1 with h | h
          · exact h
          · exact h.elim
        · obtain ⟨q', hq', x', hx', hb'⟩ := hown0 b ho
          have := hI'.apart q q' x x' b hx hx' hb hb'
          subst this
          have := allB_mem hc.2 q hq
          rw [memN_iff.2 hq'] at this
          cases this
    obtain ⟨vs, own, h1, h2, h3, h4⟩ := main (fun b => ∃ q ∈ resPl tt st' s.outs fn.results.toList, ∃ x, st'.objs q = some x ∧ blk (η' q) = some b) (fun b hb => hb)
    refine ⟨resVal vs, ?_, vs, own, rfl, ⟨hI'.kept.os, hI'.kept.tape, hI'.kept.output, hI'.kept.size, fun k hk => hI'.kept.block k hk (fun h => h)⟩, h2, ResRep_ok (fun b hb => hb.imp id fun hb => ⟨hb.1, fun ho => hb.2 (h3 b ho)⟩) houts h4⟩
    have : (fn.results.mapM (resM a'.tmps)).run P w' = .ok vs.toArray w' := by
      rw [Array.mapM_eq_mapM_toList, Sem.run_map, h1]; rfl
    have e : results fn a'.tmps = (do let vs ← fn.results.mapM (resM a'.tmps); pure (if h : vs.size = 1 then vs[0] else .tuple vs)) := by
      rfl
    rw [e, Sem.run_bind, this]
    match vs with
    | [] => rfl
    | [v] => rfl
    | _ :: _ :: _ => rfl
  cases e <;> cases ex <;> simp only [ExR] at he
  · exact fin hk
  · simp at hk
  · exact fin hk
end Go.Rai
