/- A part of the proof of ScriptLines: general lemmas, with no condition of their own. -/
import Derived.Test.YtdmbeajlccebgaaGreatDoorRaiD
import Derived.Test.YtdmbeajlccebgaaGreatDoorRaiC
/- An array of the call's own that is only read from here on: nothing is done, it is told otherwise. -/
set_option linter.unusedVariables false
set_option linter.unusedSimpArgs false
namespace Go.Rai
open Go.RowKit
variable {P : Program}

theorem fzS_single {l : Nat} {a : Sh} {xs : List a.D} : ∀ {s : Sh} {d : s.D}, s.single = true → (fzS l a xs s d).s.single = true
  | .ref l' b, d, h => by simp only [fzS]; split <;> rfl
  | .pair _ _, _, h => by simp [Sh.single] at h
  | .tup _ _, _, h => by simp [Sh.single] at h
  | .unit, _, h => by simp [Sh.single] at h
  | .undef, _, _ => rfl
  | .int _, _, _ => rfl
  | .bool, _, _ => rfl
  | .str, _, _ => rfl
  | .slice _, _, _ => rfl
  | .lit _, _, _ => rfl
  | .nil, _, _ => rfl
  | .itf, _, _ => rfl
  | .pnil, _, _ => rfl
  | .opt _, _, _ => rfl
  | .ptr _ _, _, _ => rfl
  | .elt _ _ _, _, _ => rfl
  | .adr _, _, _ => rfl
  | .fn _ _, _, _ => rfl
theorem fzS_ref {l l' : Nat} {a b : Sh} {xs : List a.D} {d : (Sh.ref l' b).D} : (fzS l a xs (.ref l' b) d = ⟨.slice a, xs⟩ ∧ l' = l) ∨ fzS l a xs (.ref l' b) d = ⟨.ref l' b, d⟩ := by
  simp only [fzS]
  by_cases hc : Nat.beq l' l = true ∧ b = a
  · rw [if_pos hc]; exact .inl ⟨rfl, Nat.eq_of_beq_eq_true hc.1⟩
  · rw [if_neg hc]; exact .inr rfl
theorem fzS_under {l n : Nat} {a : Sh} {xs : List a.D} (ha : a.under 0) : ∀ {s : Sh} {d : s.D}, s.under n → (fzS l a xs s d).s.under n
  | .ref l' b, d, h => by
    rcases fzS_ref (l := l) (l' := l') (a := a) (b := b) (xs := xs) (d := d) with ⟨e, _⟩ | e
    · rw [e]; exact ha
    · rw [e]; exact h
  | .pair p q, d, h => ⟨fzS_under ha h.1, fzS_under ha h.2⟩
  | .tup p q, d, h => ⟨fzS_under ha h.1, fzS_under ha h.2⟩
  | .unit, _, h => h
  | .undef, _, h => h
  | .int _, _, h => h
  | .bool, _, h => h
  | .str, _, h => h
  | .slice _, _, h => h
  | .lit _, _, h => h
  | .nil, _, h => h
  | .itf, _, h => h
  | .pnil, _, h => h
  | .opt _, _, h => h
  | .ptr _ _, _, h => h
  | .elt _ _ _, _, h => h
  | .adr _, _, h => h
  | .fn _ _, _, h => h

section
variable {w : World} {ok ok' : Nat → Prop} {η : Nat → Value} {l : Nat} {a : Sh} {xs : List a.D}
theorem fzS_C (hok : ∀ b, ok b → ok' b) (hl : C w ok' η (.slice a) xs [η l]) : ∀ {s : Sh} {d : s.D} {cs : List Value} {n : Nat}, s.under n → C w ok η s d cs → C w ok' η (fzS l a xs s d).s (fzS l a xs s d).d cs
  | .ref l' b, d, cs, n, hu, h => by
    rcases fzS_ref (l := l) (l' := l') (a := a) (b := b) (xs := xs) (d := d) with ⟨e, e'⟩ | e
    · rw [e, h.1, e']; exact hl
    · rw [e]; exact h
  | .pair p q, d, cs, n, hu, h => by
    obtain ⟨hs, v, r, rfl, h1, h2⟩ := h
    exact ⟨fzS_single hs, v, r, rfl, fzS_C hok hl hu.1 h1, fzS_C hok hl hu.2 h2⟩
  | .tup _ _, _, _, _, _, h => h.elim
  | .unit, _, _, _, hu, h => C_ok hok hu h
  | .undef, _, _, _, hu, h => C_ok hok hu h
  | .int _, _, _, _, hu, h => C_ok hok hu h
  | .bool, _, _, _, hu, h => C_ok hok hu h
  | .str, _, _, _, hu, h => C_ok hok hu h
  | .slice _, _, _, _, hu, h => C_ok hok hu h
  | .lit _, _, _, _, hu, h => C_ok hok hu h
  | .nil, _, _, _, hu, h => C_ok hok hu h
  | .itf, _, _, _, hu, h => C_ok hok hu h
  | .pnil, _, _, _, hu, h => C_ok hok hu h
  | .opt _, _, _, _, hu, h => C_ok hok hu h
  | .ptr _ _, _, _, _, hu, h => C_ok hok hu h
  | .elt _ _ _, _, _, _, hu, h => C_ok hok hu h
  | .adr _, _, _, _, hu, h => C_ok hok hu h
  | .fn _ _, _, _, _, hu, h => C_ok hok hu h
theorem fzS_V1 (hok : ∀ b, ok b → ok' b) (hl : C w ok' η (.slice a) xs [η l]) {s : Sh} {d : s.D} {v : Value} {n : Nat} (hu : s.under n) (h : V1 w ok η s d v) : V1 w ok' η (fzS l a xs s d).s (fzS l a xs s d).d v := by
  cases s
  case undef => trivial
  case unit => exact h
  case tup => exact h.elim
  case pair p q =>
    obtain ⟨cs, rfl, h⟩ := h
    exact ⟨cs, rfl, fzS_C hok hl hu h⟩
  case ref l' b =>
    have hc : C w ok η (.ref l' b) d [v] := h
    rcases fzS_ref (l := l) (l' := l') (a := a) (b := b) (xs := xs) (d := d) with ⟨e, e'⟩ | e
    · rw [e]
      have : v = η l' := by simpa using hc.1
      rw [this, e']; exact hl
    · rw [e]; exact hc
  all_goals exact fzS_C hok hl (cs := [v]) hu h
theorem fzS_V (hok : ∀ b, ok b → ok' b) (hl : C w ok' η (.slice a) xs [η l]) {s : Sh} {d : s.D} {v : Value} {n : Nat} (hu : s.under n) (h : V w ok η s d v) : V w ok' η (fzS l a xs s d).s (fzS l a xs s d).d v := by
  have ct : ∀ {s : Sh} {d : s.D} {vs : List Value}, s.under n → CT w ok η (V1 w ok η) s d vs → CT w ok' η (V1 w ok' η) (fzS l a xs s d).s (fzS l a xs s d).d vs := by
    intro s
    induction s with
    | tup p q ihp ihq =>
      intro d vs hu h
      obtain ⟨v, r, rfl, h1, h2⟩ := h
      exact ⟨v, r, rfl, fzS_V1 hok hl hu.1 h1, ihq hu.2 h2⟩
    | unit => intro d vs hu h; exact h
    | _ => intro d vs hu h; exact h.elim
  cases s
  case tup p q =>
    obtain ⟨vs, rfl, h⟩ := h
    exact ⟨vs, rfl, ct (s := .tup p q) hu h⟩
  case ref l' b =>
    have h1 := fzS_V1 hok hl (s := .ref l' b) (d := d) (v := v) hu h
    rcases fzS_ref (l := l) (l' := l') (a := a) (b := b) (xs := xs) (d := d) with ⟨e, e'⟩ | e
    · rw [e] at h1 ⊢; exact h1
    · rw [e] at h1 ⊢; exact h1
  all_goals exact fzS_V1 (d := d) (v := v) hok hl hu h
end

theorem arr_slice {w : World} {ok : Nat → Prop} {η : Nat → Value} {l e : Nat} {a : Sh} {xs : List a.D} (h : OK1 w ok η l (.arr e a xs)) (hb : ∀ b, blk (η l) = some b → ok b) : C w ok η (.slice a) xs [η l] := by
  rcases h with ⟨h1, h2⟩ | ⟨g, cap, rw', h1, h2, h3, h4, h5, h6⟩
  · rw [h1]
    exact ⟨none, 0, by simp [h2], ⟨by omega, fun _ => rfl⟩, .inl h2⟩
  · rw [h1]
    refine ⟨_, cap, rfl, ⟨h4, fun hA => by cases hA⟩, .inr ⟨⟨g, 0, none⟩, rw'.toList.take (xs.length * a.cells), rfl, ?_, ?_, ?_⟩⟩
    · intro j v hv
      refine ⟨hb g (by rw [h1]; rfl), ?_⟩
      rw [add_mid, cell_of_row w g _ rw' e (0, 0) h2]
      rw [List.getElem?_take] at hv
      split at hv
      · simpa using hv
      · cases hv
    · have : xs.length * a.cells ≤ cap * a.cells := Nat.mul_le_mul_right _ h4
      simp; omega
    · intro i hi
      have : seg (rw'.toList.take (xs.length * a.cells)) (i * a.cells) a.cells = seg rw'.toList (i * a.cells) a.cells := by
        have hm : (i + 1) * a.cells ≤ xs.length * a.cells := Nat.mul_le_mul_right _ hi
        have e : (i + 1) * a.cells = i * a.cells + a.cells := Nat.succ_mul _ _
        apply List.ext_getElem?
        intro q
        rw [seg_get, seg_get]
        by_cases hq : q < a.cells
        · rw [if_pos hq, if_pos hq, List.getElem?_take, if_pos (by omega)]
        · rw [if_neg hq, if_neg hq]
      rw [this]
      exact h6 i hi

theorem fz1_inv {X : Fr} {w0 : World} {n : Nat} {st : St} {η : Nat → Value} {a : Act} {w : World} (hI : Inv X w0 n st η a w) (l : Nat) : Later st η (fz1 st l) η ∧ Inv X w0 n (fz1 st l) η a w := by
  unfold fz1
  split
  case h_2 => exact ⟨Later.refl _ _, hI⟩
  rename_i e s xs hl
  cases hlk : st.lockO l with
  | true => rw [cond_true]; exact ⟨Later.refl _ _, hI⟩
  | false =>
  rw [cond_false]
  have hs : s.under 0 := (hI.und.objs l _ hl).1
  have hcase' : ∀ q x, fzO st l s xs q = some x → q ≠ l ∧ ∃ y, st.objs q = some y ∧ (x = y ∨ x = fzOb l s xs y) := by
    intro q x hx
    unfold fzO at hx
    cases hb : Nat.beq q l with
    | true => rw [hb, cond_true] at hx; cases hx
    | false =>
      rw [hb, cond_false] at hx
      refine ⟨fun h => by subst h; simp at hb, ?_⟩
      cases hlq : st.lockO q with
      | true => rw [hlq, cond_true] at hx; exact ⟨x, hx, .inl rfl⟩
      | false =>
        rw [hlq, cond_false] at hx
        split at hx
        · rename_i y hy
          simp only [Option.some.injEq] at hx
          exact ⟨y, hy, .inr hx.symm⟩
        · cases hx
  have hok : ∀ b, okOf X.G st.objs η b → okOf X.G (fzO st l s xs) η b := fun b hb => ⟨hb.1, fun q x hx => by
    obtain ⟨_, y, hy, _⟩ := hcase' q x hx
    exact hb.2 q y hy⟩
  have hblk : ∀ b, blk (η l) = some b → okOf X.G (fzO st l s xs) η b := fun b hb => ⟨hI.gold b (hI.mine l _ b hl hb).1, fun q x hx hq => by
    obtain ⟨hne, y, hy, _⟩ := hcase' q x hx
    exact hne (hI.apart q l y _ b hy hl hq hb)⟩
  have hsl : C w (okOf X.G (fzO st l s xs) η) η (.slice s) xs [η l] := by
    refine arr_slice (e := e) ?_ hblk
    rcases hI.objs l _ hl with h | ⟨g, cap, cs, h1, h2, h3, h4, h5, h6⟩
    · exact .inl h
    · exact .inr ⟨g, cap, cs, h1, h2, h3, h4, h5, fun i hi => C_ok (n := 0) hok hs (h6 i hi)⟩
  refine ⟨⟨fun _ _ => rfl, Nat.le_refl _, rfl, rfl, fun i hi => ?_, fun q hq => ?_⟩, ⟨hI.kept, hI.gnew, hI.gold, hI.size, hI.defers, fun t => ?_, fun q x hx => ?_, fun q x b hx hb => ?_, fun q q' x x' b hx hx' hb hb' => ?_, ⟨fun t => ?_, fun q x hx => ?_⟩, hI.locked⟩⟩
  · show (bif st.lockS i then st.slots i else _) = _
    rw [hi]; rfl
  · show fzO st l s xs q = _
    have hne : Nat.beq q l = false := by
      cases hb : Nat.beq q l with
      | false => rfl
      | true => rw [Nat.eq_of_beq_eq_true hb, hlk] at hq; cases hq
    unfold fzO
    simp only [hne, cond_false, hq, cond_true]
  · show VS w (okOf X.G (fzO st l s xs) η) η (bif st.lockS t then st.slots t else fzS l s xs (st.slots t).s (st.slots t).d) _
    cases st.lockS t with
    | true => exact V_ok hok (hI.und.slots t) (hI.slots t)
    | false => exact fzS_V hok hsl (hI.und.slots t) (hI.slots t)
  · obtain ⟨_, y, hy, hxy⟩ := hcase' q x hx
    have hold := hI.objs q y hy
    have hu := (hI.und.objs q y hy).1
    have same : OK1 w (okOf X.G (fzO st l s xs) η) η q y := by
      cases y with
      | box t d =>
        obtain ⟨b, cs, T, h1, h2, h3⟩ := hold
        exact ⟨b, cs, T, h1, h2, C_ok hok hu h3⟩
      | arr e' t ys =>
        rcases hold with h | ⟨g, cap, cs, h1, h2, h3, h4, h5, h6⟩
        · exact .inl h
        · exact .inr ⟨g, cap, cs, h1, h2, h3, h4, h5, fun i hi => C_ok (n := 0) hok hu (h6 i hi)⟩
    rcases hxy with rfl | rfl
    · exact same
    · cases y with
      | arr e' t ys => exact same
      | box t d =>
        obtain ⟨b, cs, T, h1, h2, h3⟩ := hold
        exact ⟨b, cs, T, h1, h2, fzS_C hok hsl hu h3⟩
  · obtain ⟨_, y, hy, _⟩ := hcase' q x hx
    exact hI.mine q y b hy hb
  · obtain ⟨_, y, hy, _⟩ := hcase' q x hx
    obtain ⟨_, y', hy', _⟩ := hcase' q' x' hx'
    exact hI.apart q q' y y' b hy hy' hb hb'
  · show (bif st.lockS t then st.slots t else fzS l s xs (st.slots t).s (st.slots t).d).s.under st.next
    cases st.lockS t with
    | true => exact hI.und.slots t
    | false => exact fzS_under hs (hI.und.slots t)
  · obtain ⟨_, y, hy, hxy⟩ := hcase' q x hx
    refine ⟨?_, (hI.und.objs q y hy).2⟩
    have hu := (hI.und.objs q y hy).1
    rcases hxy with rfl | rfl
    · exact hu
    · cases y with
      | arr e' t ys => exact hu
      | box t d => exact fzS_under hs hu
theorem frz_inv {X : Fr} {w0 : World} {n : Nat} {η : Nat → Value} {a : Act} {w : World} : ∀ (ls : List Nat) {st : St}, Inv X w0 n st η a w → Later st η (frz ls st) η ∧ Inv X w0 n (frz ls st) η a w
  | [], st, hI => ⟨Later.refl _ _, hI⟩
  | l :: r, st, hI => by
    obtain ⟨h1, h2⟩ := fz1_inv hI l
    obtain ⟨h3, h4⟩ := frz_inv r h2
    exact ⟨h1.trans h3, h4⟩
end Go.Rai

/- One operation of any kind as a step; a region's operations in the text's order. -/
set_option linter.unusedVariables false
set_option linter.unusedSimpArgs false
namespace Go.Rai
open Go.RowKit
variable {P : Program}

theorem step_op {R : Type} {tt : TT} (hT : TTok P tt) {env : Env} {X : Fr} {w0 : World} (hE : EnvAt P X w0 env) {ow : List Nat} {o : Oper} {st : St} {k : St → Option R} {r : R} {n : Nat} {η : Nat → Value} {a : Act} {w : World}
    (hI : Inv X w0 n st η a w) (hd : ∀ d, o.dst = some d → d < n) (h : stepOp tt env ow o st k = some r)
    {K : Act → World → Prop} {Q : Exit → Act → World → Prop} (hK : ∀ a' w', Post X w0 n st η k r a' w' → K a' w') : o.wp P a w K Q := by
  unfold stepOp at h
  split at h
  · rename_i t x y e
    split at h
    · rename_i hdst
      exact step_store hT e hdst hI h hK
    · cases h
  · rename_i args argTypes e
    split at h
    · rename_i x y t t' ha ht
      by_cases htt : Nat.beq t t' = true
      · rw [htt, cond_true] at h
        obtain rfl := Nat.eq_of_beq_eq_true htt
        obtain rfl : args = #[x, y] := by cases args; simp_all
        obtain rfl : argTypes = #[t, t] := by cases argTypes; simp_all
        obtain ⟨dst, op, ty, pos, after, guard⟩ := o
        obtain rfl : op = _ := e
        exact step_append hT hI hd h hK
      · rw [Bool.not_eq_true] at htt
        rw [htt, cond_false] at h
        obtain rfl : args = #[x, y] := by cases args; simp_all
        obtain rfl : argTypes = #[t, t'] := by cases argTypes; simp_all
        obtain ⟨dst, op, ty, pos, after, guard⟩ := o
        obtain rfl : op = _ := e
        exact step_zeros hT hI hd h hK
    · cases h
  · rename_i f args argTypes e
    split at h
    · rename_i g c d ef
      cases hc : capOk c with
      | false => rw [hc, cond_false] at h; cases h
      | true =>
        rw [hc, cond_true] at h
        obtain ⟨dst, op, ty, pos, after, guard⟩ := o
        obtain rfl : op = _ := e
        exact step_sigs hE hI hd hc ef hK (env g) (fun s hs => hs) h
    · cases h
  · rename_i t l c e
    obtain ⟨dst, op, ty, pos, after, guard⟩ := o
    obtain rfl : op = _ := e
    exact step_make hT hI hd h hK
  · rename_i t x hi e
    cases how : memO ow o.dst with
    | true =>
      rw [how, cond_true] at h
      obtain ⟨dst, op, ty, pos, after, guard⟩ := o
      obtain rfl : op = _ := e
      exact step_sub hT hI hd h hK
    | false =>
      rw [how, cond_false] at h
      cases hlk : isLocked st o.dst with
      | true => rw [hlk, cond_true] at h; cases h
      | false =>
        rw [hlk, cond_false] at h
        exact step_act hT hI hI.kept.size hd hlk h hK
  · rename_i t n parts e
    cases how : memO ow o.dst with
    | true =>
      rw [how, cond_true] at h
      obtain ⟨dst, op, ty, pos, after, guard⟩ := o
      obtain rfl : op = _ := e
      exact step_lit hT hI hd h hK
    | false =>
      rw [how, cond_false] at h
      cases hlk : isLocked st o.dst with
      | true => rw [hlk, cond_true] at h; cases h
      | false =>
        rw [hlk, cond_false] at h
        exact step_act hT hI hI.kept.size hd hlk h hK
  · cases hlk : isLocked st o.dst with
    | true => rw [hlk, cond_true] at h; cases h
    | false =>
      rw [hlk, cond_false] at h
      exact step_act hT hI hI.kept.size hd hlk h hK

theorem step_opF {R : Type} {tt : TT} (hT : TTok P tt) {env : Env} {X : Fr} {w0 : World} (hE : EnvAt P X w0 env) {ow : List Nat} {o : Oper} {st : St} {k : St → Option R} {r : R} {n : Nat} {η : Nat → Value} {a : Act} {w : World}
    (hI : Inv X w0 n st η a w) (hd : ∀ d, o.dst = some d → d < n) (h : stepF tt env ow o st k = some r)
    {K : Act → World → Prop} {Q : Exit → Act → World → Prop} (hK : ∀ a' w', Post X w0 n st η k r a' w' → K a' w') : o.wp P a w K Q := by
  obtain ⟨h1, h2⟩ := frz_inv (needs env ow o st) hI
  exact step_op hT hE h2 hd h fun a' w' ⟨st', η', hL, hI', hk⟩ => hK a' w' ⟨st', η', h1.trans hL, hI', hk⟩

def wpChain (P : Program) (ops : Array Oper) (Q : Exit → Act → World → Prop) : List (Nat × Oper) → (Act → World → Prop) → Act → World → Prop
  | [], K => K
  | p :: r, K => wpOp P ops Q p.1 (wpChain P ops Q r K)
theorem wpChain_append {ops : Array Oper} {Q : Exit → Act → World → Prop} (l l' : List (Nat × Oper)) (K : Act → World → Prop) : wpChain P ops Q (l ++ l') K = wpChain P ops Q l (wpChain P ops Q l' K) := by
  induction l with
  | nil => rfl
  | cons p l ih => simp only [List.cons_append, wpChain, ih]

theorem gEq_eq : ∀ {a b : Option (Nat × Bool)}, gEq a b = true → a = b
  | none, none, _ => rfl
  | some (a, b), some (c, d), h => by
    simp only [gEq, Bool.and_eq_true, beq_iff_eq] at h
    rw [Nat.eq_of_beq_eq_true h.1, h.2]
  | none, some _, h => by cases h
  | some _, none, h => by cases h

/-- the guard under which a piece of a region stands says yes -/
def GC (ops : Array Oper) (st : St) : Option (Nat × Bool) → Prop
  | none => True
  | some (j, want) => ∃ d, dstOf ops j = some d ∧ st.lockS d = true ∧ st.slots d = ⟨.bool, want⟩
theorem GC.later {ops : Array Oper} {st st' : St} {η η' : Nat → Value} {g : Option (Nat × Bool)} (h : GC ops st g) (hL : Later st η st' η') : GC ops st' g := by
  cases g with
  | none => trivial
  | some p =>
    obtain ⟨d, h1, h2, h3⟩ := h
    exact ⟨d, h1, by rw [hL.lockS]; exact h2, (hL.slots d h2).trans h3⟩

theorem dstOf_at {ops : Array Oper} {j d : Nat} (h : dstOf ops j = some d) : ∃ o, ops[j]? = some o ∧ o.dst = some d := by
  unfold dstOf at h
  split at h
  · rename_i o ho
    exact ⟨o, by simpa using ho, h⟩
  · cases h
theorem yielded_of {ops : Array Oper} {j d : Nat} (h : dstOf ops j = some d) (tmps : Array Value) : yielded ops tmps j = match tmps[d]? with | some (.bool b) => some b | _ => none := by
  obtain ⟨o, h1, h2⟩ := dstOf_at h
  simp only [yielded, h1, h2, Option.bind_some]
  rfl
theorem getD_bool {tmps : Array Value} {d : Nat} {b : Bool} (h : tmps.getD d undef = .bool b) : tmps[d]? = some (.bool b) := by
  rw [Array.getD_eq_getD_getElem?] at h
  cases hq : tmps[d]? with
  | none => rw [hq] at h; simp [undef] at h
  | some v => rw [hq] at h; simp at h; rw [h]

theorem wanted_g {ops : Array Oper} {st : St} {o : Oper} {g : Option (Nat × Bool)} (hg : GC ops st g) (ho : o.guard = none ∨ o.guard = g) {X : Fr} {w0 : World} {n : Nat} {η : Nat → Value} {a : Act} {w : World} (hI : Inv X w0 n st η a w) :
    Region.wanted o (yielded ops a.tmps) = true := by
  unfold Region.wanted
  rcases ho with ho | ho
  · rw [ho]
  · rw [ho]
    cases g with
    | none => rfl
    | some p =>
      obtain ⟨j, want⟩ := p
      obtain ⟨d, h1, h2, h3⟩ := hg
      have := hI.slots d
      rw [h3] at this
      have hv := V_bool this rfl
      simp [yielded_of h1, getD_bool hv]

theorem splitAtPick_spec {d : Nat} : ∀ {l inner rest : List (Nat × Oper)} {p : Nat × Oper}, splitAtPick d l = (inner, some (p, rest)) → l = inner ++ p :: rest ∧ isPickOf d p.2 = true
  | [], inner, rest, p, h => by simp [splitAtPick] at h
  | o :: r, inner, rest, p, h => by
    simp only [splitAtPick] at h
    cases hp : isPickOf d o.2 with
    | true =>
      rw [hp, cond_true] at h
      simp only [Prod.mk.injEq, Option.some.injEq] at h
      obtain ⟨rfl, rfl, rfl⟩ := h
      exact ⟨rfl, hp⟩
    | false =>
      rw [hp, cond_false] at h
      simp only [Prod.mk.injEq] at h
      obtain ⟨rfl, h⟩ := h
      have := splitAtPick_spec (l := r) (inner := (splitAtPick d r).1) (rest := rest) (p := p) (by rw [← h])
      exact ⟨by rw [List.cons_append]; congr 1; exact this.1, this.2⟩

theorem memN_iff {n : Nat} : ∀ {l : List Nat}, memN n l = true ↔ n ∈ l
  | [] => by simp [memN]
  | m :: r => by
    simp only [memN, Bool.or_eq_true, List.mem_cons, memN_iff]
    constructor
    · rintro (h | h)
      · exact .inl (Nat.eq_of_beq_eq_true h)
      · exact .inr h
    · rintro (h | h)
      · left; subst h; simp
      · exact .inr h
theorem mem_dsts {l : List (Nat × Oper)} {d : Nat} : d ∈ dsts l ↔ ∃ p ∈ l, p.2.dst = some d := by
  induction l with
  | nil => simp [dsts]
  | cons o r ih =>
    simp only [dsts]
    cases hd : o.2.dst with
    | none => simp [ih, hd]
    | some q => simp [ih, hd, eq_comm]

/-- WHAT A GUARD SHUTS OUT IS PASSED OVER. -/
theorem skip_chain {ops : Array Oper} {Q : Exit → Act → World → Prop} {j dj : Nat} {want b : Bool} (hj : dstOf ops j = some dj) (hb : b ≠ want) {K : Act → World → Prop} {w : World} : ∀ {l : List (Nat × Oper)} {seen : List Nat} {a : Act},
    (∀ p ∈ l, ops[p.1]? = some p.2) → dj ∉ dsts l → skipsB ops j want seen l = true → a.tmps.getD dj undef = .bool b → (∀ d ∈ seen, ∀ c, a.tmps[d]? ≠ some (.bool c)) →
    (∀ a', a'.tmps.size = a.tmps.size → a'.defers = a.defers → (∀ t, t ∉ dsts l → a'.tmps.getD t undef = a.tmps.getD t undef) → K a' w) → wpChain P ops Q l K a w
  | [], seen, a, _, _, _, _, _, hK => hK a rfl rfl (fun _ _ => rfl)
  | p :: l, seen, a, hops, hdj, hs, hv, hseen, hK => by
    simp only [skipsB, Bool.and_eq_true] at hs
    obtain ⟨h1, h2⟩ := hs
    have hno : Region.wanted p.2 (yielded ops a.tmps) = false := by
      unfold Region.wanted
      split at h1
      · cases h1
      · rename_i j' w' hg
        rw [hg]
        simp only [Bool.or_eq_true, Bool.and_eq_true, beq_iff_eq] at h1
        rcases h1 with ⟨h3, h4⟩ | h3
        · have h3 := Nat.eq_of_beq_eq_true h3
          subst h3; subst h4
          simp [yielded_of hj, getD_bool hv, hb]
        · split at h3
          · rename_i d hd
            have hm := memN_iff.1 h3
            show (yielded ops a.tmps j' == some w') = false
            rw [yielded_of hd]
            cases hq : a.tmps[d]? with
            | none => simp
            | some v =>
              have := hseen d hm
              rw [hq] at this
              cases v <;> simp_all
          · cases h3
    have hrest : dj ∉ dsts l := fun h => hdj (by
      obtain ⟨q, hq, hd⟩ := mem_dsts.1 h
      exact mem_dsts.2 ⟨q, by simp [hq], hd⟩)
    simp only [wpChain, wpOp]
    rw [hops p (by simp)]
    simp only [hno, Bool.false_eq_true, if_false]
    have hput : ∀ t, p.2.dst ≠ some t → (a.put p.2.dst undef).tmps.getD t undef = a.tmps.getD t undef := by
      intro t ht
      cases hd : p.2.dst with
      | none => rfl
      | some d =>
        rw [getD_put_any, if_neg]
        rintro ⟨rfl, _⟩
        exact ht hd
    refine skip_chain hj hb (fun q hq => hops q (by simp [hq])) hrest h2 ?_ ?_ ?_
    · rw [hput dj (fun hd => hdj (mem_dsts.2 ⟨p, by simp, hd⟩))]
      exact hv
    · intro d hd c hc
      have hc' : (a.put p.2.dst undef).tmps.getD d undef = .bool c := by rw [Array.getD_eq_getD_getElem?, hc]; rfl
      cases hpd : p.2.dst with
      | none =>
        rw [hpd] at hd hc
        exact hseen d hd c hc
      | some e =>
        rw [hpd] at hd hc'
        rw [getD_put_any] at hc'
        by_cases hcond : d = e ∧ e < a.tmps.size
        · rw [if_pos hcond] at hc'; cases hc'
        · rw [if_neg hcond] at hc'
          rcases List.mem_cons.1 hd with rfl | hd
          · have : ¬ d < a.tmps.size := fun h => hcond ⟨rfl, h⟩
            have hn := getD_bool hc'
            rw [Array.getElem?_eq_none (by omega)] at hn
            cases hn
          · exact hseen d hd c (getD_bool hc')
    · intro a' hs hdf ht
      refine hK a' (by rw [hs, put_size]) (by rw [hdf, put_defers']) fun t hnt => ?_
      rw [ht t (fun h => hnt (by
        obtain ⟨q, hq, hd⟩ := mem_dsts.1 h
        exact mem_dsts.2 ⟨q, by simp [hq], hd⟩))]
      exact hput t (fun hd => hnt (mem_dsts.2 ⟨p, by simp, hd⟩))
end Go.Rai

/- A region's operations in the text's order come to what 'evalOps' says. -/
set_option linter.unusedVariables false
set_option linter.unusedSimpArgs false
namespace Go.Rai
open Go.RowKit
variable {P : Program}

theorem blt_lt {a b : Nat} (h : Nat.blt a b = true) : a < b := by rw [Nat.blt_eq] at h; exact h
theorem lt_blt {a b : Nat} (h : a < b) : Nat.blt a b = true := by rw [Nat.blt_eq]; exact h
theorem anyB_false {α : Type} {p : α → Bool} : ∀ {l : List α}, anyB p l = false → ∀ x ∈ l, p x = false
  | [], _, x, hx => by simp at hx
  | a :: l, h, x, hx => by
    simp only [anyB, Bool.or_eq_false_iff] at h
    rcases List.mem_cons.1 hx with rfl | hx
    · exact h.1
    · exact anyB_false h.2 x hx
theorem killS_in {f : Nat → SV} {l : List Nat} {i : Nat} (h : i ∈ l) : killS f l i = .undef := by
  unfold killS; rw [memN_iff.2 h]; rfl
theorem killS_out {f : Nat → SV} {l : List Nat} {i : Nat} (h : i ∉ l) : killS f l i = f i := by
  unfold killS
  cases hm : memN i l with
  | true => exact absurd (memN_iff.1 hm) h
  | false => rfl

theorem evalOps_sound {tt : TT} (hT : TTok P tt) {env : Env} {X : Fr} {w0 : World} (hE : EnvAt P X w0 env) {ow : List Nat} {ops : Array Oper} {Q : Exit → Act → World → Prop} {n : Nat} : ∀ (fuel : Nat) {R : Type} {g : Option (Nat × Bool)} {l : List (Nat × Oper)} {st : St} {k : St → Option R} {r : R} {η : Nat → Value} {a : Act} {w : World} {K : Act → World → Prop},
    evalOps tt env ow ops fuel g l st k = some r → Inv X w0 n st η a w → (∀ p ∈ l, ops[p.1]? = some p.2) → (∀ p ∈ l, ∀ d, p.2.dst = some d → d < n) → GC ops st g → (∀ a' w', Post X w0 n st η k r a' w' → K a' w') → wpChain P ops Q l K a w
  | 0, R, g, l, st, k, r, η, a, w, K, h, _, _, _, _, _ => by simp [evalOps] at h
  | fuel + 1, R, g, [], st, k, r, η, a, w, K, h, hI, _, _, _, hK => hK a w ⟨st, η, Later.refl st η, hI, by simpa [evalOps] using h⟩
  | fuel + 1, R, g, (i, o) :: rest, st, k, r, η, a, w, K, h, hI, hops, hdst, hG, hK => by
    simp only [evalOps] at h
    cases hgd : (gEq o.guard none || gEq o.guard g) with
    | true =>
      rw [hgd, cond_true] at h
      have hwant : Region.wanted o (yielded ops a.tmps) = true := wanted_g hG ((Bool.or_eq_true _ _ ▸ hgd).imp gEq_eq gEq_eq) hI
      simp only [wpChain, wpOp]
      rw [hops (i, o) (by simp)]
      simp only [hwant, if_true]
      refine .inl (step_opF hT hE hI (hdst (i, o) (by simp)) h fun a' w' hP => ?_)
      obtain ⟨st', η', hL, hI', hk'⟩ := hP
      exact evalOps_sound hT hE fuel hk' hI' (fun p hp => hops p (by simp [hp])) (fun p hp => hdst p (by simp [hp])) (hG.later hL) fun a'' w'' ⟨st'', η'', hL', hI'', hk''⟩ => hK a'' w'' ⟨st'', η'', hL.trans hL', hI'', hk''⟩
    | false =>
      rw [hgd, cond_false] at h
      split at h
      case h_1 => cases h
      rename_i j want hguard
      split at h
      case h_1 => cases h
      rename_i dj hdj
      split at h
      case h_2 => cases h
      rename_i inner pi p rest' hsplit
      split at h
      case h_2 => cases h
      rename_i b c x y hb hpop
      obtain ⟨hlist, hpick⟩ := splitAtPick_spec hsplit
      obtain rfl : c = .tmp dj := by
        simp only [isPickOf, hpop] at hpick
        split at hpick
        · rename_i e
          injection e with e1 e2 e3
          rw [e1, Nat.eq_of_beq_eq_true hpick]
        · cases hpick
      cases hchk : (memN dj (dsts inner) || !(skipsB ops j want [] inner) || !(gEq p.guard none || gEq p.guard g) || isLocked st p.dst || anyB st.lockS (dsts inner)) with
      | true => rw [hchk, cond_true] at h; cases h
      | false =>
      rw [hchk, cond_false] at h
      simp only [Bool.or_eq_false_iff, Bool.not_eq_false'] at hchk
      obtain ⟨⟨⟨⟨hc1, hc2⟩, hc3⟩, hc4⟩, hc5⟩ := hchk
      have hdj' : dj ∉ dsts inner := fun hm => by rw [memN_iff.2 hm] at hc1; cases hc1
      have hnolock := anyB_false hc5
      split at h
      case h_2 => cases h
      rename_i other hother
      obtain ⟨r0, hr0, h⟩ := bind_some h
      have hmemi : ∀ q ∈ inner, q ∈ (i, o) :: rest := fun q hq => by rw [hlist]; simp [hq]
      have hmemr : ∀ q ∈ rest', q ∈ (i, o) :: rest := fun q hq => by rw [hlist]; simp [hq]
      have hmemp : (pi, p) ∈ (i, o) :: rest := by rw [hlist]; simp
      have hdjv : a.tmps.getD dj undef = .bool b := by
        have := hI.slots dj
        rw [hb] at this
        exact V_bool this rfl
      -- the state in which the pick is made
      let stK : St := { st with slots := killS st.slots (dsts inner) }
      have hLK : Later st η stK η := ⟨fun _ _ => rfl, Nat.le_refl _, rfl, rfl, fun i hi => killS_out (fun hm => by rw [hnolock i hm] at hi; cases hi), fun _ _ => rfl⟩
      have hGK : GC ops stK g := hG.later hLK
      have tail : ∀ (a' : Act) (w' : World), Inv X w0 n stK η a' w' → a'.tmps.getD dj undef = .bool b → a'.eval (bif b then x else y) = .bool r0 → wpChain P ops Q ((pi, p) :: rest') K a' w' := by
        intro a' w' hI' hv hch
        have hwant : Region.wanted p (yielded ops a'.tmps) = true := wanted_g hGK ((Bool.or_eq_true _ _ ▸ hc3).imp gEq_eq gEq_eq) hI'
        simp only [wpChain, wpOp]
        rw [hops (pi, p) hmemp]
        simp only [hwant, if_true]
        left
        have hev : a'.eval (.tmp dj) = .bool b := hv
        have hrun : (execOp a'.eval p).run P w' = .ok (.value (.bool r0)) w' := by
          cases b <;> simp only [cond_true, cond_false] at hch <;> simp [execOp, hpop, hev, asBool, hch]
        unfold Oper.wp
        rw [hrun, Oper.upon_value]
        let st2 : St := { st with slots := evalOps.upd' (killS st.slots (dsts inner)) p.dst ⟨.bool, r0⟩, next := st.next + 1 }
        have hI2 : Inv X w0 n st2 η (a'.put p.dst (.bool r0)) w' := by
          refine ⟨hI'.kept, hI'.gnew, hI'.gold, by rw [put_size]; exact hI'.size, by rw [put_defers']; exact hI'.defers, ?_, hI'.objs, hI'.mine, hI'.apart, ⟨fun t => ?_, fun l x hx => ⟨Ob.under_mono (Nat.le_succ _) (hI'.und.objs l x hx).1, Nat.lt_succ_of_lt (hI'.und.objs l x hx).2⟩⟩, fun l hl => Nat.lt_succ_of_lt (hI'.locked l hl)⟩
          · have := slots_put (v := ⟨.bool, r0⟩) (val := .bool r0) (dst := p.dst) (fun d hd' => by rw [hI'.size]; exact hdst (pi, p) hmemp d hd') hI'.slots rfl
            intro t
            have ht := this t
            show VS w' _ η (evalOps.upd' (killS st.slots (dsts inner)) p.dst ⟨.bool, r0⟩ t) _
            cases hpd : p.dst <;> rw [hpd] at ht <;> exact ht
          · show (evalOps.upd' (killS st.slots (dsts inner)) p.dst ⟨.bool, r0⟩ t).s.under (st.next + 1)
            cases hpd : p.dst with
            | none => exact under_mono (Nat.le_succ _) (hI'.und.slots t)
            | some d =>
              by_cases e : t = d
              · subst e; simp only [evalOps.upd', upd_same]; trivial
              · simp only [evalOps.upd']; rw [upd_ne _ _ e]; exact under_mono (Nat.le_succ _) (hI'.und.slots t)
        have hL2 : Later st η st2 η := by
          refine ⟨fun _ _ => rfl, Nat.le_succ _, rfl, rfl, fun q hq => ?_, fun _ _ => rfl⟩
          have hk : killS st.slots (dsts inner) q = st.slots q := hLK.slots q hq
          show evalOps.upd' (killS st.slots (dsts inner)) p.dst ⟨.bool, r0⟩ q = _
          cases hpd : p.dst with
          | none => exact hk
          | some d =>
            have : q ≠ d := by
              rintro rfl
              rw [hpd] at hc4
              simp only [isLocked] at hc4
              rw [hc4] at hq; cases hq
            simp only [evalOps.upd']
            rw [upd_ne _ _ this]
            exact hk
        exact evalOps_sound hT hE fuel h hI2 (fun q hq => hops q (hmemr q hq)) (fun q hq => hdst q (hmemr q hq)) (hG.later hL2) fun a'' w'' ⟨st'', η'', hL', hI'', hk''⟩ => hK a'' w'' ⟨st'', η'', hL2.trans hL', hI'', hk''⟩
      rw [hlist, wpChain_append]
      cases hbw : onG want b with
      | true =>
        obtain rfl : b = want := by cases b <;> cases want <;> first | rfl | cases hbw
        rw [hbw, cond_true] at hr0
        let stI : St := { st with lockS := fun i => !(memN i (dsts inner)) || st.lockS i, lockO := fun l => Nat.blt l st.next || st.lockO l }
        have hII : Inv X w0 n stI η a w := ⟨hI.kept, hI.gnew, hI.gold, hI.size, hI.defers, hI.slots, hI.objs, hI.mine, hI.apart, hI.und, fun l hl => by
          have hl : (Nat.blt l st.next || st.lockO l) = true := hl
          rcases (Bool.or_eq_true _ _ ▸ hl : Nat.blt l st.next = true ∨ st.lockO l = true) with h1 | h1
          · exact blt_lt h1
          · exact hI.locked l h1⟩
        have hGI : GC ops stI (some (j, b)) := ⟨dj, hdj, by simp [stI, hc1], hb⟩
        refine evalOps_sound hT hE fuel hr0 hII (fun q hq => hops q (hmemi q hq)) (fun q hq => hdst q (hmemi q hq)) hGI fun a' w' hP => ?_
        obtain ⟨st', η', hL, hI', hk'⟩ := hP
        have hslot : ∀ t, t ∉ dsts inner → st'.slots t = st.slots t := fun t ht => hL.slots t (by
          have : memN t (dsts inner) = false := by
            cases hm : memN t (dsts inner) with
            | true => exact absurd (memN_iff.1 hm) ht
            | false => rfl
          simp [stI, this])
        have hobj : ∀ l x, st.objs l = some x → st'.objs l = some x := fun l x hx => by
          rw [hL.objs l (by simp [stI, lt_blt (hI.und.objs l x hx).2])]; exact hx
        have Kp : Keeps w' (okOf X.G st'.objs η') η' w' (okOf X.G st.objs η) η st.next := by
          refine ⟨fun ad u ho hu => ⟨⟨ho.1, fun l x hx hbl => ?_⟩, hu⟩, fun l hl => (hL.place l hl).symm⟩
          rw [← hL.place l (hI.und.objs l x hx).2] at hbl
          exact ho.2 l x (hobj l x hx) hbl
        have hvj : a'.tmps.getD dj undef = .bool b := by
          have := hI'.slots dj
          rw [hslot dj hdj', hb] at this
          exact V_bool this rfl
        have hch : a'.eval (bif b then x else y) = .bool r0 := by
          dsimp only at hk'
          split at hk'
          · rename_i q hq
            simp only [Option.some.injEq] at hk'
            subst hk'
            have : VS w' _ η' (evalO st'.slots (bif b then x else y)) (a'.eval (bif b then x else y)) := evalO_VS (ops := #[bif b then x else y]) (fun t _ => hI'.slots t) (by simp)
            exact V_bool this hq
          · cases hk'
        refine tail a' w' ⟨hI'.kept, hI'.gnew, hI'.gold, hI'.size, hI'.defers, fun t => ?_, fun l x hx => ?_, fun l x q hx hq => ?_, fun l l' x x' q hx hx' hq hq' => ?_, ⟨fun t => ?_, hI.und.objs⟩, hI.locked⟩ hvj hch
        · show VS w' (okOf X.G st.objs η) η (killS st.slots (dsts inner) t) _
          by_cases ht : t ∈ dsts inner
          · rw [killS_in ht]; trivial
          · rw [killS_out ht]
            have := hI'.slots t
            rw [hslot t ht] at this
            exact V_keeps Kp (hI.und.slots t) this
        · exact OK1_keeps Kp (hL.place l (hI.und.objs l x hx).2).symm (hI.und.objs l x hx).1 (fun _ _ => rfl) (hI'.objs l x (hobj l x hx))
        · rw [← hL.place l (hI.und.objs l x hx).2] at hq
          exact hI'.mine l x q (hobj l x hx) hq
        · rw [← hL.place l (hI.und.objs l x hx).2] at hq
          rw [← hL.place l' (hI.und.objs l' x' hx').2] at hq'
          exact hI'.apart l l' x x' q (hobj l x hx) (hobj l' x' hx') hq hq'
        · show (killS st.slots (dsts inner) t).s.under st.next
          by_cases ht : t ∈ dsts inner
          · rw [killS_in ht]; trivial
          · rw [killS_out ht]; exact hI.und.slots t
      | false =>
        rw [hbw, cond_false] at hr0
        simp only [Option.some.injEq] at hr0
        subst hr0
        have hne : b ≠ want := by cases b <;> cases want <;> first | (intro h; cases h; done) | cases hbw
        refine skip_chain hdj hne (fun q hq => hops q (hmemi q hq)) hdj' hc2 hdjv (fun d hd => by simp at hd) fun a' hs hdf ht => ?_
        have hIK : Inv X w0 n stK η a' w := ⟨hI.kept, hI.gnew, hI.gold, by rw [hs]; exact hI.size, by rw [hdf]; exact hI.defers, fun t => by
          show VS w (okOf X.G st.objs η) η (killS st.slots (dsts inner) t) _
          by_cases hm : t ∈ dsts inner
          · rw [killS_in hm]; trivial
          · rw [killS_out hm, ht t hm]; exact hI.slots t, hI.objs, hI.mine, hI.apart, ⟨fun t => by
          show (killS st.slots (dsts inner) t).s.under st.next
          by_cases hm : t ∈ dsts inner
          · rw [killS_in hm]; trivial
          · rw [killS_out hm]; exact hI.und.slots t, hI.und.objs⟩, hI.locked⟩
        refine tail a' w hIK (by rw [ht dj hdj']; exact hdjv) ?_
        have : VS w _ η (evalO stK.slots (bif want then y else x)) (a'.eval (bif want then y else x)) := evalO_VS (ops := #[bif want then y else x]) (fun t _ => hIK.slots t) (by simp)
        have hv := V_bool this hother
        have e : (bif b then x else y) = (bif want then y else x) := by cases b <;> cases want <;> simp_all
        rw [e]
        exact hv
end Go.Rai

/- Regions that are drawn: the denotation. Definitions alone. -/
set_option linter.unusedVariables false
namespace Go.Rai

def RS.isVal : RS → Bool
  | .val _ => true
  | .own _ _ => false
def allB {α : Type} (p : α → Bool) : List α → Bool
  | [] => true
  | a :: r => p a && allB p r
def nodupN : List Nat → Bool
  | [] => true
  | a :: r => !(memN a r) && nodupN r
def Sh.underB (n : Nat) : Sh → Bool
  | .ref l _ => Nat.blt l n
  | .ptr l _ => Nat.blt l n
  | .elt l a _ => Nat.blt l n
  | .pair a b => a.underB n && b.underB n
  | .tup a b => a.underB n && b.underB n
  | .fn _ c => c.underB n
  | .slice a => a.underB 0
  | .lit a => a.underB 0
  | .adr a => a.underB 0
  | .opt a => a.underB 0
  | _ => true
def Ob.underB (n : Nat) : Ob → Bool
  | .box s _ => s.underB n
  | .arr _ a _ => a.underB 0
def Sh.isPtr (n : Nat) : Sh → Bool
  | .ptr l o => Nat.beq l n && Nat.beq o 0
  | _ => false
/-- memory, and more of it -/
def addF (f g : Nat → Option Ob) : Nat → Option Ob := fun l => match g l with
  | some x => some x
  | none => f l
/-- an operation that changes no memory of the call's own, but may make some: its value, over the memory 'rd', what it makes, at places from nx on, and how many -/
def qStep {R : Type} (tt : TT) (env : Env) (o : Oper) (sl : Nat → SV) (rd : Nat → Option Ob) (base nx : Nat) (k : SV → (Nat → Option Ob) → Nat → Option R) : Option R :=
  match o.op with
  | .call { callee := .value f, args, argTypes } => match evalO sl f with
    | ⟨.fn g c, d⟩ => bif capOk c then (match env g with
      | s :: _ => match argsCo rd s.ins (args.toList.map (evalO sl) ++ capsOf ⟨c, d⟩) with
        | some ds => bif anyB (fun v => v.s.hasRef) (args.toList.map (evalO sl) ++ capsOf ⟨c, d⟩) && anyB RS.imm s.outs then none else
            (s.f ds).bind fun o => k (resOf (outSV nx s.outs o)) (outObjs nx (fun _ => none) s.outs o) (bif allB RS.isVal s.outs then 0 else s.outs.length)
        | none => none
      | [] => none) else none
    | _ => none
  | _ => act tt (evalO sl) rd nx o fun v ob => match ob with
    | none => bif v.s.underB base then k v (fun _ => none) 0 else none
    | some x => bif v.s.isPtr nx && x.underB base then k v (upd (fun _ => none) nx (some x)) 1 else none
/-- what an operation waits for -/
def bindOn : List Edge → List Nat
  | [] => []
  | e :: r => bif Region.binds .any e then e.on :: bindOn r else bindOn r
def afters (o : Oper) : List Nat := bindOn o.after.toList

/-- the operations that may come in several orders -/
def evalA (tt : TT) (env : Env) (ops : Array Oper) : (fuel : Nat) → {R : Type} → Bool → Option (Nat × Bool) → List (Nat × Oper) → Nat → (Nat → Option Ob) → St → (St → Option R) → Option R
  | 0, _, _, _, _, _, _, _, _ => none
  | _ + 1, _, _, _, [], nx, made, st, k => k { st with objs := addF st.objs made, next := nx }
  | fuel + 1, _, mk, g, (i, o) :: rest, nx, made, st, k =>
    bif gEq o.guard none || gEq o.guard g then
      bif isLocked st o.dst then none else
      qStep tt env o st.slots st.objs st.next nx fun v mo c => bif Nat.beq c 0 then evalA tt env ops fuel mk g rest nx made { st with slots := putSt st o.dst v } k
        else bif mk && o.dst.isSome then evalA tt env ops fuel mk g rest (nx + c) (addF made mo) { st with slots := putSt st o.dst v } k else none
    else match o.guard with
      | none => none
      | some (j, want) => match dstOf ops j with
        | none => none
        | some dj => match splitAtPick dj ((i, o) :: rest) with
          | (inner, some ((_, p), rest')) => match st.slots dj, p.op with
            | ⟨.bool, b⟩, .pick _ x y =>
              bif memN dj (dsts inner) || !(skipsB ops j want [] inner) || !(gEq p.guard none || gEq p.guard g) || isLocked st p.dst || anyB st.lockS (dsts inner) then none else
              match evalO (killS st.slots (dsts inner)) (bif want then y else x) with
              | ⟨.bool, other⟩ =>
                Option.bind (bif onG want b then
                    evalA tt env ops fuel false (some (j, want)) inner nx made st fun st' => (match evalO st'.slots (bif want then x else y) with | ⟨.bool, r⟩ => some r | _ => none)
                  else some other) fun r =>
                evalA tt env ops fuel mk g rest' nx made { st with slots := evalOps.upd' (killS st.slots (dsts inner)) p.dst ⟨.bool, r⟩ } k
              | _ => none
            | _, _ => none
          | _ => none
/-- the operations that come one behind the other -/
def evalB (tt : TT) (env : Env) (ow : List Nat) : {R : Type} → List (Nat × Oper) → St → (St → Option R) → Option R
  | _, [], st, k => k st
  | _, q :: rest, st, k => bif gEq q.2.guard none then stepF tt env ow q.2 st fun st => evalB tt env ow rest st k else none

/-- all below i -/
def hasAll (l : List Nat) : Nat → Bool
  | 0 => true
  | i + 1 => memN i l && hasAll l i
def afAt : List (Nat × Oper) → Nat → List Nat
  | [], _ => []
  | q :: r, j => bif Nat.beq q.1 j then afters q.2 else afAt r j
/-- all that it waits for, on and on -/
def ancl (all : List (Nat × Oper)) : Nat → List Nat → List Nat → List Nat
  | 0, _, acc => acc
  | _ + 1, [], acc => acc
  | n + 1, j :: w, acc => bif memN j acc then ancl all n w acc else ancl all n (afAt all j ++ w) (j :: acc)
def notPick (o : Oper) : Bool := match o.op with
  | .pick _ _ _ => false
  | _ => true
/-- does it wait for all that stand ahead of it? -/
def waitsAll (all : List (Nat × Oper)) (q : Nat × Oper) : Bool := hasAll (ancl all 10000 (afters q.2) []) q.1 && gEq q.2.guard none && notPick q.2
/-- the operations up to the last one that does not wait for all -/
def headOps2 (all : List (Nat × Oper)) : List (Nat × Oper) → List (Nat × Oper)
  | [] => []
  | q :: r => bif allB (waitsAll all) (q :: r) then [] else q :: headOps2 all r
def tailOps2 (all : List (Nat × Oper)) : List (Nat × Oper) → List (Nat × Oper)
  | [] => []
  | q :: r => bif allB (waitsAll all) (q :: r) then q :: r else tailOps2 all r
def headOps (l : List (Nat × Oper)) : List (Nat × Oper) := headOps2 l l
def tailOps (l : List (Nat × Oper)) : List (Nat × Oper) := tailOps2 l l
def tmpsOf : List Operand → List Nat
  | [] => []
  | .tmp t :: r => t :: tmpsOf r
  | _ :: r => tmpsOf r
def looks (ops : Array Oper) (o : Oper) : List Nat := match o.guard with
  | some (j, _) => (match dstOf ops j with | some d => d :: tmpsOf o.op.operands.toList | none => tmpsOf o.op.operands.toList)
  | none => tmpsOf o.op.operands.toList
def readOk (q q' : Nat × Oper) (t : Nat) : Bool := match q'.2.dst with
  | none => true
  | some d => bif Nat.beq d t then (bif Nat.blt q'.1 q.1 then memN q'.1 (afters q.2) else (Nat.beq q'.1 q.1 || memN q.1 (afters q'.2))) else true
def guardOk (q : Nat × Oper) : Bool := match q.2.guard with
  | none => true
  | some (j, _) => memN j (afters q.2)
/-- a drawn region's own sense -/
def drawOk (ops : Array Oper) (all A : List (Nat × Oper)) : Bool :=
  allB (fun q => allB (fun j => Nat.blt j q.1) (afters q.2)) all && nodupN (dsts A) && allB (fun q => guardOk q && allB (fun t => allB (fun q' => readOk q q' t) A) (looks ops q.2)) A
end Go.Rai

/- Templates of states, the denotation of code, and of a function. Definitions alone. -/
set_option linter.unusedVariables false
namespace Go.Rai

@[reducible] def SlD : List (Nat × Sh) → Type
  | [] => Unit
  | p :: r => p.2.D × SlD r
@[reducible] def ObD : List (Nat × OSh) → Type
  | [] => Unit
  | p :: r => p.2.D × ObD r
/-- The form of a state at a loop's head, or where ways meet: what may turn, slot by slot and place by place. All else is as it was.
seeds: places that stay where they are, but may be written; mv: places that are given up for new ones; dead: slots that are forgotten; nx: places from here on are new. -/
structure Tm where
  slots : List (Nat × Sh)
  objs : List (Nat × OSh)
  seeds : List Nat
  mv : List Nat
  dead : List Nat
  nx : Nat
@[reducible] def Tm.D (T : Tm) : Type := SlD T.slots × ObD T.objs

def mkSlots (f : Nat → SV) : (l : List (Nat × Sh)) → SlD l → Nat → SV
  | [], _ => f
  | p :: r, d => upd (mkSlots f r d.2) p.1 ⟨p.2, d.1⟩
def OSh.ob : (s : OSh) → s.D → Ob
  | .box s, d => .box s d
  | .arr e a, d => .arr e a d
def mkObjs (f : Nat → Option Ob) : (l : List (Nat × OSh)) → ObD l → Nat → Option Ob
  | [], _ => f
  | p :: r, d => upd (mkObjs f r d.2) p.1 (some (p.2.ob d.1))
def keysS : List (Nat × Sh) → List Nat
  | [] => []
  | p :: r => p.1 :: keysS r
def keysO : List (Nat × OSh) → List Nat
  | [] => []
  | p :: r => p.1 :: keysO r
def dropO (f : Nat → Option Ob) (l : List Nat) : Nat → Option Ob := fun i => bif memN i l then none else f i
/-- the state that a template makes, over a state of before -/
def Tm.mk' (T : Tm) (st : St) (d : T.D) : St :=
  { slots := mkSlots (killS st.slots T.dead) T.slots d.1
    objs := mkObjs (dropO st.objs T.mv) T.objs d.2
    next := T.nx
    lockS := fun i => !(memN i (keysS T.slots) || memN i T.dead) || st.lockS i
    lockO := fun l => (Nat.blt l st.next && !(memN l T.seeds) && !(memN l T.mv)) || st.lockO l }
/-- the state in which the code ahead of a template's place is told -/
def Tm.guard (T : Tm) (st : St) : St :=
  { st with
    lockS := fun i => !(memN i (keysS T.slots) || memN i T.dead) || st.lockS i
    lockO := fun l => (Nat.blt l st.next && !(memN l T.seeds) && !(memN l T.mv)) || st.lockO l }
def relock (st st' : St) : St := { st' with lockS := st.lockS, lockO := st.lockO }

def lookP : List (Nat × Option Nat) → Nat → Option (Option Nat)
  | [], _ => none
  | p :: r, l => bif Nat.beq p.1 l then some p.2 else lookP r l
def plc (seeds : List Nat) (ps : List (Nat × Option Nat)) (l : Nat) : Option (Option Nat) := bif memN l seeds then some (some l) else lookP ps l
def exSlots (st : St) : (l : List (Nat × Sh)) → Option (SlD l)
  | [] => some ()
  | p :: r => match co p.2 (st.slots p.1), exSlots st r with
    | some x, some y => some (x, y)
    | _, _ => none
def matSlots (st : St) : List (Nat × Sh) → List (Nat × Option Nat)
  | [] => []
  | p :: r => p.2.mat (st.slots p.1).s ++ matSlots st r
/-- what is told of one place -/
def exOb (st : St) (o : Option (Option Nat)) : (s : OSh) → Option (s.D × List (Nat × Option Nat))
  | .box s => match o with
    | some (some x) => match st.objs x with
      | some (.box s' d) => match co s ⟨s', d⟩ with
        | some y => some (y, s.mat s')
        | none => none
      | _ => none
    | _ => none
  | .arr e a => match o with
    | some (some x) => match st.objs x with
      | some (.arr e' b xs) => if h : b = a ∧ e' = e then some (cast (congrArg (fun s => List (Sh.D s)) h.1) xs, []) else none
      | _ => none
    | some none => some ([], [])
    | none => none
def exObjs (st : St) (seeds : List Nat) : (l : List (Nat × OSh)) → List (Nat × Option Nat) → Option (ObD l × List (Nat × Option Nat))
  | [], ps => some ((), ps)
  | p :: r, ps => match exOb st (plc seeds ps p.1) p.2 with
    | some (x, more) => match exObjs st seeds r (ps ++ more) with
      | some (y, ps') => some ((x, y), ps')
      | none => none
    | none => none
def oEq : Option Nat → Option Nat → Bool
  | none, none => true
  | some a, some b => Nat.beq a b
  | _, _ => false
def ooEq : Option (Option Nat) → Option (Option Nat) → Bool
  | none, none => true
  | some a, some b => oEq a b
  | _, _ => false
/-- are places told alike wherever they are met? -/
def pairsOk (dom seeds : List Nat) (all : List (Nat × Option Nat)) : List (Nat × Option Nat) → Bool
  | [] => true
  | p :: r => (bif memN p.1 dom then ooEq (plc seeds all p.1) (some p.2) else oEq p.2 (some p.1)) && pairsOk dom seeds all r
def actual (seeds : List Nat) (ps : List (Nat × Option Nat)) : List Nat → List Nat
  | [] => []
  | l :: r => match plc seeds ps l with
    | some (some x) => x :: actual seeds ps r
    | _ => actual seeds ps r
def OSh.underB (n : Nat) : OSh → Bool
  | .box s => s.underB n
  | .arr _ a => a.underB 0
/-- the template's own sense, over a state whose places end at n -/
def Tm.wf (T : Tm) (n : Nat) : Bool :=
  Nat.ble n T.nx && allB (fun p => p.2.underB T.nx) T.slots && allB (fun p => p.2.underB T.nx && (bif memN p.1 T.seeds then Nat.blt p.1 n else Nat.ble n p.1 && Nat.blt p.1 T.nx)) T.objs &&
  nodupN (keysS T.slots) && nodupN (keysO T.objs) && allB (fun l => memN l (keysO T.objs) && Nat.blt l n) T.seeds && allB (fun l => Nat.blt l n) T.mv
/-- nothing that is locked may turn -/
def Tm.free (T : Tm) (st : St) : Bool := allB (fun i => !(st.lockS i)) (keysS T.slots) && allB (fun i => !(st.lockS i)) T.dead && allB (fun l => !(st.lockO l)) T.seeds && allB (fun l => !(st.lockO l)) T.mv
/-- the data of a state, as a template has it -/
def Tm.ex (T : Tm) (st : St) : Option T.D :=
  match exSlots st T.slots, exObjs st T.seeds T.objs (matSlots st T.slots) with
  | some x, some (y, ps) => bif pairsOk (keysO T.objs) T.seeds ps ps && nodupN (actual T.seeds ps (keysO T.objs)) && allB (fun l => !(st.lockO l)) (actual T.seeds ps (keysO T.objs)) then some (x, y) else none
  | _, _ => none

/-- the arrays that a template has as only read -/
def misS : Sh → Sh → List Nat
  | .slice _, .ref l _ => [l]
  | .pair a b, .pair c d => misS a c ++ misS b d
  | _, _ => []
def misL (st : St) : List (Nat × Sh) → List Nat
  | [] => []
  | p :: r => misS p.2 (st.slots p.1).s ++ misL st r
def Tm.fz (T : Tm) (st : St) : St := frz (misL st T.slots) st

/-- rounds -/
def iterN {σ ρ : Type} : Nat → (σ → Option (σ ⊕ ρ)) → σ → Option ρ
  | 0, _, _ => none
  | n + 1, f, s => match f s with
    | none => none
    | some (.inr r) => some r
    | some (.inl s') => iterN n f s'
open Classical in
/-- rounds till there is an answer -/
noncomputable def iterW {σ ρ : Type} (f : σ → Option (σ ⊕ ρ)) (s : σ) : Option ρ := if h : ∃ n r, iterN n f s = some r then some h.choose_spec.choose else none

inductive Ex where
  | normal
  | exit (i : Nat)
  | ret
abbrev Ann := Nat → Option Tm

/-- each operation with its number -/
def numbered (n : Nat) : List Oper → List (Nat × Oper)
  | [] => []
  | o :: r => (n, o) :: numbered (n + 1) r

/-- the literals of a region that are the call's own -/
def ownOf : Option Tm → List Nat
  | some T => T.seeds
  | none => []

/-- a loop, round by round, as long as its rounds are known -/
def unroll {R : Type} (f : St → (Ex → St → Option R) → Option R) : Nat → St → (Ex → St → Option R) → Option R
  | 0, _, _ => none
  | n + 1, st, k => f st fun e st' => match e with
    | .normal => unroll f n st' k
    | e => k e st'
def frOf : Option Tm → List Nat
  | some T => T.mv
  | none => []

noncomputable def denote (tt : TT) (env : Env) (ann : Ann) : Code → Nat → {R : Type} → St → (Ex → St → Option R) → Option R
  | .skip, _, _, st, k => k .normal st
  | .region _ ops draw, p, _, st, k => bif draw then
      (bif drawOk ops (numbered 0 ops.toList) (headOps (numbered 0 ops.toList)) then evalA tt env ops (ops.toList.length + 1) true none (headOps (numbered 0 ops.toList)) st.next (fun _ => none) (frz (frOf (ann p)) st) fun st => evalB tt env (ownOf (ann p)) (tailOps (numbered 0 ops.toList)) st fun st => k .normal st else none)
    else evalOps tt env (ownOf (ann p)) ops (ops.toList.length + 1) none (numbered 0 ops.toList) (frz (frOf (ann p)) st) fun st => k .normal st
  | .seq a b, p, R, st, k => match ann p with
    | none => denote tt env ann a (2 * p) st fun e st => match e with
      | .normal => denote tt env ann b (2 * p + 1) st k
      | e => k e st
    | some T => bif T.wf st.next && T.free st then Option.bind (denote tt env ann a (2 * p) (R := T.D ⊕ R) (T.guard st) fun e st' => match e with
        | .normal => (T.ex (T.fz st')).map .inl
        | e => (k e (relock st st')).map .inr) fun
      | .inl d => denote tt env ann b (2 * p + 1) (relock st (T.mk' st d)) k
      | .inr r => some r
      else none
  | .cond c a b, p, _, st, k => match evalO st.slots c with
    | ⟨.bool, t⟩ => bif t then denote tt env ann a (2 * p) st k else denote tt env ann b (2 * p + 1) st k
    | _ => none
  | .block i c, p, _, st, k => denote tt env ann c p st fun e st => match e with
    | .exit j => bif Nat.beq i j then k .normal st else k (.exit j) st
    | e => k e st
  | .loop c, p, R, st, k => match ann p with
    | some T => bif T.wf st.next && T.free st then (match T.ex (T.fz (T.guard st)) with
      | some d0 => iterW (fun d => denote tt env ann c (2 * p) (R := T.D ⊕ R) (T.mk' st d) fun e st' => match e with
          | .normal => (T.ex (T.fz st')).map .inl
          | e => (k e (relock st st')).map .inr) d0
      | none => none) else none
    | none => unroll (fun st k => denote tt env ann c (2 * p) st k) 40 st k
  | .exit i, _, _, st, k => k (.exit i) st
  | .ret, _, _, st, k => k .ret st
  | _, _, _, _, _ => none

def argSlots : Nat → (l : List Sh) → ShD l → Nat → SV
  | _, [], _ => fun _ => .undef
  | i, s :: r, d => upd (argSlots (i + 1) r d.2) i ⟨s, d.1⟩
def entry (l : List Sh) (d : ShD l) : St := ⟨argSlots 0 l d, fun _ => none, 0, fun _ => false, fun _ => false⟩
def resSV (tt : TT) (st : St) : ResultVar → Option SV
  | .tmp t => some (st.slots t)
  | .cell a ty => match st.slots a, tt ty with
    | ⟨.ptr l o, _⟩, some q => match st.objs l with
      | some (.box s d) => match dropC o ⟨s, d⟩ with
        | some r => q.part r
        | none => none
      | _ => none
    | _, _ => none
/-- the results, as they are told -/
def resEx (tt : TT) (st : St) : (l : List RS) → List ResultVar → Option (RSD l)
  | [], [] => some ()
  | .val s :: r, v :: vs => match resSV tt st v with
    | some q => match coX st.objs s q, resEx tt st r vs with
      | some x, some y => some (x, y)
      | _, _ => none
    | none => none
  | .own e a :: r, v :: vs => match resSV tt st v, resEx tt st r vs with
    | some ⟨.ref l _, _⟩, some y => match st.objs l with
      | some (.arr e' b xs) => if h : b = a ∧ e' = e then some (cast (congrArg (fun s => List (Sh.D s)) h.1) xs, y) else none
      | _ => none
    | some ⟨.nil, _⟩, some y => some ([], y)
    | _, _ => none
  | _, _ => none
/-- the places of the arrays that are handed over -/
def resPl (tt : TT) (st : St) : List RS → List ResultVar → List Nat
  | .val _ :: r, _ :: vs => resPl tt st r vs
  | .own _ _ :: r, v :: vs => match resSV tt st v with
    | some ⟨.ref l _, _⟩ => l :: resPl tt st r vs
    | _ => resPl tt st r vs
  | _, _ => []
/-- the places of the arrays that are told as only read -/
def resRd (tt : TT) (st : St) : List RS → List ResultVar → List Nat
  | .val _ :: r, v :: vs => match resSV tt st v with
    | some q => q.s.refs ++ resRd tt st r vs
    | none => resRd tt st r vs
  | .own _ _ :: r, _ :: vs => resRd tt st r vs
  | _, _ => []
noncomputable def funDen (tt : TT) (env : Env) (ann : Ann) (fn : Func) (ins : List Sh) (outs : List RS) (d : ShD ins) : Option (RSD outs) :=
  match fn.body with
  | none => none
  | some c => denote tt env ann c 1 (entry ins d) fun e st => match e with
    | .exit _ => none
    | _ => bif nodupN (resPl tt st outs fn.results.toList) && allB (fun l => !(memN l (resPl tt st outs fn.results.toList))) (resRd tt st outs fn.results.toList) then resEx tt st outs fn.results.toList else none
end Go.Rai
