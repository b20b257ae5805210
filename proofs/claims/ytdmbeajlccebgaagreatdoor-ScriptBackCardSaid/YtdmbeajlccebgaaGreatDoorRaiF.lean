/- A part of the proof of ScriptLines: general lemmas, with no condition of their own. -/
import Derived.Test.YtdmbeajlccebgaaGreatDoorRaiE
/- Operations that may come in several orders: what each comes to, wherever it stands. -/
set_option linter.unusedVariables false
set_option linter.unusedSimpArgs false
namespace Go.Rai
open Go.RowKit
variable {P : Program}

theorem allB_mem {α : Type} {p : α → Bool} : ∀ {l : List α}, allB p l = true → ∀ x ∈ l, p x = true
  | [], _, x, hx => by simp at hx
  | a :: l, h, x, hx => by
    simp only [allB, Bool.and_eq_true] at h
    rcases List.mem_cons.1 hx with rfl | hx
    · exact h.1
    · exact allB_mem h.2 x hx
theorem memN_false {n : Nat} {l : List Nat} (h : n ∉ l) : memN n l = false := by
  cases hm : memN n l with
  | true => exact absurd (memN_iff.1 hm) h
  | false => rfl
theorem underB_under : ∀ {s : Sh} {n : Nat}, s.underB n = true → s.under n
  | .ref l _, n, h => blt_lt h
  | .ptr l _, n, h => blt_lt h
  | .elt l _ _, n, h => blt_lt h
  | .pair a b, n, h => by
    simp only [Sh.underB, Bool.and_eq_true] at h
    exact ⟨underB_under h.1, underB_under h.2⟩
  | .tup a b, n, h => by
    simp only [Sh.underB, Bool.and_eq_true] at h
    exact ⟨underB_under h.1, underB_under h.2⟩
  | .fn _ c, n, h => underB_under (s := c) h
  | .slice a, n, h => underB_under (s := a) h
  | .lit a, n, h => underB_under (s := a) h
  | .adr a, n, h => underB_under (s := a) h
  | .undef, _, _ => trivial
  | .int _, _, _ => trivial
  | .bool, _, _ => trivial
  | .str, _, _ => trivial
  | .unit, _, _ => trivial
  | .nil, _, _ => trivial
  | .itf, _, _ => trivial
  | .pnil, _, _ => trivial
  | .opt a, n, h => underB_under (s := a) h

theorem Ob_underB {x : Ob} {n : Nat} (h : x.underB n = true) : x.under n := by
  cases x with
  | box s d => exact underB_under (s := s) h
  | arr e a xs => exact underB_under (s := a) h

/-- does a form name a place? -/
def Sh.ment (l : Nat) : Sh → Prop
  | .ref x _ => x = l
  | .ptr x _ => x = l
  | .elt x _ _ => x = l
  | .pair a b => a.ment l ∨ b.ment l
  | .tup a b => a.ment l ∨ b.ment l
  | .fn _ c => c.ment l
  | _ => False
section
variable {w : World} {ok : Nat → Prop} {η η' : Nat → Value}
theorem C_ment {n : Nat} : ∀ {s : Sh} {d : s.D} {cs : List Value}, s.under n → (∀ l, s.ment l → η' l = η l) → C w ok η s d cs → C w ok η' s d cs
  | .undef, _, _, _, _, h => h
  | .int _, _, _, _, _, h => h
  | .bool, _, _, _, _, h => h
  | .str, _, _, _, _, h => h
  | .unit, _, _, _, _, h => h
  | .pair a b, d, _, hn, K, h => by
    obtain ⟨hs, v, r, rfl, ha, hb⟩ := h
    exact ⟨hs, v, r, rfl, C_ment hn.1 (fun l hl => K l (.inl hl)) ha, C_ment hn.2 (fun l hl => K l (.inr hl)) hb⟩
  | .slice a, xs, _, hn, K, h => by
    obtain ⟨A, cap, rfl, hcap, h⟩ := h
    exact ⟨A, cap, rfl, hcap, h.imp id fun ⟨ad, m, hA, hm, hl, hx⟩ => ⟨ad, m, hA, hm, hl, fun i hi => C_free (a := a) hn (hx i hi)⟩⟩
  | .lit a, xs, _, hn, K, h => by
    obtain ⟨A, rfl, h⟩ := h
    exact ⟨A, rfl, h.imp id fun ⟨ad, m, hA, hm, hl, hx⟩ => ⟨ad, m, hA, hm, hl, fun i hi => C_free (a := a) hn (hx i hi)⟩⟩
  | .nil, _, _, _, _, h => h
  | .ref l _, _, _, hn, K, h => by
    have := K l rfl
    exact ⟨by rw [this]; exact h.1, by rw [this]; exact h.2⟩
  | .ptr l off, _, _, hn, K, h => by
    obtain ⟨b, hb, rfl⟩ := h
    exact ⟨b, (K l rfl).trans hb, rfl⟩
  | .elt l a off, i, _, hn, K, h => by
    obtain ⟨b, k, cap, hb, rfl⟩ := h
    exact ⟨b, k, cap, (K l rfl).trans hb, rfl⟩
  | .adr a, x, _, hn, K, h => by
    obtain ⟨ad, m, rfl, hm, hx⟩ := h
    exact ⟨ad, m, rfl, hm, C_free (a := a) hn hx⟩
  | .fn f c, d, _, hn, K, h => by
    obtain ⟨caps, rfl, hc⟩ := h
    exact ⟨caps, rfl, C_ment (s := c) hn K hc⟩
  | .tup _ _, _, _, _, _, h => h
  | .itf, _, _, _, _, h => h
  | .pnil, _, _, _, _, h => h
  | .opt a, x, _, hn, K, h => h.imp id fun ⟨y, ad, m, h1, h2, h3, h4⟩ => ⟨y, ad, m, h1, h2, h3, C_free (a := a) hn h4⟩
theorem V1_ment {n : Nat} {s : Sh} {d : s.D} {v : Value} (hn : s.under n) (K : ∀ l, s.ment l → η' l = η l) (h : V1 w ok η s d v) : V1 w ok η' s d v := by
  cases s
  case undef => trivial
  case unit => exact h
  case pair a b => obtain ⟨cs, rfl, h⟩ := h; exact ⟨cs, rfl, C_ment hn K h⟩
  case tup => exact h.elim
  all_goals exact C_ment (cs := [v]) hn K h
theorem CT_ment {n : Nat} : ∀ {s : Sh} {d : s.D} {vs : List Value}, s.under n → (∀ l, s.ment l → η' l = η l) → CT w ok η (V1 w ok η) s d vs → CT w ok η' (V1 w ok η') s d vs
  | .tup a b, d, _, hn, K, h => by
    obtain ⟨v, r, rfl, ha, hb⟩ := h
    exact ⟨v, r, rfl, V1_ment hn.1 (fun l hl => K l (.inl hl)) ha, CT_ment hn.2 (fun l hl => K l (.inr hl)) hb⟩
  | .unit, _, _, _, _, h => h
  | .undef, _, _, _, _, h => h.elim
  | .int _, _, _, _, _, h => h.elim
  | .bool, _, _, _, _, h => h.elim
  | .str, _, _, _, _, h => h.elim
  | .pair _ _, _, _, _, _, h => h.elim
  | .slice _, _, _, _, _, h => h.elim
  | .lit _, _, _, _, _, h => h.elim
  | .nil, _, _, _, _, h => h.elim
  | .ref _ _, _, _, _, _, h => h.elim
  | .ptr _ _, _, _, _, _, h => h.elim
  | .elt _ _ _, _, _, _, _, h => h.elim
  | .adr _, _, _, _, _, h => h.elim
  | .fn _ _, _, _, _, _, h => h.elim
  | .itf, _, _, _, _, h => h.elim
  | .pnil, _, _, _, _, h => h.elim
  | .opt _, _, _, _, _, h => h.elim
theorem V_ment {n : Nat} {s : Sh} {d : s.D} {v : Value} (hn : s.under n) (K : ∀ l, s.ment l → η' l = η l) (h : V w ok η s d v) : V w ok η' s d v := by
  cases s
  case tup a b => obtain ⟨vs, rfl, h⟩ := h; exact ⟨vs, rfl, CT_ment hn K h⟩
  all_goals exact V1_ment (w := w) (ok := ok) (d := d) (v := v) hn K h
end
theorem ment_under {n l : Nat} : ∀ {s : Sh}, s.under n → s.ment l → l < n
  | .ref _ _, h, e => by obtain rfl : _ = l := e; exact h
  | .ptr _ _, h, e => by obtain rfl : _ = l := e; exact h
  | .elt _ _ _, h, e => by obtain rfl : _ = l := e; exact h
  | .pair a b, h, e => e.elim (ment_under h.1) (ment_under h.2)
  | .tup a b, h, e => e.elim (ment_under h.1) (ment_under h.2)
  | .fn _ c, h, e => ment_under (s := c) h e
  | .undef, _, e => e.elim
  | .int _, _, e => e.elim
  | .bool, _, e => e.elim
  | .str, _, e => e.elim
  | .unit, _, e => e.elim
  | .nil, _, e => e.elim
  | .itf, _, e => e.elim
  | .pnil, _, e => e.elim
  | .opt _, _, e => e.elim
  | .slice _, _, e => e.elim
  | .lit _, _, e => e.elim
  | .adr _, _, e => e.elim

/-- what an operation makes: at places from lo on, below hi -/
structure Mk where
  f : Nat → Option Ob
  lo : Nat
  hi : Nat
/-- an operation's value, told over slots and memory, wherever these are so -/
def EffM (P : Program) (S : World → Prop) (o : Oper) (sl : Nat → SV) (rd : Nat → Option Ob) (v : SV) (m : Mk) : Prop :=
  ∀ (w : World) (ok : Nat → Prop) (η : Nat → Value) (a : Act), S w →
    (∀ t, Operand.tmp t ∈ o.op.operands → VS w ok η (sl t) (a.tmps.getD t undef)) →
    (∀ l x, rd l = some x → OK1 w ok η l x) →
    ∀ (K : Act → World → Prop) (Q : Exit → Act → World → Prop),
      (∀ val w' η1, Below w.heap.size w w' → (∀ l, l < m.lo ∨ m.hi ≤ l → η1 l = η l) →
        (∀ l x b, m.f l = some x → blk (η1 l) = some b → w.heap.size ≤ b ∧ b < w'.heap.size) →
        (∀ l l' x x' b, m.f l = some x → m.f l' = some x' → blk (η1 l) = some b → blk (η1 l') = some b → l = l') →
        (∀ ok' : Nat → Prop, (∀ b, b < w.heap.size → ok b → ok' b) → (∀ b, w.heap.size ≤ b → (∀ l x, m.f l = some x → blk (η1 l) ≠ some b) → ok' b) →
          VS w' ok' η1 v val ∧ ∀ l x, m.f l = some x → OK1 w' ok' η1 l x) → K (a.put o.dst val) w') → o.wp P a w K Q

theorem outSV_ment {n : Nat} : ∀ {l : List RS} {o : RSD l}, (∀ t ∈ l, t.under 0) → ∀ x ∈ outSV n l o, ∀ q, x.s.ment q → n ≤ q ∧ q < n + l.length
  | [], _, _, x, hx, _, _ => by simp [outSV] at hx
  | .val s :: l, o, hu, x, hx, q, hq => by
    rcases List.mem_cons.1 hx with rfl | hx
    · exact absurd (ment_under (hu (.val s) (by simp)).1 hq) (Nat.not_lt_zero _)
    · have := outSV_ment (n := n + 1) (fun t ht => hu t (by simp [ht])) x hx q hq
      simp only [List.length_cons]; omega
  | .own e a :: l, o, hu, x, hx, q, hq => by
    rcases List.mem_cons.1 hx with rfl | hx
    · obtain rfl : n = q := hq
      simp only [List.length_cons]; omega
    · have := outSV_ment (n := n + 1) (fun t ht => hu t (by simp [ht])) x hx q hq
      simp only [List.length_cons]; omega
theorem resOf_ment {q : Nat} : ∀ {l : List SV}, (resOf l).s.ment q → ∃ x ∈ l, x.s.ment q
  | [], h => h.elim
  | [x], h => ⟨x, by simp, h⟩
  | x :: y :: r, h => by
    have : ∀ {l : List SV}, (tupOf l).s.ment q → ∃ x ∈ l, x.s.ment q := by
      intro l
      induction l with
      | nil => intro h; exact h.elim
      | cons x l ih =>
        intro h
        rcases h with h | h
        · exact ⟨x, by simp, h⟩
        · obtain ⟨y, hy, h⟩ := ih h; exact ⟨y, by simp [hy], h⟩
    exact this h

theorem outObjs_val {n : Nat} {f : Nat → Option Ob} : ∀ {l : List RS} {o : RSD l}, allB RS.isVal l = true → outObjs n f l o = f
  | [], _, _ => rfl
  | .val s :: l, o, h => by
    simp only [allB, Bool.and_eq_true] at h
    exact outObjs_val (n := n + 1) (l := l) (o := o.2) h.2
  | .own _ _ :: l, _, h => by simp [allB, RS.isVal] at h
theorem outEta_high {n : Nat} {η : Nat → Value} : ∀ {l : List RS} {vs : List Value} {q : Nat}, n + l.length ≤ q → outEta n η l vs q = η q
  | [], vs, _, _ => by cases vs <;> rfl
  | .val s :: l, [], _, _ => rfl
  | .own _ _ :: l, [], _, _ => rfl
  | .val s :: l, v :: vs, q, h => outEta_high (n := n + 1) (l := l) (vs := vs) (by simp only [List.length_cons] at h; omega)
  | .own _ _ :: l, v :: vs, q, h => by
    simp only [List.length_cons] at h
    simp only [outEta]
    rw [upd_ne _ _ (by omega)]
    exact outEta_high (n := n + 1) (l := l) (vs := vs) (by omega)
theorem outEta_val {n : Nat} {η : Nat → Value} : ∀ {l : List RS} {vs : List Value}, allB RS.isVal l = true → outEta n η l vs = η
  | [], vs, _ => by cases vs <;> rfl
  | .val s :: l, [], _ => rfl
  | .val s :: l, v :: vs, h => by
    simp only [allB, Bool.and_eq_true] at h
    exact outEta_val (n := n + 1) h.2
  | .own _ _ :: l, vs, h => by simp [allB, RS.isVal] at h
theorem outSV_under {n : Nat} : ∀ {l : List RS} {o : RSD l}, allB RS.isVal l = true → (∀ t ∈ l, t.under 0) → ∀ x ∈ outSV n l o, x.s.under 0
  | [], _, _, _, x, hx => by simp [outSV] at hx
  | .val s :: l, o, h, hu, x, hx => by
    simp only [allB, Bool.and_eq_true] at h
    rcases List.mem_cons.1 hx with rfl | hx
    · exact (hu (.val s) (by simp)).1
    · exact outSV_under (n := n + 1) h.2 (fun t ht => hu t (by simp [ht])) x hx
  | .own _ _ :: l, _, h, _, _, _ => by simp [allB, RS.isVal] at h

open Classical in
theorem call_effM {env : Env} {S : World → Prop} (hE : EnvOK P S env) {dst : Option Tmp} {ty : TypeId} {pos : String} {after : Array Edge} {guard : Option (Nat × Bool)} {f : Operand} {args : Array Operand} {argTypes : Array TypeId}
    {sl : Nat → SV} {rd : Nat → Option Ob} {nx n0 : Nat} (hU : Und sl rd nx) {g : Nat} {c : Sh} {d : c.D} (hcap : capOk c = true) (ef : evalO sl f = ⟨.fn g c, d⟩)
    {s : Sig} (hmem : s ∈ env g) {ds : ShD s.ins} (hds : argsCo rd s.ins (args.toList.map (evalO sl) ++ capsOf ⟨c, d⟩) = some ds)
    (himm : (anyB (fun v : SV => v.s.hasRef) (args.toList.map (evalO sl) ++ capsOf ⟨c, d⟩) && anyB RS.imm s.outs) = false) {o : RSD s.outs} (ho : s.f ds = some o) :
    EffM P S ⟨dst, .call { callee := .value f, args, argTypes }, ty, pos, after, guard⟩ sl rd (resOf (outSV n0 s.outs o)) ⟨outObjs n0 (fun _ => none) s.outs o, n0, n0 + (bif allB RS.isVal s.outs then 0 else s.outs.length)⟩ := by
  intro w ok η a hSw hsl0 hrd K Q hK
  have hs := hE g s hmem
  have hmemo : ∀ x : Operand, (x = f ∨ x ∈ args.toList) → x ∈ (Op.call { callee := .value f, args, argTypes }).operands := by
    rintro x (rfl | hx)
    · simp [Op.operands, Call.operands]
    · simp [Op.operands, Call.operands]; exact .inr (by simpa using hx)
  obtain ⟨slM, hM⟩ : ∃ slM : Nat → SV, slM = fun t => if Operand.tmp t ∈ (Op.call { callee := .value f, args, argTypes }).operands then sl t else .undef := ⟨_, rfl⟩
  have hsl : ∀ t, VS w ok η (slM t) (a.tmps.getD t undef) := by
    intro t
    rw [hM]
    by_cases h : Operand.tmp t ∈ (Op.call { callee := .value f, args, argTypes }).operands
    · simp only [if_pos h]; exact hsl0 t h
    · simp only [if_neg h]; trivial
  have heq : ∀ x : Operand, (x = f ∨ x ∈ args.toList) → evalO slM x = evalO sl x := by
    intro x hx
    have := hmemo x hx
    cases x with
    | tmp t => simp only [evalO, hM, if_pos this]
    | _ => rfl
  have hslu : ∀ t, (slM t).s.under nx := by
    intro t
    rw [hM]
    dsimp only
    split
    · exact hU.slots t
    · trivial
  have hmapeq : args.toList.map (evalO slM) = args.toList.map (evalO sl) := List.map_congr_left fun x hx => heq x (.inr hx)
  rw [← hmapeq] at hds himm
  rw [← heq f (.inl rfl)] at ef
  have hvf : VS w ok η (evalO slM f) (a.eval f) := evalO_VS (ops := #[f]) (fun t _ => hsl t) (by simp)
  obtain ⟨caps, hfv, hcaps⟩ := V_fn hvf ef
  have huf : c.under nx := by have := evalO_under hslu f; rw [ef] at this; exact this
  obtain ⟨ok2, hok2, hall⟩ : ∃ ok2 : Nat → Prop, (∀ b, ok b → ok2 b) ∧ ((anyB (fun v : SV => v.s.hasRef) (args.toList.map (evalO slM) ++ capsOf ⟨c, d⟩) = true ∧ ∀ b, ok2 b) ∨ (anyB (fun v : SV => v.s.hasRef) (args.toList.map (evalO slM) ++ capsOf ⟨c, d⟩) = false ∧ ok2 = ok)) := by
    cases hq : anyB (fun v : SV => v.s.hasRef) (args.toList.map (evalO slM) ++ capsOf ⟨c, d⟩) with
    | true => exact ⟨fun _ => True, fun _ _ => trivial, .inl ⟨rfl, fun _ => trivial⟩⟩
    | false => exact ⟨ok, fun _ h => h, .inr ⟨rfl, rfl⟩⟩
  have hcl : (capsOf ⟨c, d⟩).length = caps.toList.length := by
    have len : ∀ {c : Sh} {d : c.D}, capOk c = true → (capsOf ⟨c, d⟩).length = c.cells := by
      intro c
      induction c with
      | pair a b iha ihb => intro d h; have := ihb (d := d.2) h; simp only [capsOf, capsS, List.length_cons, Sh.cells] at this ⊢; rw [this]
      | unit => intro d h; rfl
      | _ => intro d h; simp [capOk] at h
    rw [len hcap, C_length hcaps]
  have hargs : ArgsRep w ok2 η s.ins ds (args.map a.eval ++ caps).toList := by
    rw [Array.toList_append, Array.toList_map]
    refine argsCo_V hok2 hrd (n := nx) hs.ins ?_ (VSs_append (VSs_map hsl args.toList) (caps_V hcl hcaps)) hds ?_
    · intro v hv
      rcases List.mem_append.1 hv with hv | hv
      · obtain ⟨x, _, rfl⟩ := List.mem_map.1 hv
        exact evalO_under hslu x
      · exact capsOf_under huf v hv
    · intro hq
      rcases hall with ⟨_, h2⟩ | ⟨h1, _⟩
      · exact h2
      · rw [h1] at hq; cases hq
  have hcalls := hs.calls ds o ho w ok2 η _ hSw hargs
  unfold Oper.wp
  rw [run_call_func hfv hs w, Oper.upon_enter]
  refine hcalls.mono fun e w' hb => ?_
  obtain ⟨vs, own, rfl, hbel, hnd, hres⟩ := hb
  obtain ⟨a1, a2, a3, a4, a5, _, _⟩ := out_lemma (ok' := ok) (n0 := n0) (n := n0) (f := fun _ => none) (fun q x hx => by cases hx) (Nat.le_refl _) hnd hres hs.outs
  have hnone : ∀ q x, outObjs n0 (fun _ => none) s.outs o q = some x → n0 ≤ q := by
    intro q x hx
    rcases Nat.lt_or_ge q n0 with h | h
    · rw [a2 q h] at hx; cases hx
    · exact h
  refine hK _ w' (outEta n0 η s.outs vs) hbel ?_ ?_ ?_ ?_
  · intro l hl
    cases hv : allB RS.isVal s.outs with
    | true => rw [outEta_val hv]
    | false =>
      rw [hv, cond_false] at hl
      rcases hl with hl | hl
      · exact a1 l hl
      · exact outEta_high hl
  · intro l x b hx hb
    exact a5 b ((a3 l x hx (hnone l x hx)).2.2.2 b hb)
  · intro l l' x x' b hx hx' hb hb'
    exact a4 l l' x x' b (hnone l x hx) (hnone l' x' hx') hx hx' hb hb'
  intro ok' h1 h2
  obtain ⟨_, _, _, _, _, a6, a7⟩ := out_lemma (ok' := ok') (n0 := n0) (n := n0) (f := fun _ => none) (fun q x hx => by cases hx) (Nat.le_refl _) hnd hres hs.outs
  have hok : ∀ t ∈ s.outs, t.imm = false ∨ ∀ b, ((b < w.heap.size ∧ ok2 b) ∨ (w.heap.size ≤ b ∧ b ∉ own)) → ok' b := by
    intro t ht
    rcases hall with ⟨h1', _⟩ | ⟨_, h2'⟩
    · left
      rw [h1', Bool.true_and] at himm
      have any_false : ∀ {l : List RS}, anyB RS.imm l = false → ∀ t ∈ l, t.imm = false := by
        intro l
        induction l with
        | nil => intro _ t ht; simp at ht
        | cons a l ih =>
          intro h t ht
          simp only [anyB, Bool.or_eq_false_iff] at h
          rcases List.mem_cons.1 ht with rfl | ht
          · exact h.1
          · exact ih h.2 t ht
      exact any_false himm t ht
    · right
      intro b hb
      rcases hb with ⟨h3, h4⟩ | ⟨h3, h4⟩
      · rw [h2'] at h4; exact h1 b h3 h4
      · exact h2 b h3 fun l x hx hbl => h4 ((a3 l x hx (hnone l x hx)).2.2.2 b hbl)
  have hres' := a7 (outEta n0 η s.outs vs) (fun q _ _ => rfl) hok
  refine ⟨resOf_V (fun x hx => (a6 x hx).2) hres', fun l x hx => ?_⟩
  obtain ⟨_, hux, ⟨e, s', xs, m, rfl, hin, h3, h4⟩, h5⟩ := a3 l x hx (hnone l x hx)
  refine owns_OK1 (m := m) ?_ ?_
  · obtain ⟨q1, q2⟩ := h3
    refine ⟨q1, q2.imp id ?_⟩
    rintro ⟨g, cap, cur, k1, _, k2⟩
    exact ⟨g, cap, cur, k1, Nat.zero_le _, k2⟩
  · refine ⟨h4.1, fun i hi => ?_⟩
    have h6 := C_free (η' := outEta n0 η s.outs vs) hux (h4.2 i hi)
    rcases hok _ hin with hi' | hi'
    · exact C_noimm hi' h6
    · exact C_ok hi' hux h6

theorem qStep_sound {R : Type} {tt : TT} (hT : TTok P tt) {env : Env} {S : World → Prop} (hE : EnvOK P S env) {o : Oper} {sl : Nat → SV} {rd : Nat → Option Ob} {base nx : Nat} (hU : Und sl rd nx) (hrd : ∀ l x, rd l = some x → x.under base ∧ l < base) (hbn : base ≤ nx)
    {k : SV → (Nat → Option Ob) → Nat → Option R} {r : R}
    (h : qStep tt env o sl rd base nx k = some r) : ∃ v mo c, k v mo c = some r ∧ v.s.under (nx + c) ∧ (∀ l, v.s.ment l → l < base ∨ (nx ≤ l ∧ l < nx + c)) ∧ (∀ l x, mo l = some x → nx ≤ l ∧ l < nx + c ∧ x.under base) ∧ EffM P S o sl rd v ⟨mo, nx, nx + c⟩ := by
  unfold qStep at h
  split at h
  · rename_i f args argTypes e
    obtain ⟨dst, op, ty, pos, after, guard⟩ := o
    obtain rfl : op = _ := e
    split at h
    case h_2 => cases h
    rename_i g c d ef
    cases hcap : capOk c with
    | false => rw [hcap, cond_false] at h; cases h
    | true =>
    rw [hcap, cond_true] at h
    split at h
    case h_2 => cases h
    rename_i s rest henv
    split at h
    case h_2 => cases h
    rename_i ds hds
    cases hc : (anyB (fun v : SV => v.s.hasRef) (args.toList.map (evalO sl) ++ capsOf ⟨c, d⟩) && anyB RS.imm s.outs) with
    | true => rw [hc, cond_true] at h; cases h
    | false =>
    rw [hc, cond_false] at h
    obtain ⟨o', ho, h⟩ := bind_some h
    have hmem : s ∈ env g := by rw [henv]; simp
    have houts := (hE g s hmem).outs
    have hment : ∀ q, (resOf (outSV nx s.outs o')).s.ment q → nx ≤ q ∧ q < nx + (bif allB RS.isVal s.outs then 0 else s.outs.length) := by
      intro q hq
      obtain ⟨x, hx, hq⟩ := resOf_ment hq
      cases hv : allB RS.isVal s.outs with
      | true => exact absurd (ment_under (outSV_under hv houts x hx) hq) (Nat.not_lt_zero _)
      | false => exact outSV_ment houts x hx q hq
    have hsup : ∀ l x, outObjs nx (fun _ => none) s.outs o' l = some x → nx ≤ l ∧ l < nx + (bif allB RS.isVal s.outs then 0 else s.outs.length) ∧ x.under base := by
      intro l x hx
      cases hv : allB RS.isVal s.outs with
      | true => rw [outObjs_val hv] at hx; cases hx
      | false =>
        have sup : ∀ {l : List RS} {o : RSD l} {n q : Nat} {x : Ob}, (∀ t ∈ l, t.under 0) → outObjs n (fun _ => none) l o q = some x → n ≤ q ∧ q < n + l.length ∧ x.under 0 := by
          intro l
          induction l with
          | nil => intro o n q x _ h; cases h
          | cons t l ih =>
            intro o n q x hu h
            cases t with
            | val s =>
              have := ih (n := n + 1) (fun t ht => hu t (by simp [ht])) h
              simp only [List.length_cons]; exact ⟨by omega, by omega, this.2.2⟩
            | own e a =>
              simp only [outObjs] at h
              by_cases e' : q = n
              · subst e'
                rw [upd_same] at h
                cases h
                simp only [List.length_cons]
                exact ⟨Nat.le_refl _, by omega, hu (.own e a) (by simp)⟩
              · rw [upd_ne _ _ e'] at h
                have := ih (n := n + 1) (fun t ht => hu t (by simp [ht])) h
                simp only [List.length_cons]; exact ⟨by omega, by omega, this.2.2⟩
        have := sup houts hx
        exact ⟨this.1, this.2.1, Ob.under_mono (Nat.zero_le _) this.2.2⟩
    refine ⟨_, _, _, h, ?_, fun q hq => .inr (hment q hq), hsup, call_effM hE hU hcap ef hmem hds hc ho⟩
    refine resOf_under fun x hx => ?_
    cases hv : allB RS.isVal s.outs with
    | true => exact under_mono (Nat.zero_le _) (outSV_under hv houts x hx)
    | false =>
      have und : ∀ {l : List RS} {o : RSD l} {n : Nat}, (∀ t ∈ l, t.under 0) → ∀ x ∈ outSV n l o, x.s.under (n + l.length) := by
        intro l
        induction l with
        | nil => intro o n _ x hx; simp [outSV] at hx
        | cons t l ih =>
          intro o n hu x hx
          cases t with
          | val s =>
            rcases List.mem_cons.1 hx with rfl | hx
            · exact under_mono (Nat.zero_le _) (hu (.val s) (by simp)).1
            · have := ih (n := n + 1) (fun t ht => hu t (by simp [ht])) x hx
              exact under_mono (by simp only [List.length_cons]; omega) this
          | own e a =>
            rcases List.mem_cons.1 hx with rfl | hx
            · show n < n + (l.length + 1); omega
            · have := ih (n := n + 1) (fun t ht => hu t (by simp [ht])) x hx
              exact under_mono (by simp only [List.length_cons]; omega) this
      exact und houts x hx
  · obtain ⟨v, ob, hk, hvu, hvn, hou, hEff⟩ := act_sound hT hU h
    cases ob with
    | some x =>
      dsimp only at hk
      cases hp : (v.s.isPtr nx && x.underB base) with
      | false => rw [hp, cond_false] at hk; cases hk
      | true =>
      rw [hp, cond_true] at hk
      simp only [Bool.and_eq_true] at hp
      have hmo : ∀ l y, upd (fun _ => none) nx (some x) l = some y → l = nx ∧ y = x := by
        intro l y hy
        by_cases e : l = nx
        · subst e; rw [upd_same] at hy; cases hy; exact ⟨rfl, rfl⟩
        · rw [upd_ne _ _ e] at hy; cases hy
      refine ⟨v, _, 1, hk, hvu, fun l hl => ?_, fun l y hy => ?_, ?_⟩
      · obtain ⟨s, d⟩ := v
        cases s <;> simp only [Sh.isPtr, Bool.false_eq_true, false_and] at hp
        rename_i q o
        simp only [Bool.and_eq_true] at hp
        obtain rfl := Nat.eq_of_beq_eq_true hp.1.1
        obtain rfl : q = l := hl
        exact .inr ⟨Nat.le_refl _, Nat.lt_succ_self _⟩
      · obtain ⟨rfl, rfl⟩ := hmo l y hy
        exact ⟨Nat.le_refl _, Nat.lt_succ_self _, Ob_underB hp.2⟩
      · intro w ok η a _ hsl hrd' K Q hK
        obtain ⟨val, w', hrun, hbel, hres⟩ := hEff w ok η a hsl hrd'
        unfold Oper.wp
        rw [hrun, Oper.upon_value]
        have hE' : ∀ ok' : Nat → Prop, (∀ b, b < w.heap.size → ok b → ok' b) → _ := fun ok' h1 => hres ok' (upd η nx (.pointer (some ⟨w.heap.size, 0, none⟩)))
          ⟨fun ad u ho hu => ⟨h1 _ (World.block_lt_of_cell? w ad hu) ho, (hbel.cell (World.block_lt_of_cell? w ad hu)).trans hu⟩, fun l hl => upd_ne _ _ (Nat.ne_of_lt hl)⟩ (fun h => by cases h) (fun y hy => upd_same _ _ _)
        have hsz := ((hE' (fun _ => True) (fun _ _ _ => trivial)).2 x rfl).2
        have hη : upd η nx (.pointer (some ⟨w.heap.size, 0, none⟩)) nx = .pointer (some ⟨w.heap.size, 0, none⟩) := upd_same _ _ _
        refine hK val w' (upd η nx (.pointer (some ⟨w.heap.size, 0, none⟩))) hbel (fun l hl => upd_ne _ _ ?_) (fun l y b hy hb => ?_) (fun l l' y y' b hy hy' hb hb' => ?_) (fun ok' h1 h2 => ?_)
        · dsimp only at hl; omega
        · obtain ⟨rfl, rfl⟩ := hmo l y hy
          rw [hη] at hb
          simp only [blk, Option.some.injEq] at hb
          omega
        · rw [(hmo l y hy).1, (hmo l' y' hy').1]
        · refine ⟨(hE' ok' h1).1, fun l y hy => ?_⟩
          obtain ⟨rfl, rfl⟩ := hmo l y hy
          exact ((hE' ok' h1).2 y rfl).1
    | none =>
      dsimp only at hk
      cases hu : v.s.underB base with
      | false => rw [hu, cond_false] at hk; cases hk
      | true =>
      rw [hu, cond_true] at hk
      refine ⟨v, (fun _ => none), 0, hk, under_mono (by omega) (underB_under hu), fun l hl => .inl (ment_under (underB_under hu) hl), (fun l x hx => by cases hx), fun w ok η a _ hsl hrd K Q hK => ?_⟩
      obtain ⟨val, w', hrun, hbel, hres⟩ := hEff w ok η a hsl hrd
      unfold Oper.wp
      rw [hrun, Oper.upon_value]
      refine hK val w' η hbel (fun _ _ => rfl) (fun l x b hx => by cases hx) (fun l l' x x' b hx => by cases hx) fun ok' h1 h2 => ⟨(hres ok' η ⟨fun ad u ho hu => ⟨h1 _ (World.block_lt_of_cell? w ad hu) ho, (hbel.cell (World.block_lt_of_cell? w ad hu)).trans hu⟩, fun _ _ => rfl⟩ (fun _ b hb => h2 b hb fun l x hx => by cases hx) (fun x hx => by cases hx)).1, fun l x hx => by cases hx⟩
end Go.Rai

/- What each operation of a drawn region comes to, out of the one walk. -/
set_option linter.unusedVariables false
set_option linter.unusedSimpArgs false
namespace Go.Rai
open Go.RowKit
variable {P : Program}

def over {α : Type} (l : List (Nat × Oper)) (F cur : Nat → α) : Nat → α := fun t => bif memN t (dsts l) then F t else cur t
theorem over_in {α : Type} {l : List (Nat × Oper)} {F cur : Nat → α} {t : Nat} (h : t ∈ dsts l) : over l F cur t = F t := by simp only [over, memN_iff.2 h, cond_true]
theorem over_out {α : Type} {l : List (Nat × Oper)} {F cur : Nat → α} {t : Nat} (h : t ∉ dsts l) : over l F cur t = cur t := by simp only [over, memN_false h, cond_false]
def updO {α : Type} (f : Nat → α) (dst : Option Nat) (v : α) : Nat → α := match dst with | some d => upd f d v | none => f
theorem updO_same {α : Type} {f : Nat → α} {dst : Option Nat} {d : Nat} {v : α} (h : dst = some d) : updO f dst v d = v := by subst h; exact upd_same _ _ _
theorem updO_ne {α : Type} {f : Nat → α} {dst : Option Nat} {t : Nat} {v : α} (h : dst ≠ some t) : updO f dst v t = f t := by
  cases dst with
  | none => rfl
  | some d => exact upd_ne _ _ (fun e => h (by rw [e]))

def Fact (P : Program) (S : World → Prop) (ops : Array Oper) (rd : Nat → Option Ob) (vw : Nat → SV) (sv : Nat → Bool) (o : Oper) (F : Nat → SV) (sk : Nat → Bool) (M : Nat → Mk) : Prop :=
  (∃ j want dj, o.guard = some (j, want) ∧ dstOf ops j = some dj ∧ (sv dj = true ∨ (sv dj = false ∧ ∃ b, vw dj = ⟨.bool, b⟩ ∧ b ≠ want)) ∧ ∀ d, o.dst = some d → sk d = true ∧ F d = .undef ∧ ∀ x, (M d).f x = none) ∨
  ((o.guard = none ∨ ∃ j want dj, o.guard = some (j, want) ∧ dstOf ops j = some dj ∧ sv dj = false ∧ vw dj = ⟨.bool, want⟩) ∧
    ∃ sl v m, (∀ t, sl t = .undef ∨ sl t = vw t) ∧ EffM P S o sl rd v m ∧ (o.dst = none → m.lo = m.hi ∧ ∀ x, m.f x = none) ∧ ∀ d, o.dst = some d → sk d = false ∧ F d = v ∧ M d = m)
theorem Fact.congr {S : World → Prop} {ops : Array Oper} {rd : Nat → Option Ob} {vw vw' : Nat → SV} {sv sv' : Nat → Bool} {o : Oper} {F F' : Nat → SV} {sk sk' : Nat → Bool} {M M' : Nat → Mk} (h : Fact P S ops rd vw sv o F sk M)
    (h1 : vw' = vw) (h2 : sv' = sv) (h3 : ∀ d, o.dst = some d → sk' d = sk d ∧ F' d = F d ∧ M' d = M d) : Fact P S ops rd vw' sv' o F' sk' M' := by
  subst h1 h2
  rcases h with ⟨j, want, dj, a1, a2, a3, a4⟩ | ⟨g, sl, v, m, a1, a2, a3, a4⟩
  · exact .inl ⟨j, want, dj, a1, a2, a3, fun d hd => by rw [(h3 d hd).1, (h3 d hd).2.1, (h3 d hd).2.2]; exact a4 d hd⟩
  · exact .inr ⟨g, sl, v, m, a1, a2, a3, fun d hd => by rw [(h3 d hd).1, (h3 d hd).2.1, (h3 d hd).2.2]; exact a4 d hd⟩

def GG (ops : Array Oper) (cur : Nat → SV) (sk : Nat → Bool) (l : List (Nat × Oper)) : Option (Nat × Bool) → Prop
  | none => True
  | some (j, want) => ∃ dj, dstOf ops j = some dj ∧ sk dj = false ∧ cur dj = ⟨.bool, want⟩ ∧ dj ∉ dsts l

theorem skips_at {ops : Array Oper} {j : Nat} {want : Bool} : ∀ {l : List (Nat × Oper)} {seen : List Nat}, skipsB ops j want seen l = true → ∀ l1 q l2, l = l1 ++ q :: l2 →
    ∃ j' w', q.2.guard = some (j', w') ∧ ((j' = j ∧ w' = want) ∨ ∃ d, dstOf ops j' = some d ∧ (d ∈ seen ∨ d ∈ dsts l1))
  | [], seen, _, l1, q, l2, h => by simp at h
  | p :: l, seen, hs, l1, q, l2, h => by
    simp only [skipsB, Bool.and_eq_true] at hs
    obtain ⟨h1, h2⟩ := hs
    cases l1 with
    | nil =>
      simp only [List.nil_append, List.cons.injEq] at h
      obtain ⟨rfl, rfl⟩ := h
      split at h1
      · cases h1
      · rename_i j' w' hg
        refine ⟨j', w', hg, ?_⟩
        simp only [Bool.or_eq_true, Bool.and_eq_true, beq_iff_eq] at h1
        rcases h1 with ⟨h3, h4⟩ | h3
        · exact .inl ⟨Nat.eq_of_beq_eq_true h3, h4⟩
        · split at h3
          · rename_i d hd
            exact .inr ⟨d, hd, .inl (memN_iff.1 h3)⟩
          · cases h3
    | cons p' l1 =>
      simp only [List.cons_append, List.cons.injEq] at h
      obtain ⟨rfl, rfl⟩ := h
      obtain ⟨j', w', hg, h3⟩ := skips_at h2 l1 q l2 rfl
      refine ⟨j', w', hg, h3.imp id ?_⟩
      rintro ⟨d, hd, h4⟩
      refine ⟨d, hd, ?_⟩
      rcases h4 with h4 | h4
      · cases hp : p.2.dst with
        | none => rw [hp] at h4; exact .inl h4
        | some e =>
          rw [hp] at h4
          rcases List.mem_cons.1 h4 with rfl | h4
          · exact .inr (mem_dsts.2 ⟨p, by simp, hp⟩)
          · exact .inl h4
      · obtain ⟨x, hx, hd'⟩ := mem_dsts.1 h4
        exact .inr (mem_dsts.2 ⟨x, by simp [hx], hd'⟩)

theorem split3 {α : Type} : ∀ {inner : List α} {p : α} {rest l1 : List α} {q : α} {l2 : List α}, inner ++ p :: rest = l1 ++ q :: l2 →
    (∃ l2', inner = l1 ++ q :: l2') ∨ (l1 = inner ∧ q = p) ∨ (∃ l1', l1 = inner ++ p :: l1' ∧ rest = l1' ++ q :: l2)
  | [], p, rest, [], q, l2, h => by
    simp only [List.nil_append, List.cons.injEq] at h
    exact .inr (.inl ⟨rfl, h.1.symm⟩)
  | [], p, rest, x :: l1, q, l2, h => by
    simp only [List.nil_append, List.cons_append, List.cons.injEq] at h
    obtain ⟨rfl, h⟩ := h
    exact .inr (.inr ⟨l1, rfl, h⟩)
  | y :: inner, p, rest, [], q, l2, h => by
    simp only [List.nil_append, List.cons_append, List.cons.injEq] at h
    obtain ⟨rfl, h⟩ := h
    exact .inl ⟨inner, rfl⟩
  | y :: inner, p, rest, x :: l1, q, l2, h => by
    simp only [List.cons_append, List.cons.injEq] at h
    obtain ⟨rfl, h⟩ := h
    rcases split3 h with ⟨l2', rfl⟩ | ⟨rfl, rfl⟩ | ⟨l1', rfl, rfl⟩
    · exact .inl ⟨l2', rfl⟩
    · exact .inr (.inl ⟨rfl, rfl⟩)
    · exact .inr (.inr ⟨l1', rfl, rfl⟩)

theorem pick_effM {S : World → Prop} {o : Oper} {dj : Nat} {x y : Operand} (ho : o.op = .pick (.tmp dj) x y) {sl : Nat → SV} {rd : Nat → Option Ob} {b r : Bool} {n : Nat} (h1 : sl dj = ⟨.bool, b⟩) (h2 : evalO sl (bif b then x else y) = ⟨.bool, r⟩) : EffM P S o sl rd ⟨.bool, r⟩ ⟨fun _ => none, n, n⟩ := by
  intro w ok η a _ hsl hrd K Q hK
  have hv : a.eval (.tmp dj) = .bool b := by
    have := hsl dj (by rw [ho]; simp [Op.operands])
    rw [h1] at this
    exact V_bool this rfl
  have hc : a.eval (bif b then x else y) = .bool r := by
    have : VS w ok η (evalO sl (bif b then x else y)) (a.eval (bif b then x else y)) := evalO_VS (ops := o.op.operands) hsl (by rw [ho]; cases b <;> simp [Op.operands])
    exact V_bool this h2
  have hrun : (execOp a.eval o).run P w = .ok (.value (.bool r)) w := by
    cases b <;> simp only [cond_true, cond_false] at hc <;> simp [execOp, ho, hv, asBool, hc]
  unfold Oper.wp
  rw [hrun, Oper.upon_value]
  exact hK _ w η (Below.refl _ _) (fun _ _ => rfl) (fun l x b hx => by cases hx) (fun l l' x x' b hx => by cases hx) fun ok' _ _ => ⟨rfl, fun l x hx => by cases hx⟩

theorem addF_some {f g : Nat → Option Ob} {l : Nat} {x : Ob} : addF f g l = some x ↔ g l = some x ∨ (g l = none ∧ f l = some x) := by
  unfold addF
  cases h : g l with
  | none => simp
  | some y => simp
theorem dsts_append {l l' : List (Nat × Oper)} : dsts (l ++ l') = dsts l ++ dsts l' := by
  induction l with
  | nil => rfl
  | cons p l ih =>
    simp only [List.cons_append, dsts]
    cases p.2.dst <;> simp [ih]
theorem dsts_cons {p : Nat × Oper} {l : List (Nat × Oper)} : dsts (p :: l) = (match p.2.dst with | some d => d :: dsts l | none => dsts l) := rfl
theorem nodup_tail {p : Nat × Oper} {l : List (Nat × Oper)} (h : (dsts (p :: l)).Nodup) : (dsts l).Nodup ∧ ∀ d, p.2.dst = some d → d ∉ dsts l := by
  rw [dsts_cons] at h
  cases hp : p.2.dst with
  | none => rw [hp] at h; exact ⟨h, fun d hd => by cases hd⟩
  | some e =>
    rw [hp] at h
    exact ⟨(List.nodup_cons.1 h).2, fun d hd => by cases hd; exact (List.nodup_cons.1 h).1⟩
theorem notin_cons {p : Nat × Oper} {l : List (Nat × Oper)} {t : Nat} : t ∉ dsts (p :: l) ↔ p.2.dst ≠ some t ∧ t ∉ dsts l := by
  rw [mem_dsts, mem_dsts]
  constructor
  · intro h
    exact ⟨fun e => h ⟨p, by simp, e⟩, fun ⟨q, hq, e⟩ => h ⟨q, by simp [hq], e⟩⟩
  · rintro ⟨h1, h2⟩ ⟨q, hq, e⟩
    rcases List.mem_cons.1 hq with rfl | hq
    · exact h1 e
    · exact h2 ⟨q, hq, e⟩

theorem evalA_facts {tt : TT} (hT : TTok P tt) {env : Env} {S : World → Prop} (hE : EnvOK P S env) {ops : Array Oper} : ∀ (fuel : Nat) {R : Type} {mk : Bool} {g : Option (Nat × Bool)} {l : List (Nat × Oper)} {nx : Nat} {made : Nat → Option Ob} {st : St} {k : St → Option R} {r : R} {cur : Nat → SV} {sk0 : Nat → Bool} {M0 : Nat → Mk},
    evalA tt env ops fuel mk g l nx made st k = some r → Und cur st.objs nx → (∀ l x, st.objs l = some x → x.under st.next ∧ l < st.next) → st.next ≤ nx → (∀ t, st.slots t = .undef ∨ st.slots t = cur t) → (∀ t, sk0 t = true → cur t = .undef) → (dsts l).Nodup → GG ops cur sk0 l g →
    ∃ F sk M sl' nx' made', k { st with slots := sl', objs := addF st.objs made', next := nx' } = some r ∧ (∀ t, sl' t = .undef ∨ sl' t = F t) ∧ (∀ t, t ∉ dsts l → F t = cur t ∧ sk t = sk0 t ∧ sl' t = st.slots t ∧ M t = M0 t) ∧ (∀ t, (F t).s.under nx') ∧ (∀ t, sk t = true → F t = .undef) ∧
      (∀ d ∈ dsts l, st.lockS d = false) ∧ (∀ l1 q l2, l = l1 ++ q :: l2 → Fact P S ops st.objs (over l1 F cur) (over l1 sk sk0) q.2 F sk M) ∧
      (nx ≤ nx' ∧ (mk = false → nx' = nx)) ∧
      (∀ d ∈ dsts l, nx ≤ (M d).lo ∧ (M d).lo ≤ (M d).hi ∧ (M d).hi ≤ nx' ∧ (∀ x, (F d).s.ment x → x < st.next ∨ ((M d).lo ≤ x ∧ x < (M d).hi)) ∧ ∀ x ob, (M d).f x = some ob → (M d).lo ≤ x ∧ x < (M d).hi ∧ ob.under st.next) ∧
      (∀ d d', d ∈ dsts l → d' ∈ dsts l → d ≠ d' → (M d).hi ≤ (M d').lo ∨ (M d').hi ≤ (M d).lo) ∧
      ((∀ x ob, made x = some ob → x < nx) → ∀ x ob, made' x = some ob ↔ made x = some ob ∨ ∃ d ∈ dsts l, (M d).f x = some ob)
  | 0, R, mk, g, l, nx, made, st, k, r, cur, sk0, M0, h, _, _, _, _, _, _, _ => by simp [evalA] at h
  | fuel + 1, R, mk, g, [], nx, made, st, k, r, cur, sk0, M0, h, hU, hbo, hbn, hst, hsk, hnd, hg => ⟨cur, sk0, M0, st.slots, nx, made, by simpa [evalA] using h, hst, fun t _ => ⟨rfl, rfl, rfl, rfl⟩, hU.slots, hsk, (fun d hd => by simp [dsts] at hd), (fun l1 q l2 e => by simp at e), ⟨Nat.le_refl _, fun _ => rfl⟩, (fun d hd => by simp [dsts] at hd), (fun d d' hd => by simp [dsts] at hd), fun _ x ob => ⟨.inl, fun h => h.elim id fun ⟨d, hd, _⟩ => by simp [dsts] at hd⟩⟩
  | fuel + 1, R, mk, g, (i, o) :: rest, nx, made, st, k, r, cur, sk0, M0, h, hU, hbo, hbn, hst, hsk, hnd, hg => by
    have hUs : Und st.slots st.objs nx := ⟨fun t => by rcases hst t with e | e <;> rw [e]; exact trivial; exact hU.slots t, hU.objs⟩
    simp only [evalA] at h
    obtain ⟨hnd', hnd0⟩ := nodup_tail hnd
    -- a guard that is kept
    have sat : ∀ {o' : Oper} {vw : Nat → SV} {sv : Nat → Bool}, (gEq o'.guard none || gEq o'.guard g) = true → (∀ t, t ∉ dsts ((i, o) :: rest) → vw t = cur t ∧ sv t = sk0 t) →
        (o'.guard = none ∨ ∃ j want dj, o'.guard = some (j, want) ∧ dstOf ops j = some dj ∧ sv dj = false ∧ vw dj = ⟨.bool, want⟩) := by
      intro o' vw sv hgd hvw
      rcases (Bool.or_eq_true _ _ ▸ hgd).imp gEq_eq gEq_eq with e | e
      · exact .inl e
      · cases hg' : g with
        | none => rw [hg'] at e; exact .inl e
        | some p =>
          obtain ⟨j, want⟩ := p
          rw [hg'] at e hg
          obtain ⟨dj, h1, h2, h3, h4⟩ := hg
          exact .inr ⟨j, want, dj, e, h1, by rw [(hvw dj h4).2]; exact h2, by rw [(hvw dj h4).1]; exact h3⟩
    cases hgd : (gEq o.guard none || gEq o.guard g) with
    | true =>
      rw [hgd, cond_true] at h
      cases hlk : isLocked st o.dst with
      | true => rw [hlk, cond_true] at h; cases h
      | false =>
      rw [hlk, cond_false] at h
      obtain ⟨v, mo, c, hk, hvu, hvm, hmo, hEff⟩ := qStep_sound hT hE hUs hbo hbn h
      obtain ⟨made2, hk, hm2, hdc, hmkc⟩ : ∃ made2, evalA tt env ops fuel mk g rest (nx + c) made2 { st with slots := putSt st o.dst v } k = some r ∧ ((∀ x ob, made x = some ob → x < nx) → ∀ x ob, made2 x = some ob ↔ made x = some ob ∨ mo x = some ob) ∧ (o.dst = none → c = 0) ∧ (mk = false → c = 0) := by
        cases hc : Nat.beq c 0 with
        | true =>
          obtain rfl := Nat.eq_of_beq_eq_true hc
          rw [hc, cond_true] at hk
          exact ⟨made, hk, fun _ x ob => ⟨.inl, fun h => h.elim id fun h => absurd (hmo x ob h) (by omega)⟩, fun _ => rfl, fun _ => rfl⟩
        | false =>
          rw [hc, cond_false] at hk
          cases hmk : (mk && o.dst.isSome) with
          | false => rw [hmk, cond_false] at hk; cases hk
          | true =>
            rw [hmk, cond_true] at hk
            simp only [Bool.and_eq_true] at hmk
            refine ⟨_, hk, fun hmd x ob => ?_, fun h => by rw [h] at hmk; simp at hmk, fun h => by rw [h] at hmk; simp at hmk⟩
            rw [addF_some]
            constructor
            · rintro (h | ⟨_, h⟩)
              · exact .inr h
              · exact .inl h
            · rintro (h | h)
              · refine .inr ⟨?_, h⟩
                cases hq : mo x with
                | none => rfl
                | some y => have := hmd x ob h; have := (hmo x y hq).1; omega
              · exact .inl h
      have hput : ∀ t, putSt st o.dst v t = updO st.slots o.dst v t := fun t => by cases o.dst <;> rfl
      obtain ⟨F, sk, M, sl', nx', made', b1, b2, b3, b4, b5, b6, b7, b8, b9, b10, b11⟩ := evalA_facts hT hE fuel (cur := updO cur o.dst v) (sk0 := updO sk0 o.dst false) (M0 := updO M0 o.dst ⟨mo, nx, nx + c⟩) hk
        ⟨fun t => by
          by_cases e : o.dst = some t
          · rw [updO_same e]; exact hvu
          · rw [updO_ne e]; exact under_mono (Nat.le_add_right _ _) (hU.slots t), fun l x hx => ⟨Ob.under_mono (Nat.le_add_right _ _) (hU.objs l x hx).1, Nat.lt_of_lt_of_le (hU.objs l x hx).2 (Nat.le_add_right _ _)⟩⟩ hbo (Nat.le_trans hbn (Nat.le_add_right _ _))
        (fun t => by
          show putSt st o.dst v t = _ ∨ putSt st o.dst v t = _
          rw [hput]
          by_cases e : o.dst = some t
          · rw [updO_same e, updO_same e]; exact .inr rfl
          · rw [updO_ne e, updO_ne e]; exact hst t)
        (fun t ht => by
          by_cases e : o.dst = some t
          · rw [updO_same e] at ht; cases ht
          · rw [updO_ne e] at ht ⊢; exact hsk t ht) hnd' (by
          cases hg' : g with
          | none => trivial
          | some p =>
            obtain ⟨j, want⟩ := p
            rw [hg'] at hg
            obtain ⟨dj, h1, h2, h3, h4⟩ := hg
            obtain ⟨h5, h6⟩ := notin_cons.1 h4
            exact ⟨dj, h1, by rw [updO_ne h5]; exact h2, by rw [updO_ne h5]; exact h3, h6⟩)
      have hown : ∀ d, o.dst = some d → sk d = false ∧ F d = v ∧ M d = ⟨mo, nx, nx + c⟩ := fun d hd => by
        obtain ⟨c1, c2, _, c4⟩ := b3 d (hnd0 d hd)
        exact ⟨by rw [c2, updO_same hd], by rw [c1, updO_same hd], by rw [c4, updO_same hd]⟩
      have hcase : ∀ d, d ∈ dsts ((i, o) :: rest) → o.dst = some d ∨ d ∈ dsts rest := by
        intro d hd
        by_cases h1 : o.dst = some d
        · exact .inl h1
        · by_cases h2 : d ∈ dsts rest
          · exact .inr h2
          · exact absurd hd (notin_cons.2 ⟨h1, h2⟩)
      refine ⟨F, sk, M, sl', nx', made', b1, b2, fun t ht => ?_, b4, b5, fun d hd => ?_, fun l1 q l2 e => ?_, ⟨by omega, fun h => by rw [b8.2 h, hmkc h]; rfl⟩, fun d hd => ?_, fun d d' hd hd' hne => ?_, fun hmd x ob => ?_⟩
      rotate_left 3
      · rcases hcase d hd with h | h
        · obtain ⟨h1, h2, h3⟩ := hown d h
          rw [h2, h3]
          exact ⟨Nat.le_refl _, Nat.le_add_right _ _, b8.1, hvm, hmo⟩
        · obtain ⟨h1, h2, h3, h4, h5⟩ := b9 d h
          exact ⟨by omega, h2, h3, h4, h5⟩
      · rcases hcase d hd with h | h <;> rcases hcase d' hd' with h' | h'
        · exact absurd (by rw [h] at h'; exact Option.some.inj h') hne
        · left; rw [(hown d h).2.2]; exact (b9 d' h').1
        · right; rw [(hown d' h').2.2]; exact (b9 d h).1
        · exact b10 d d' h h' hne
      · have hm2 := hm2 hmd
        rw [b11 (fun x ob h => by
          rcases (hm2 x ob).1 h with h | h
          · exact Nat.lt_of_lt_of_le (hmd x ob h) (Nat.le_add_right _ _)
          · exact (hmo x ob h).2.1), hm2]
        constructor
        · rintro ((h | h) | ⟨d, hd, h⟩)
          · exact .inl h
          · right
            cases hdd : o.dst with
            | none => have := hmo x ob h; rw [hdc hdd] at this; omega
            | some d => exact ⟨d, mem_dsts.2 ⟨(i, o), by simp, hdd⟩, by rw [(hown d hdd).2.2]; exact h⟩
          · right
            obtain ⟨q, hq, hdq⟩ := mem_dsts.1 hd
            exact ⟨d, mem_dsts.2 ⟨q, by simp [hq], hdq⟩, h⟩
        · rintro (h | ⟨d, hd, h⟩)
          · exact .inl (.inl h)
          · rcases hcase d hd with h1 | h1
            · rw [(hown d h1).2.2] at h
              exact .inl (.inr h)
            · exact .inr ⟨d, h1, h⟩
      · obtain ⟨h5, h6⟩ := notin_cons.1 ht
        obtain ⟨c1, c2, c3, c4⟩ := b3 t h6
        refine ⟨by rw [c1, updO_ne h5], by rw [c2, updO_ne h5], ?_, by rw [c4, updO_ne h5]⟩
        rw [c3]
        show putSt st o.dst v t = _
        rw [hput, updO_ne h5]
      · by_cases hd' : o.dst = some d
        · rw [hd'] at hlk; exact hlk
        · by_cases hr : d ∈ dsts rest
          · exact b6 d hr
          · exact absurd hd (notin_cons.2 ⟨hd', hr⟩)
      · cases l1 with
        | nil =>
          simp only [List.nil_append, List.cons.injEq] at e
          obtain ⟨rfl, rfl⟩ := e
          exact .inr ⟨sat hgd (fun t ht => ⟨over_out (by simp [dsts]), over_out (by simp [dsts])⟩), st.slots, v, _, fun t => by rw [over_out (by simp [dsts])]; exact hst t, hEff, (fun h => ⟨by rw [hdc h]; rfl, fun x => by
            cases hq : mo x with
            | none => exact hq
            | some y => have := hmo x y hq; rw [hdc h] at this; omega⟩), hown⟩
        | cons p l1 =>
          simp only [List.cons_append, List.cons.injEq] at e
          obtain ⟨rfl, e⟩ := e
          have over_eq : ∀ {α : Type} {f f0 : Nat → α} {u : α}, (∀ d, o.dst = some d → f d = u) → over ((i, o) :: l1) f f0 = over l1 f (updO f0 o.dst u) := by
            intro α f f0 u hf
            funext t
            by_cases h1 : t ∈ dsts l1
            · rw [over_in h1, over_in (by
                by_cases h2 : o.dst = some t
                · exact mem_dsts.2 ⟨(i, o), by simp, h2⟩
                · obtain ⟨x, hx, hd⟩ := mem_dsts.1 h1
                  exact mem_dsts.2 ⟨x, by simp [hx], hd⟩)]
            · by_cases h2 : o.dst = some t
              · rw [over_out h1, over_in (mem_dsts.2 ⟨(i, o), by simp, h2⟩), updO_same h2]; exact hf t h2
              · rw [over_out h1, over_out (notin_cons.2 ⟨h2, h1⟩), updO_ne h2]
          exact (b7 l1 q l2 e).congr (over_eq fun d hd => (hown d hd).2.1) (over_eq fun d hd => (hown d hd).1) (fun d _ => ⟨rfl, rfl, rfl⟩)
    | false =>
      rw [hgd, cond_false] at h
      split at h
      case h_1 => cases h
      rename_i j want hguard
      split at h
      case h_1 => cases h
      rename_i dj hdj
      split at h
      case h_2 => cases h
      rename_i inner pi p rest' hsplit
      split at h
      case h_2 => cases h
      rename_i b c x y hb hpop
      obtain ⟨hlist, hpick⟩ := splitAtPick_spec hsplit
      obtain rfl : c = .tmp dj := by
        simp only [isPickOf, hpop] at hpick
        split at hpick
        · rename_i e
          injection e with e1 e2 e3
          rw [e1, Nat.eq_of_beq_eq_true hpick]
        · cases hpick
      cases hchk : (memN dj (dsts inner) || !(skipsB ops j want [] inner) || !(gEq p.guard none || gEq p.guard g) || isLocked st p.dst || anyB st.lockS (dsts inner)) with
      | true => rw [hchk, cond_true] at h; cases h
      | false =>
      rw [hchk, cond_false] at h
      simp only [Bool.or_eq_false_iff, Bool.not_eq_false'] at hchk
      obtain ⟨⟨⟨⟨hc1, hc2⟩, hc3⟩, hc4⟩, hc5⟩ := hchk
      have hdj' : dj ∉ dsts inner := fun hm => by rw [memN_iff.2 hm] at hc1; cases hc1
      have hnolock := anyB_false hc5
      split at h
      case h_2 => cases h
      rename_i other hother
      obtain ⟨r0, hr0, h⟩ := bind_some h
      have hcurb : cur dj = ⟨.bool, b⟩ := by
        rcases hst dj with e | e
        · rw [hb] at e; cases e
        · rw [← e, hb]
      have hskj : sk0 dj = false := by
        cases hq : sk0 dj with
        | false => rfl
        | true => rw [hsk dj hq] at hcurb; cases hcurb
      rw [hlist] at hnd
      have hnd1 : (dsts inner).Nodup := by rw [dsts_append] at hnd; exact (List.nodup_append.1 hnd).1
      have hnd2 : (dsts ((pi, p) :: rest')).Nodup := by rw [dsts_append] at hnd; exact (List.nodup_append.1 hnd).2.1
      have hdisj : ∀ d, d ∈ dsts inner → d ∉ dsts ((pi, p) :: rest') := fun d h1 h2 => by
        rw [dsts_append] at hnd
        exact (List.nodup_append.1 hnd).2.2 d h1 d h2 rfl
      obtain ⟨hnd3, hndp⟩ := nodup_tail hnd2
      have hall : ∀ t, t ∉ dsts ((i, o) :: rest) → t ∉ dsts inner ∧ p.dst ≠ some t ∧ t ∉ dsts rest' := by
        intro t ht
        rw [hlist] at ht
        have h1 : t ∉ dsts inner := fun hm => ht (by rw [dsts_append]; exact List.mem_append_left _ hm)
        have h2 : t ∉ dsts ((pi, p) :: rest') := fun hm => ht (by rw [dsts_append]; exact List.mem_append_right _ hm)
        exact ⟨h1, notin_cons.1 h2⟩
      -- what is under the guard
      obtain ⟨F1, sk1, M1, slp, f1, f2, f3, f4, f5, f6, f7, f9⟩ : ∃ (F1 : Nat → SV) (sk1 : Nat → Bool) (M1 : Nat → Mk) (slp : Nat → SV), (∀ t, t ∉ dsts inner → F1 t = cur t ∧ sk1 t = sk0 t ∧ M1 t = M0 t) ∧ (∀ t, (F1 t).s.under nx) ∧ (∀ t, sk1 t = true → F1 t = .undef) ∧
          (∀ t, slp t = .undef ∨ slp t = F1 t) ∧ slp dj = ⟨.bool, b⟩ ∧ evalO slp (bif b then x else y) = ⟨.bool, r0⟩ ∧
          (∀ l1 q l2, inner = l1 ++ q :: l2 → Fact P S ops st.objs (over l1 F1 cur) (over l1 sk1 sk0) q.2 F1 sk1 M1) ∧
          ∀ d ∈ dsts inner, (M1 d).lo = nx ∧ (M1 d).hi = nx ∧ (∀ x, (F1 d).s.ment x → x < st.next) ∧ ∀ x, (M1 d).f x = none := by
        cases hbw : onG want b with
        | true =>
          obtain rfl : b = want := by cases b <;> cases want <;> first | rfl | cases hbw
          rw [hbw, cond_true] at hr0
          obtain ⟨F, sk, M, sl', nx', made', b1, b2, b3, b4, b5, b6, b7, b8, b9, b10, b11⟩ := evalA_facts hT hE fuel (cur := cur) (sk0 := sk0) (M0 := M0) hr0 hU hbo hbn hst hsk hnd1 ⟨dj, hdj, hskj, hcurb, hdj'⟩
          obtain rfl := b8.2 rfl
          refine ⟨F, sk, M, sl', fun t ht => ⟨(b3 t ht).1, (b3 t ht).2.1, (b3 t ht).2.2.2⟩, b4, b5, b2, by rw [(b3 dj hdj').2.2.1]; exact hb, ?_, b7, fun d hd => ?_⟩
          rotate_left
          · obtain ⟨h1, h2, h3, h4, h5⟩ := b9 d hd
            refine ⟨by omega, by omega, fun x hx => (h4 x hx).elim id fun h => by omega, fun x => ?_⟩
            cases hq : (M d).f x with
            | none => rfl
            | some y => have := h5 x y hq; omega
          dsimp only at b1
          split at b1
          · rename_i q hq
            simp only [Option.some.injEq] at b1
            subst b1
            exact hq
          · cases b1
        | false =>
          rw [hbw, cond_false] at hr0
          simp only [Option.some.injEq] at hr0
          subst hr0
          have hne : b ≠ want := by cases b <;> cases want <;> first | (intro h; cases h; done) | cases hbw
          refine ⟨over inner (fun _ => .undef) cur, over inner (fun _ => true) sk0, over inner (fun _ => ⟨fun _ => none, nx, nx⟩) M0, killS st.slots (dsts inner), fun t ht => ⟨over_out ht, over_out ht, over_out ht⟩, fun t => ?_, fun t ht => ?_, fun t => ?_, by rw [killS_out hdj']; exact hb, ?_, fun l1 q l2 e => ?_, fun d hd => by rw [over_in hd, over_in hd]; exact ⟨rfl, rfl, fun x hx => hx.elim, fun x => rfl⟩⟩
          · by_cases hm : t ∈ dsts inner
            · rw [over_in hm]; trivial
            · rw [over_out hm]; exact hU.slots t
          · by_cases hm : t ∈ dsts inner
            · rw [over_in hm]
            · rw [over_out hm] at ht ⊢; exact hsk t ht
          · by_cases hm : t ∈ dsts inner
            · rw [killS_in hm]; exact .inl rfl
            · rw [killS_out hm, over_out hm]; exact hst t
          · have e : (bif b then x else y) = (bif want then y else x) := by cases b <;> cases want <;> simp_all
            rw [e]
            exact hother
          · obtain ⟨j', w', hg', h3⟩ := skips_at hc2 l1 q l2 e
            have hsub : ∀ d, d ∈ dsts l1 → d ∈ dsts inner := fun d hd => by rw [e, dsts_append]; exact List.mem_append_left _ hd
            have hown : ∀ d, q.2.dst = some d → over inner (fun _ => true) sk0 d = true ∧ over inner (fun _ => SV.undef) cur d = .undef ∧ ∀ x, (over inner (fun _ => (⟨fun _ => none, nx, nx⟩ : Mk)) M0 d).f x = none := fun d hd => by
              have : d ∈ dsts inner := mem_dsts.2 ⟨q, by rw [e]; simp, hd⟩
              exact ⟨over_in this, over_in this, fun x => by rw [over_in this]⟩
            rcases h3 with ⟨rfl, rfl⟩ | ⟨d, hd, h3⟩
            · have hdl : dj ∉ dsts l1 := fun h => hdj' (hsub dj h)
              exact .inl ⟨j', w', dj, hg', hdj, .inr ⟨by rw [over_out hdl]; exact hskj, b, by rw [over_out hdl]; exact hcurb, hne⟩, hown⟩
            · rcases h3 with h3 | h3
              · simp at h3
              · exact .inl ⟨j', w', d, hg', hd, .inl (by rw [over_in h3, over_in (hsub d h3)]), hown⟩
      have hupd : ∀ t, evalOps.upd' (killS st.slots (dsts inner)) p.dst ⟨.bool, r0⟩ t = updO (killS st.slots (dsts inner)) p.dst ⟨.bool, r0⟩ t := fun t => by cases p.dst <;> rfl
      obtain ⟨F, sk, M, sl', nx', made', b1, b2, b3, b4, b5, b6, b7, b8, b9, b10, b11⟩ := evalA_facts hT hE fuel (cur := updO F1 p.dst ⟨.bool, r0⟩) (sk0 := updO sk1 p.dst false) (M0 := updO M1 p.dst ⟨fun _ => none, nx, nx⟩) h
        ⟨fun t => by
          by_cases e : p.dst = some t
          · rw [updO_same e]; trivial
          · rw [updO_ne e]; exact f2 t, hU.objs⟩ hbo hbn
        (fun t => by
          show evalOps.upd' (killS st.slots (dsts inner)) p.dst ⟨.bool, r0⟩ t = _ ∨ evalOps.upd' (killS st.slots (dsts inner)) p.dst ⟨.bool, r0⟩ t = _
          rw [hupd]
          by_cases e : p.dst = some t
          · rw [updO_same e, updO_same e]; exact .inr rfl
          · rw [updO_ne e, updO_ne e]
            by_cases hm : t ∈ dsts inner
            · rw [killS_in hm]; exact .inl rfl
            · rw [killS_out hm, (f1 t hm).1]; exact hst t)
        (fun t ht => by
          by_cases e : p.dst = some t
          · rw [updO_same e] at ht; cases ht
          · rw [updO_ne e] at ht ⊢; exact f3 t ht) hnd3 (by
          cases hg' : g with
          | none => trivial
          | some p' =>
            obtain ⟨j', want'⟩ := p'
            rw [hg'] at hg
            obtain ⟨dj', h1, h2, h3, h4⟩ := hg
            obtain ⟨h5, h6, h7⟩ := hall dj' h4
            exact ⟨dj', h1, by rw [updO_ne h6, (f1 dj' h5).2.1]; exact h2, by rw [updO_ne h6, (f1 dj' h5).1]; exact h3, h7⟩)
      have hownp : ∀ d, p.dst = some d → sk d = false ∧ F d = ⟨.bool, r0⟩ ∧ M d = ⟨fun _ => none, nx, nx⟩ := fun d hd => by
        obtain ⟨c1, c2, _, c4⟩ := b3 d (hndp d hd)
        exact ⟨by rw [c2, updO_same hd], by rw [c1, updO_same hd], by rw [c4, updO_same hd]⟩
      have hinner : ∀ d, d ∈ dsts inner → sk d = sk1 d ∧ F d = F1 d ∧ M d = M1 d := fun d hd => by
        obtain ⟨h5, h6⟩ := notin_cons.1 (hdisj d hd)
        obtain ⟨c1, c2, _, c4⟩ := b3 d h6
        exact ⟨by rw [c2, updO_ne h5], by rw [c1, updO_ne h5], by rw [c4, updO_ne h5]⟩
      have hcase : ∀ d, d ∈ dsts ((i, o) :: rest) → d ∈ dsts inner ∨ p.dst = some d ∨ d ∈ dsts rest' := by
        intro d hd
        rw [hlist, dsts_append] at hd
        rcases List.mem_append.1 hd with hd | hd
        · exact .inl hd
        · by_cases h1 : p.dst = some d
          · exact .inr (.inl h1)
          · by_cases h2 : d ∈ dsts rest'
            · exact .inr (.inr h2)
            · exact absurd hd (notin_cons.2 ⟨h1, h2⟩)
      have hsm : ∀ d, d ∈ dsts ((i, o) :: rest) → d ∉ dsts rest' → (M d).lo = nx ∧ (M d).hi = nx ∧ (∀ x, (F d).s.ment x → x < st.next) ∧ ∀ x, (M d).f x = none := by
        intro d hd hr
        rcases hcase d hd with h | h | h
        · obtain ⟨h1, h2, h3⟩ := hinner d h
          rw [h2, h3]; exact f9 d h
        · obtain ⟨h1, h2, h3⟩ := hownp d h
          rw [h2, h3]; exact ⟨rfl, rfl, fun x hx => hx.elim, fun _ => rfl⟩
        · exact absurd h hr
      have over1 : ∀ {α : Type} {f f1 f0 : Nat → α} {l1 : List (Nat × Oper)}, (∀ d, d ∈ dsts inner → f d = f1 d) → (∀ d, d ∈ dsts l1 → d ∈ dsts inner) → over l1 f f0 = over l1 f1 f0 := by
        intro α f f1 f0 l1 h1 h2
        funext t
        by_cases hm : t ∈ dsts l1
        · rw [over_in hm, over_in hm]; exact h1 t (h2 t hm)
        · rw [over_out hm, over_out hm]
      refine ⟨F, sk, M, sl', nx', made', b1, b2, fun t ht => ?_, b4, b5, fun d hd => ?_, fun l1 q l2 e => ?_, b8, fun d hd => ?_, fun d d' hd hd' hne => ?_, fun hmd x ob => ?_⟩
      rotate_left 3
      · by_cases hr : d ∈ dsts rest'
        · exact b9 d hr
        · obtain ⟨h1, h2, h3, h4⟩ := hsm d hd hr
          exact ⟨by omega, by omega, by omega, fun x hx => .inl (h3 x hx), fun x ob h => by rw [h4 x] at h; cases h⟩
      · by_cases hr : d ∈ dsts rest' <;> by_cases hr' : d' ∈ dsts rest'
        · exact b10 d d' hr hr' hne
        · right; rw [(hsm d' hd' hr').2.1]; exact (b9 d hr).1
        · left; rw [(hsm d hd hr).2.1]; exact (b9 d' hr').1
        · left; rw [(hsm d hd hr).2.1, (hsm d' hd' hr').1]; exact Nat.le_refl _
      · rw [b11 hmd]
        refine or_congr Iff.rfl ⟨?_, ?_⟩
        · rintro ⟨d, hd, h⟩
          refine ⟨d, ?_, h⟩
          rw [hlist, dsts_append]
          obtain ⟨q, hq, hdq⟩ := mem_dsts.1 hd
          exact List.mem_append_right _ (mem_dsts.2 ⟨q, by simp [hq], hdq⟩)
        · rintro ⟨d, hd, h⟩
          by_cases hr : d ∈ dsts rest'
          · exact ⟨d, hr, h⟩
          · rw [(hsm d hd hr).2.2.2 x] at h; cases h
      · obtain ⟨h5, h6, h7⟩ := hall t ht
        obtain ⟨c1, c2, c3, c4⟩ := b3 t h7
        refine ⟨by rw [c1, updO_ne h6, (f1 t h5).1], by rw [c2, updO_ne h6, (f1 t h5).2.1], ?_, by rw [c4, updO_ne h6, (f1 t h5).2.2]⟩
        rw [c3]
        show evalOps.upd' (killS st.slots (dsts inner)) p.dst ⟨.bool, r0⟩ t = _
        rw [hupd, updO_ne h6, killS_out h5]
      · rw [hlist, dsts_append] at hd
        rcases List.mem_append.1 hd with hd | hd
        · exact hnolock d hd
        · by_cases hd' : p.dst = some d
          · rw [hd'] at hc4; exact hc4
          · by_cases hr : d ∈ dsts rest'
            · exact b6 d hr
            · exact absurd hd (notin_cons.2 ⟨hd', hr⟩)
      · rw [hlist] at e
        rcases split3 e with ⟨l2', rfl⟩ | ⟨rfl, rfl⟩ | ⟨l1', rfl, e'⟩
        · have hsub : ∀ d, d ∈ dsts l1 → d ∈ dsts (l1 ++ q :: l2') := fun d hd => by rw [dsts_append]; exact List.mem_append_left _ hd
          exact (f7 l1 q l2' rfl).congr (over1 (fun d hd => (hinner d hd).2.1) hsub) (over1 (fun d hd => (hinner d hd).1) hsub)
            (fun d hd => hinner d (mem_dsts.2 ⟨q, by simp, hd⟩))
        · have o1 : over l1 F cur = F1 := by
            funext t
            by_cases hm : t ∈ dsts l1
            · rw [over_in hm]; exact (hinner t hm).2.1
            · rw [over_out hm, (f1 t hm).1]
          have o2 : over l1 sk sk0 = sk1 := by
            funext t
            by_cases hm : t ∈ dsts l1
            · rw [over_in hm]; exact (hinner t hm).1
            · rw [over_out hm, (f1 t hm).2.1]
          rw [o1, o2]
          refine .inr ⟨sat hc3 (fun t ht => ?_), slp, ⟨.bool, r0⟩, _, f4, pick_effM (n := nx) hpop f5 f6, fun _ => ⟨rfl, fun _ => rfl⟩, hownp⟩
          obtain ⟨h5, _, _⟩ := hall t ht
          exact ⟨(f1 t h5).1, (f1 t h5).2.1⟩
        · have over2 : ∀ {α : Type} {f g1 f0 : Nat → α} {u : α}, (∀ d, d ∈ dsts inner → f d = g1 d) → (∀ d, p.dst = some d → f d = u) → (∀ d, d ∉ dsts inner → g1 d = f0 d) → over (inner ++ (pi, p) :: l1') f f0 = over l1' f (updO g1 p.dst u) := by
            intro α f g1 f0 u h1 h2 h3
            funext t
            by_cases hm : t ∈ dsts l1'
            · rw [over_in hm, over_in]
              rw [dsts_append, List.mem_append]
              refine .inr ?_
              obtain ⟨z, hz, hd⟩ := mem_dsts.1 hm
              exact mem_dsts.2 ⟨z, by simp [hz], hd⟩
            · rw [over_out hm]
              by_cases hp : p.dst = some t
              · rw [updO_same hp, over_in]
                · exact h2 t hp
                · rw [dsts_append, List.mem_append]
                  exact .inr (mem_dsts.2 ⟨(pi, p), by simp, hp⟩)
              · rw [updO_ne hp]
                by_cases hi : t ∈ dsts inner
                · rw [over_in]
                  · exact h1 t hi
                  · rw [dsts_append, List.mem_append]; exact .inl hi
                · rw [over_out, h3 t hi]
                  rw [dsts_append, List.mem_append]
                  rintro (h | h)
                  · exact hi h
                  · exact notin_cons.2 ⟨hp, hm⟩ h
          exact (b7 l1' q l2 e').congr (over2 (fun d hd => (hinner d hd).2.1) (fun d hd => (hownp d hd).2.1) (fun d hd => (f1 d hd).1)) (over2 (fun d hd => (hinner d hd).1) (fun d hd => (hownp d hd).1) (fun d hd => (f1 d hd).2.1)) (fun d _ => ⟨rfl, rfl, rfl⟩)
end Go.Rai
