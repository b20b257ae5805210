/- A part of the proof of ScriptLines: general lemmas, with no condition of their own. -/
import Derived.Test.YtdmbeajlccebgaaGreatDoorRaiF
import Derived.Test.YtdmbeajlccebgaaGreatDoorRaiE
/- DRAWN REGIONS: whatever the order, what the walk says. -/
set_option linter.unusedVariables false
set_option linter.unusedSimpArgs false
namespace Go.Rai
open Go.RowKit
variable {P : Program}

theorem numbered_get : ∀ {l : List Oper} {n k : Nat}, (numbered n l)[k]? = (l[k]?).map fun o => (n + k, o)
  | [], n, k => by simp [numbered]
  | x :: l, n, 0 => by simp [numbered]
  | x :: l, n, k + 1 => by
    simp only [numbered, List.getElem?_cons_succ]
    rw [numbered_get (l := l) (n := n + 1) (k := k)]
    simp [Nat.add_assoc, Nat.add_comm 1 k]
theorem numbered_split {L : List Oper} {l1 l2 : List (Nat × Oper)} {q : Nat × Oper} (h : numbered 0 L = l1 ++ q :: l2) :
    q.1 = l1.length ∧ (∀ q' ∈ l1, q'.1 < q.1) ∧ (∀ q' ∈ l2, q.1 < q'.1) ∧ ∀ j, j < q.1 → ∃ q' ∈ l1, q'.1 = j := by
  have get : ∀ (k : Nat) (x : Nat × Oper), (l1 ++ q :: l2)[k]? = some x → x.1 = k := by
    intro k x hx
    rw [← h, numbered_get] at hx
    cases hL : L[k]? with
    | none => rw [hL] at hx; cases hx
    | some o => rw [hL] at hx; simp at hx; rw [← hx]
  have hq : q.1 = l1.length := get l1.length q (by simp)
  refine ⟨hq, fun q' hq' => ?_, fun q' hq' => ?_, fun j hj => ?_⟩
  · obtain ⟨k, hk, e⟩ := List.getElem_of_mem hq'
    have := get k q' (by rw [List.getElem?_append_left hk, List.getElem?_eq_getElem hk, e])
    omega
  · obtain ⟨k, hk, e⟩ := List.getElem_of_mem hq'
    have := get (l1.length + 1 + k) q' (by
      rw [List.getElem?_append_right (by omega), show l1.length + 1 + k - l1.length = k + 1 by omega, List.getElem?_cons_succ, List.getElem?_eq_getElem hk, e])
    omega
  · rw [hq] at hj
    exact ⟨l1[j], List.getElem_mem hj, get j l1[j] (by rw [List.getElem?_append_left hj, List.getElem?_eq_getElem hj])⟩
theorem numbered_mem {L : List Oper} {i : Nat} {o : Oper} (h : L[i]? = some o) : (i, o) ∈ numbered 0 L := by
  have : (numbered 0 L)[i]? = some (i, o) := by rw [numbered_get, h]; simp
  exact List.mem_of_getElem? this
theorem numbered_ops {L : List Oper} {q : Nat × Oper} (h : q ∈ numbered 0 L) : L[q.1]? = some q.2 := by
  obtain ⟨k, hk, e⟩ := List.getElem_of_mem h
  have h1 : (numbered 0 L)[k]? = some q := by rw [List.getElem?_eq_getElem hk, e]
  rw [numbered_get] at h1
  cases hL : L[k]? with
  | none => rw [hL] at h1; cases h1
  | some o =>
    rw [hL] at h1
    simp at h1
    rw [← h1]
    exact hL

theorem mem_bindOn {j : Nat} : ∀ {l : List Edge}, j ∈ bindOn l ↔ ∃ e ∈ l, Region.binds .any e = true ∧ e.on = j
  | [] => by simp [bindOn]
  | e :: l => by
    simp only [bindOn]
    cases hb : Region.binds .any e with
    | true =>
      rw [cond_true, List.mem_cons, mem_bindOn (l := l)]
      constructor
      · rintro (rfl | ⟨e', h1, h2, h3⟩)
        · exact ⟨e, by simp, hb, rfl⟩
        · exact ⟨e', by simp [h1], h2, h3⟩
      · rintro ⟨e', h1, h2, h3⟩
        rcases List.mem_cons.1 h1 with rfl | h1
        · exact .inl h3.symm
        · exact .inr ⟨e', h1, h2, h3⟩
    | false =>
      rw [cond_false, mem_bindOn (l := l)]
      constructor
      · rintro ⟨e', h1, h2, h3⟩
        exact ⟨e', by simp [h1], h2, h3⟩
      · rintro ⟨e', h1, h2, h3⟩
        rcases List.mem_cons.1 h1 with rfl | h1
        · rw [hb] at h2; cases h2
        · exact ⟨e', h1, h2, h3⟩
theorem mem_afters {j : Nat} {o : Oper} : j ∈ afters o ↔ ∃ e ∈ o.after, Region.binds .any e = true ∧ e.on = j := by
  unfold afters
  rw [mem_bindOn]
  simp
theorem hasAll_mem {l : List Nat} : ∀ {i : Nat}, hasAll l i = true → ∀ j, j < i → j ∈ l
  | 0, _, j, hj => absurd hj (Nat.not_lt_zero _)
  | i + 1, h, j, hj => by
    simp only [hasAll, Bool.and_eq_true] at h
    rcases Nat.lt_succ_iff_lt_or_eq.1 hj with hj | rfl
    · exact hasAll_mem h.2 j hj
    · exact memN_iff.1 h.1
theorem head_tail2 {all : List (Nat × Oper)} : ∀ l : List (Nat × Oper), headOps2 all l ++ tailOps2 all l = l
  | [] => rfl
  | q :: r => by
    simp only [headOps2, tailOps2]
    cases allB (waitsAll all) (q :: r) with
    | true => rfl
    | false => simp [head_tail2 r]
theorem head_tail (l : List (Nat × Oper)) : headOps l ++ tailOps l = l := head_tail2 l
theorem tail_waits2 {all : List (Nat × Oper)} : ∀ {l : List (Nat × Oper)}, ∀ q ∈ tailOps2 all l, waitsAll all q = true
  | [], q, hq => by simp [tailOps2] at hq
  | p :: r, q, hq => by
    simp only [tailOps2] at hq
    cases h : allB (waitsAll all) (p :: r) with
    | true => rw [h, cond_true] at hq; exact allB_mem h q hq
    | false => rw [h, cond_false] at hq; exact tail_waits2 q hq
theorem tail_waits {l : List (Nat × Oper)} : ∀ q ∈ tailOps l, waitsAll l q = true := fun q hq => tail_waits2 q hq
theorem afAt_mem {j k : Nat} : ∀ {all : List (Nat × Oper)}, k ∈ afAt all j → ∃ q ∈ all, q.1 = j ∧ k ∈ afters q.2
  | [], h => by simp [afAt] at h
  | q :: r, h => by
    simp only [afAt] at h
    cases hb : Nat.beq q.1 j with
    | true => rw [hb, cond_true] at h; exact ⟨q, by simp, Nat.eq_of_beq_eq_true hb, h⟩
    | false =>
      rw [hb, cond_false] at h
      obtain ⟨p, hp, h1, h2⟩ := afAt_mem h
      exact ⟨p, by simp [hp], h1, h2⟩
theorem ancl_sub {all : List (Nat × Oper)} {S : Nat → Prop} (hc : ∀ q ∈ all, S q.1 → ∀ k ∈ afters q.2, S k) : ∀ (n : Nat) {w acc : List Nat}, (∀ x ∈ w, S x) → (∀ x ∈ acc, S x) → ∀ x ∈ ancl all n w acc, S x
  | 0, w, acc, hw, ha, x, hx => ha x hx
  | n + 1, [], acc, hw, ha, x, hx => ha x hx
  | n + 1, j :: w, acc, hw, ha, x, hx => by
    simp only [ancl] at hx
    cases hm : memN j acc with
    | true => rw [hm, cond_true] at hx; exact ancl_sub hc n (fun y hy => hw y (by simp [hy])) ha x hx
    | false =>
      rw [hm, cond_false] at hx
      refine ancl_sub hc n (fun y hy => ?_) (fun y hy => ?_) x hx
      · rcases List.mem_append.1 hy with hy | hy
        · obtain ⟨q, hq, rfl, hk⟩ := afAt_mem hy
          exact hc q hq (hw _ (by simp)) y hk
        · exact hw y (by simp [hy])
      · rcases List.mem_cons.1 hy with rfl | hy
        · exact hw y (by simp)
        · exact ha y hy
theorem waits_S {all : List (Nat × Oper)} {q : Nat × Oper} {S : Nat → Prop} (h : waitsAll all q = true) (hc : ∀ q ∈ all, S q.1 → ∀ k ∈ afters q.2, S k) (hq : ∀ k ∈ afters q.2, S k) : ∀ j, j < q.1 → S j := by
  simp only [waitsAll, Bool.and_eq_true] at h
  intro j hj
  exact ancl_sub hc _ hq (fun x hx => by simp at hx) j (hasAll_mem h.1.1 j hj)

/-- what has come up, as a list says -/
def Lst (listed : Array Bool) (i : Nat) : Bool := listed.getD i false
theorem unlisted_iff {listed : Array Bool} {i : Nat} : listed.getD i true = false ↔ i < listed.size ∧ Lst listed i = false := by
  unfold Lst
  by_cases h : i < listed.size
  · simp [Array.getD, h]
  · simp [Array.getD, h]
theorem lst_set {listed : Array Bool} {i j : Nat} (hi : i < listed.size) : Lst (listed.setIfInBounds i true) j = (Lst listed j || Nat.beq i j) := by
  unfold Lst
  by_cases h : i = j
  · subst h
    simp [Array.getD, hi]
  · have hb : Nat.beq i j = false := by
      cases hb : Nat.beq i j with
      | true => exact absurd (Nat.eq_of_beq_eq_true hb) h
      | false => rfl
    rw [hb, Bool.or_false]
    simp [Array.getElem?_setIfInBounds_ne h]
theorem ready_iff {ops : Array Oper} {listed : Array Bool} (hs : listed.size = ops.size) {i : Nat} :
    i ∈ Region.ready .any ops listed ↔ Lst listed i = false ∧ ∃ o, ops[i]? = some o ∧ ∀ j ∈ afters o, Lst listed j = true := by
  rw [mem_ready, unlisted_iff]
  constructor
  · rintro ⟨⟨_, h1⟩, o, ho, h2⟩
    refine ⟨h1, o, ho, fun j hj => ?_⟩
    obtain ⟨e, he, hb, rfl⟩ := mem_afters.1 hj
    exact h2 e he hb
  · rintro ⟨h1, o, ho, h2⟩
    refine ⟨⟨?_, h1⟩, o, ho, fun e he hb => h2 e.on (mem_afters.2 ⟨e, he, hb, rfl⟩)⟩
    rw [hs]
    exact (Array.getElem?_eq_some_iff.1 ho).1

section
variable {tt : TT} {env : Env} {ow : List Nat} {ops : Array Oper} {Q : Exit → Act → World → Prop} {X : Fr} {w0 : World} {n : Nat}

/-- the operations that come one behind the other -/
theorem evalB_sound (hT : TTok P tt) (hE : EnvAt P X w0 env) {R : Type} {r : R} : ∀ (l pre : List (Nat × Oper)) {st : St} {k : St → Option R} {η : Nat → Value} {a : Act} {w : World} {listed : Array Bool},
    pre ++ l = numbered 0 ops.toList → evalB tt env ow l st k = some r → Inv X w0 n st η a w → listed.size = ops.size → (∀ q ∈ pre, Lst listed q.1 = true) → (∀ q ∈ l, Lst listed q.1 = false) → (∀ q ∈ l, waitsAll (numbered 0 ops.toList) q = true) → (∀ q ∈ numbered 0 ops.toList, ∀ j ∈ afters q.2, j < q.1) →
    (∀ q ∈ l, ∀ d, q.2.dst = some d → d < n) → (∀ a' w', Post X w0 n st η k r a' w' → Q .normal a' w') → wpAny P .any ops Q l.length listed a w
  | [], pre, st, k, η, a, w, listed, hpre, h, hI, hs, h1, h2, h3, h3', hd, hQ => by
    refine ⟨?_, hQ a w ⟨st, η, Later.refl _ _, hI, by simpa [evalB] using h⟩⟩
    rw [List.append_nil] at hpre
    refine List.eq_nil_iff_forall_not_mem.2 fun i hi => ?_
    obtain ⟨c1, o, c2, _⟩ := (ready_iff hs).1 hi
    have := h1 (i, o) (by rw [hpre]; exact numbered_mem (by simpa using c2))
    rw [this] at c1; cases c1
  | q :: l, pre, st, k, η, a, w, listed, hpre, h, hI, hs, h1, h2, h3, h3', hd, hQ => by
    obtain ⟨e1, e2, e3, e4⟩ := numbered_split hpre.symm
    have hqo : ops[q.1]? = some q.2 := by
      have := numbered_ops (L := ops.toList) (q := q) (by rw [← hpre]; simp)
      simpa using this
    have hlow : ∀ j, j < q.1 → Lst listed j = true := fun j hj => by
      obtain ⟨q', hq', rfl⟩ := e4 j hj
      exact h1 q' hq'
    have hun : Lst listed q.1 = false := h2 q (by simp)
    have hall : ∀ i ∈ Region.ready .any ops listed, i = q.1 := by
      intro i hi
      obtain ⟨c1, o, c2, c3⟩ := (ready_iff hs).1 hi
      have hm : (i, o) ∈ pre ++ q :: l := by rw [hpre]; exact numbered_mem (by simpa using c2)
      rcases List.mem_append.1 hm with hm | hm
      · have := h1 _ hm; rw [this] at c1; cases c1
      · rcases List.mem_cons.1 hm with hm | hm
        · rw [← hm]
        · have := waits_S (S := fun j => Lst listed j = true) (h3 (i, o) (by simp [hm])) (fun p hp hpl k hk => by
            rw [← hpre] at hp
            rcases List.mem_append.1 hp with hp' | hp'
            · exact hlow k (Nat.lt_trans (h3' p (by rw [← hpre]; exact List.mem_append_left _ hp') k hk) (e2 p hp'))
            · rw [h2 p hp'] at hpl; cases hpl) c3 q.1 (e3 _ hm)
          rw [this] at hun; cases hun
    have hlt : q.1 < listed.size := by rw [hs]; exact (Array.getElem?_eq_some_iff.1 hqo).1
    have hw := h3 q (by simp)
    simp only [waitsAll, Bool.and_eq_true] at hw
    have hg : q.2.guard = none := gEq_eq hw.1.2
    refine ⟨fun h0 => ?_, fun i hi => ?_⟩
    · have : q.1 ∈ Region.ready .any ops listed := (ready_iff hs).2 ⟨hun, q.2, hqo, fun j hj => hlow j (h3' q (by rw [← hpre]; simp) j hj)⟩
      rw [h0] at this; cases this
    · obtain rfl := hall i hi
      simp only [evalB, hg] at h
      have h : stepF tt env ow q.2 st (fun st => evalB tt env ow l st k) = some r := by simpa [gEq] using h
      unfold wpOp
      rw [hqo]
      have hwant : Region.wanted q.2 (yielded ops a.tmps) = true := by unfold Region.wanted; rw [hg]
      simp only [hwant, if_true]
      refine .inl (step_opF hT hE hI (hd q (by simp)) h fun a' w' hP => ?_)
      obtain ⟨st', η', hL, hI', hk⟩ := hP
      refine evalB_sound hT hE l (pre ++ [q]) (by simpa using hpre) hk hI' (by simp [hs]) ?_ ?_ (fun p hp => h3 p (by simp [hp])) h3' (fun p hp => hd p (by simp [hp])) fun a'' w'' ⟨st'', η'', hL', hI'', hk''⟩ => hQ a'' w'' ⟨st'', η'', hL.trans hL', hI'', hk''⟩
      · intro p hp
        rw [lst_set hlt]
        rcases List.mem_append.1 hp with hp | hp
        · rw [h1 p hp]; rfl
        · obtain rfl := List.mem_singleton.1 hp
          simp
      · intro p hp
        rw [lst_set hlt, h2 p (by simp [hp])]
        have := e3 p hp
        cases hb : Nat.beq q.1 p.1 with
        | true => exact absurd (Nat.eq_of_beq_eq_true hb) (by omega)
        | false => rfl

theorem countP_set {l : List (Nat × Oper)} {q : Nat × Oper} {f g : Nat × Oper → Bool} (hf : f q = true) (hg : g q = false) (hne : ∀ q' ∈ l, q'.1 ≠ q.1 → g q' = f q') : ∀ {l1 l2 : List (Nat × Oper)}, l = l1 ++ q :: l2 → (∀ q' ∈ l1, q'.1 ≠ q.1) → (∀ q' ∈ l2, q'.1 ≠ q.1) → l.countP g + 1 = l.countP f := by
  intro l1 l2 e h1 h2
  subst e
  have c1 : l1.countP g = l1.countP f := List.countP_congr fun x hx => by rw [hne x (by simp [hx]) (h1 x hx)]
  have c2 : l2.countP g = l2.countP f := List.countP_congr fun x hx => by rw [hne x (by simp [hx]) (h2 x hx)]
  simp only [List.countP_append, List.countP_cons, hf, hg, c1, c2]
  simp
  omega

theorem tmps_mem {t : Nat} : ∀ {l : List Operand}, Operand.tmp t ∈ l → t ∈ tmpsOf l
  | [], h => by simp at h
  | .tmp x :: l, h => by
    rcases List.mem_cons.1 h with h | h
    · injection h with h; subst h; simp [tmpsOf]
    · simp [tmpsOf, tmps_mem h]
  | .const _ :: l, h => by
    rcases List.mem_cons.1 h with h | h
    · cases h
    · exact tmps_mem (l := l) h
  | .func _ :: l, h => by
    rcases List.mem_cons.1 h with h | h
    · cases h
    · exact tmps_mem (l := l) h
  | .global _ :: l, h => by
    rcases List.mem_cons.1 h with h | h
    · cases h
    · exact tmps_mem (l := l) h

/-- the slots when these have come up -/
def atS (A : List (Nat × Oper)) (listed : Array Bool) (F cur : Nat → SV) : Nat → SV := over (A.filter fun q => Lst listed q.1) F cur

/-- all that is made -/
def mkAll (M : Nat → Mk) : List Nat → Nat → Option Ob
  | [] => fun _ => none
  | d :: r => addF (mkAll M r) (M d).f
theorem mkAll_some {M : Nat → Mk} {x : Nat} {ob : Ob} : ∀ {ds : List Nat}, (∀ d d', d ∈ ds → d' ∈ ds → ∀ y y', (M d).f x = some y → (M d').f x = some y' → d = d') → (mkAll M ds x = some ob ↔ ∃ d ∈ ds, (M d).f x = some ob)
  | [], _ => ⟨fun h => (by cases h), fun ⟨d, hd, _⟩ => by simp at hd⟩
  | d :: r, h => by
    simp only [mkAll]
    rw [addF_some, mkAll_some (ds := r) fun d d' hd hd' => h d d' (by simp [hd]) (by simp [hd'])]
    constructor
    · rintro (h1 | ⟨_, d', hd', h1⟩)
      · exact ⟨d, by simp, h1⟩
      · exact ⟨d', by simp [hd'], h1⟩
    · rintro ⟨d', hd', h1⟩
      cases hq : (M d).f x with
      | none =>
        rcases List.mem_cons.1 hd' with rfl | hd'
        · rw [hq] at h1; cases h1
        · exact .inr ⟨rfl, d', hd', h1⟩
      | some y =>
        have := h d d' (by simp) hd' y ob hq h1
        subst this
        rw [hq] at h1
        exact .inl h1
/-- memory when these have come up -/
def atO (A : List (Nat × Oper)) (listed : Array Bool) (M : Nat → Mk) (cur : Nat → Option Ob) : Nat → Option Ob := addF cur (mkAll M (dsts (A.filter fun q => Lst listed q.1)))

theorem evalA_sound (hS : ∀ w, KeptX X.X w0.heap.size w0 w → X.S w) {st : St} {F : Nat → SV} {sk : Nat → Bool} {M : Nat → Mk} {nxF : Nat} {A B : List (Nat × Oper)} {η : Nat → Value} (hAB : A ++ B = numbered 0 ops.toList)
    (hfacts : ∀ l1 q l2, A = l1 ++ q :: l2 → Fact P X.S ops st.objs (over l1 F st.slots) (over l1 sk fun _ => false) q.2 F sk M)
    (hFu : ∀ t, (F t).s.under nxF) (hund : Und st.slots st.objs st.next) (hlkd : ∀ l, st.lockO l = true → l < st.next) (hnF : st.next ≤ nxF)
    (hM9 : ∀ d ∈ dsts A, st.next ≤ (M d).lo ∧ (M d).lo ≤ (M d).hi ∧ (M d).hi ≤ nxF ∧ (∀ x, (F d).s.ment x → x < st.next ∨ ((M d).lo ≤ x ∧ x < (M d).hi)) ∧ ∀ x ob, (M d).f x = some ob → (M d).lo ≤ x ∧ x < (M d).hi ∧ ob.under st.next)
    (hM10 : ∀ d d', d ∈ dsts A → d' ∈ dsts A → d ≠ d' → (M d).hi ≤ (M d').lo ∨ (M d').hi ≤ (M d).lo)
    (hlock : ∀ d ∈ dsts A, st.lockS d = false) (hnd : (dsts A).Nodup) (hd : ∀ q ∈ A, ∀ d, q.2.dst = some d → d < n)
    (hbel : ∀ q ∈ A ++ B, ∀ j ∈ afters q.2, j < q.1) (hread : ∀ q ∈ A, ∀ t ∈ looks ops q.2, ∀ q' ∈ A, readOk q q' t = true) (hguard : ∀ q ∈ A, guardOk q = true) (hwB : ∀ q ∈ B, waitsAll (numbered 0 ops.toList) q = true)
    (hend : ∀ a' w' η' listed', (∀ l, l < st.next → η' l = η l) → Inv X w0 n { st with slots := atS A listed' F st.slots, objs := atO A listed' M st.objs, next := nxF } η' a' w' → listed'.size = ops.size → (∀ q ∈ A, Lst listed' q.1 = true) → (∀ q ∈ B, Lst listed' q.1 = false) → wpAny P .any ops Q B.length listed' a' w') :
    ∀ (m : Nat) (listed : Array Bool) (a : Act) (w : World) (η' : Nat → Value), (∀ l, l < st.next → η' l = η l) → listed.size = ops.size → A.countP (fun q => !Lst listed q.1) = m → (∀ q ∈ B, Lst listed q.1 = false) → (∀ q ∈ A, Lst listed q.1 = true → ∀ j ∈ afters q.2, Lst listed j = true) →
      Inv X w0 n { st with slots := atS A listed F st.slots, objs := atO A listed M st.objs, next := nxF } η' a w → (∀ q ∈ A, Lst listed q.1 = true → ∀ d, q.2.dst = some d → sk d = true → a.tmps.getD d undef = undef) → wpAny P .any ops Q (m + B.length) listed a w
  | 0, listed, a, w, η', hη, hs, hm, hB, hcl, hI, hskip => by
    rw [Nat.zero_add]
    refine hend a w η' listed hη hI hs (fun q hq => ?_) hB
    have := List.countP_eq_zero.1 hm q hq
    simpa using this
  | m + 1, listed, a, w, η', hη, hs, hm, hB, hcl, hI, hskip => by
    -- the first one that has not come up
    obtain ⟨q0, hq0, hun0⟩ : ∃ q ∈ A, Lst listed q.1 = false := by
      have : 0 < A.countP (fun q => !Lst listed q.1) := by omega
      obtain ⟨q, hq, h⟩ := List.countP_pos_iff.1 this
      exact ⟨q, hq, by simpa using h⟩
    have first : ∀ (l1 l2 : List (Nat × Oper)), A = l1 ++ l2 → (∀ q ∈ l1, Lst listed q.1 = true) → (∃ q ∈ l2, Lst listed q.1 = false) → ∃ i, i ∈ Region.ready .any ops listed := by
      intro l1 l2
      induction l2 generalizing l1 with
      | nil => rintro _ _ ⟨q, hq, _⟩; simp at hq
      | cons q l2 ih =>
        intro hA h1 h2
        cases hq : Lst listed q.1 with
        | true =>
          refine ih (l1 ++ [q]) (by simpa using hA) (fun p hp => ?_) ?_
          · rcases List.mem_append.1 hp with hp | hp
            · exact h1 p hp
            · obtain rfl := List.mem_singleton.1 hp; exact hq
          · obtain ⟨p, hp, hpu⟩ := h2
            rcases List.mem_cons.1 hp with rfl | hp
            · rw [hq] at hpu; cases hpu
            · exact ⟨p, hp, hpu⟩
        | false =>
          have hnum : numbered 0 ops.toList = l1 ++ q :: (l2 ++ B) := by rw [← hAB, hA]; simp
          obtain ⟨_, _, _, e4⟩ := numbered_split hnum
          refine ⟨q.1, (ready_iff hs).2 ⟨hq, q.2, ?_, fun j hj => ?_⟩⟩
          · have := numbered_ops (L := ops.toList) (q := q) (by rw [hnum]; simp)
            simpa using this
          · obtain ⟨p, hp, rfl⟩ := e4 j (hbel q (by rw [hA]; simp) j hj)
            exact h1 p hp
    rw [show m + 1 + B.length = (m + B.length) + 1 by omega]
    refine ⟨fun h0 => ?_, fun i hi => ?_⟩
    · obtain ⟨i, hi⟩ := first [] A rfl (fun q hq => by simp at hq) ⟨q0, hq0, hun0⟩
      rw [h0] at hi; cases hi
    · obtain ⟨hun, o, hio, haf⟩ := (ready_iff hs).1 hi
      have hmem : (i, o) ∈ A ++ B := by rw [hAB]; exact numbered_mem (by simpa using hio)
      have hAi : (i, o) ∈ A := by
        rcases List.mem_append.1 hmem with h | h
        · exact h
        · exfalso
          have hw := hwB _ h
          obtain ⟨l1, l2, rfl⟩ := List.append_of_mem h
          have hnum : numbered 0 ops.toList = (A ++ l1) ++ (i, o) :: l2 := by rw [← hAB]; simp
          obtain ⟨_, e2, _, _⟩ := numbered_split hnum
          have := waits_S (S := fun j => Lst listed j = true) hw (fun p hp hpl k hk => by
            rw [← hAB] at hp
            rcases List.mem_append.1 hp with hp' | hp'
            · exact hcl p hp' hpl k hk
            · rw [hB p hp'] at hpl; cases hpl) haf q0.1 (e2 q0 (by simp [hq0]))
          rw [this] at hun0; cases hun0
      obtain ⟨l1, l2, hA⟩ := List.append_of_mem hAi
      have hnum : numbered 0 ops.toList = l1 ++ (i, o) :: (l2 ++ B) := by rw [← hAB, hA]; simp
      obtain ⟨e1, e2, e3, e4⟩ := numbered_split hnum
      have hlt : i < listed.size := by rw [hs]; exact (Array.getElem?_eq_some_iff.1 hio).1
      -- what it looks at is as it was in the walk
      have hvw : ∀ t ∈ looks ops o, over l1 F st.slots t = atS A listed F st.slots t := by
        intro t ht
        have hfil : t ∈ dsts l1 ↔ t ∈ dsts (A.filter fun q => Lst listed q.1) := by
          rw [mem_dsts, mem_dsts]
          constructor
          · rintro ⟨q, hq, hdq⟩
            refine ⟨q, List.mem_filter.2 ⟨by rw [hA]; simp [hq], ?_⟩, hdq⟩
            have hr := hread (i, o) hAi t ht q (by rw [hA]; simp [hq])
            simp only [readOk, hdq] at hr
            have h1 : Nat.beq t t = true := by simp
            rw [h1, cond_true, lt_blt (e2 q hq), cond_true] at hr
            exact haf q.1 (memN_iff.1 hr)
          · rintro ⟨q, hq, hdq⟩
            obtain ⟨hqA, hql⟩ := List.mem_filter.1 hq
            have hql : Lst listed q.1 = true := hql
            rw [hA] at hqA
            rcases List.mem_append.1 hqA with h | h
            · exact ⟨q, h, hdq⟩
            · exfalso
              rcases List.mem_cons.1 h with rfl | h
              · rw [hun] at hql; cases hql
              · have hqA : q ∈ A := by rw [hA]; simp [h]
                have hgt := e3 q (by simp [h])
                have hr := hread (i, o) hAi t ht q hqA
                simp only [readOk, hdq] at hr
                have h1 : Nat.beq t t = true := by simp
                have h2 : Nat.blt q.1 i = false := by
                  cases hb : Nat.blt q.1 i with
                  | true => exact absurd (blt_lt hb) (by omega)
                  | false => rfl
                have h3 : Nat.beq q.1 i = false := by
                  cases hb : Nat.beq q.1 i with
                  | true => exact absurd (Nat.eq_of_beq_eq_true hb) (by omega)
                  | false => rfl
                rw [h1, cond_true, h2, cond_false, h3, Bool.false_or] at hr
                have := hcl q hqA hql i (memN_iff.1 hr)
                rw [this] at hun; cases hun
        unfold atS
        by_cases hm : t ∈ dsts l1
        · rw [over_in hm, over_in (hfil.1 hm)]
        · rw [over_out hm, over_out (fun h => hm (hfil.2 h))]
      have hopsl : ∀ t, Operand.tmp t ∈ o.op.operands → t ∈ looks ops o := by
        intro t ht
        have := tmps_mem (l := o.op.operands.toList) (by simpa using ht)
        unfold looks
        split
        · split
          · exact List.mem_cons_of_mem _ this
          · exact this
        · exact this
      have hgl : ∀ j want dj, o.guard = some (j, want) → dstOf ops j = some dj → dj ∈ looks ops o ∧ Lst listed j = true := by
        intro j want dj hg hdj
        have h1 := hguard (i, o) hAi
        simp only [guardOk, hg] at h1
        refine ⟨?_, haf j (memN_iff.1 h1)⟩
        unfold looks
        simp [hg, hdj]
      have hdo : ∀ d, o.dst = some d → d < n := hd (i, o) hAi
      -- the slots behind it
      have hslots : ∀ t, atS A (listed.setIfInBounds i true) F st.slots t = (if o.dst = some t then F t else atS A listed F st.slots t) := by
        intro t
        have hfil : t ∈ dsts (A.filter fun q => Lst (listed.setIfInBounds i true) q.1) ↔ (o.dst = some t ∨ t ∈ dsts (A.filter fun q => Lst listed q.1)) := by
          rw [mem_dsts, mem_dsts]
          constructor
          · rintro ⟨q, hq, hdq⟩
            obtain ⟨hqA, hql⟩ := List.mem_filter.1 hq
            have hql : Lst (listed.setIfInBounds i true) q.1 = true := hql
            rw [lst_set hlt, Bool.or_eq_true] at hql
            rcases hql with h | h
            · exact .inr ⟨q, List.mem_filter.2 ⟨hqA, h⟩, hdq⟩
            · have h := Nat.eq_of_beq_eq_true h
              left
              have h1 := numbered_ops (L := ops.toList) (q := q) (by rw [← hAB]; exact List.mem_append_left _ hqA)
              rw [← h] at h1
              have h2 : ops.toList[i]? = some o := by simpa using hio
              rw [h2] at h1
              injection h1 with h1
              rw [h1]; exact hdq
          · rintro (h | ⟨q, hq, hdq⟩)
            · exact ⟨(i, o), List.mem_filter.2 ⟨hAi, by show Lst _ i = true; rw [lst_set hlt]; simp⟩, h⟩
            · obtain ⟨hqA, hql⟩ := List.mem_filter.1 hq
              have hql : Lst listed q.1 = true := hql
              exact ⟨q, List.mem_filter.2 ⟨hqA, by show Lst _ q.1 = true; rw [lst_set hlt, hql]; rfl⟩, hdq⟩
        unfold atS
        by_cases h : o.dst = some t
        · rw [if_pos h, over_in (hfil.2 (.inl h))]
        · rw [if_neg h]
          by_cases hm : t ∈ dsts (A.filter fun q => Lst listed q.1)
          · rw [over_in hm, over_in (hfil.2 (.inr hm))]
          · rw [over_out hm, over_out (fun h' => (hfil.1 h').elim h hm)]
      have hdout : ∀ d, o.dst = some d → d ∉ dsts (A.filter fun q => Lst listed q.1) := by
        intro d hdd hm
        obtain ⟨q, hq, hdq⟩ := mem_dsts.1 hm
        obtain ⟨hqA, hql⟩ := List.mem_filter.1 hq
        have hql : Lst listed q.1 = true := hql
        rw [hA, dsts_append] at hnd
        have hni := List.nodup_append.1 hnd
        rw [hA] at hqA
        have hin : d ∈ dsts ((i, o) :: l2) := mem_dsts.2 ⟨(i, o), by simp, hdd⟩
        rcases List.mem_append.1 hqA with h | h
        · exact hni.2.2 d (mem_dsts.2 ⟨q, h, hdq⟩) d hin rfl
        · rcases List.mem_cons.1 h with rfl | h
          · rw [hun] at hql; cases hql
          · exact (nodup_tail hni.2.1).2 d hdd (mem_dsts.2 ⟨q, h, hdq⟩)
      -- what is made
      have hdin : ∀ d, o.dst = some d → d ∈ dsts A := fun d hdd => mem_dsts.2 ⟨(i, o), hAi, hdd⟩
      have hsub : ∀ {lst : Array Bool} {d : Nat}, d ∈ dsts (A.filter fun q => Lst lst q.1) → d ∈ dsts A := by
        intro lst d hdm
        obtain ⟨q, hq, hdq⟩ := mem_dsts.1 hdm
        exact mem_dsts.2 ⟨q, (List.mem_filter.1 hq).1, hdq⟩
      have hdis : ∀ d d', d ∈ dsts A → d' ∈ dsts A → ∀ x y y', (M d).f x = some y → (M d').f x = some y' → d = d' := by
        intro d d' hd1 hd2 x y y' h1 h2
        by_cases e : d = d'
        · exact e
        · have r1 := (hM9 d hd1).2.2.2.2 x y h1
          have r2 := (hM9 d' hd2).2.2.2.2 x y' h2
          rcases hM10 d d' hd1 hd2 e with h | h <;> omega
      have hO : ∀ (lst : Array Bool) l x, atO A lst M st.objs l = some x ↔ st.objs l = some x ∨ ∃ d ∈ dsts (A.filter fun q => Lst lst q.1), (M d).f l = some x := by
        intro lst l x
        unfold atO
        rw [addF_some, mkAll_some fun d d' h1 h2 => hdis d d' (hsub h1) (hsub h2) l]
        constructor
        · rintro (h | ⟨_, h⟩)
          · exact .inr h
          · exact .inl h
        · rintro (h | h)
          · refine .inr ⟨?_, h⟩
            cases hq : mkAll M (dsts (A.filter fun q => Lst lst q.1)) l with
            | none => rfl
            | some y =>
              obtain ⟨d, hdm, hf⟩ := (mkAll_some fun d d' h1 h2 => hdis d d' (hsub h1) (hsub h2) l).1 hq
              have r1 := (hM9 d (hsub hdm)).2.2.2.2 l y hf
              have r2 := (hM9 d (hsub hdm)).1
              have := (hund.objs l x h).2
              omega
          · exact .inl h
      have hfil' : ∀ t, t ∈ dsts (A.filter fun q => Lst (listed.setIfInBounds i true) q.1) ↔ (o.dst = some t ∨ t ∈ dsts (A.filter fun q => Lst listed q.1)) := by
        intro t
        rw [mem_dsts, mem_dsts]
        constructor
        · rintro ⟨q, hq, hdq⟩
          obtain ⟨hqA, hql⟩ := List.mem_filter.1 hq
          have hql : Lst (listed.setIfInBounds i true) q.1 = true := hql
          rw [lst_set hlt, Bool.or_eq_true] at hql
          rcases hql with h | h
          · exact .inr ⟨q, List.mem_filter.2 ⟨hqA, h⟩, hdq⟩
          · have h := Nat.eq_of_beq_eq_true h
            left
            have h1 := numbered_ops (L := ops.toList) (q := q) (by rw [← hAB]; exact List.mem_append_left _ hqA)
            rw [← h] at h1
            have h2 : ops.toList[i]? = some o := by simpa using hio
            rw [h2] at h1
            injection h1 with h1
            rw [h1]; exact hdq
        · rintro (h | ⟨q, hq, hdq⟩)
          · exact ⟨(i, o), List.mem_filter.2 ⟨hAi, by show Lst _ i = true; rw [lst_set hlt]; simp⟩, h⟩
          · obtain ⟨hqA, hql⟩ := List.mem_filter.1 hq
            have hql : Lst listed q.1 = true := hql
            exact ⟨q, List.mem_filter.2 ⟨hqA, by show Lst _ q.1 = true; rw [lst_set hlt, hql]; rfl⟩, hdq⟩
      have hO' : ∀ l x, atO A (listed.setIfInBounds i true) M st.objs l = some x ↔ atO A listed M st.objs l = some x ∨ ∃ d, o.dst = some d ∧ (M d).f l = some x := by
        intro l x
        rw [hO, hO]
        constructor
        · rintro (h | ⟨d, hdm, h⟩)
          · exact .inl (.inl h)
          · rcases (hfil' d).1 hdm with h1 | h1
            · exact .inr ⟨d, h1, h⟩
            · exact .inl (.inr ⟨d, h1, h⟩)
        · rintro ((h | ⟨d, hdm, h⟩) | ⟨d, h1, h⟩)
          · exact .inl h
          · exact .inr ⟨d, (hfil' d).2 (.inr hdm), h⟩
          · exact .inr ⟨d, (hfil' d).2 (.inl h1), h⟩
      have hunder : ∀ l x, atO A listed M st.objs l = some x → x.under st.next := by
        intro l x h
        rcases (hO listed l x).1 h with h | ⟨d, hdm, h⟩
        · exact (hund.objs l x h).1
        · exact ((hM9 d (hsub hdm)).2.2.2.2 l x h).2.2
      -- on
      have next : ∀ (val : Value) (w' : World) (η1 : Nat → Value), Below w.heap.size w w' → (∀ l, (∀ d, o.dst = some d → l < (M d).lo ∨ (M d).hi ≤ l) → η1 l = η' l) →
          (∀ d, o.dst = some d → ∀ l x b, (M d).f l = some x → blk (η1 l) = some b → w.heap.size ≤ b ∧ b < w'.heap.size) →
          (∀ d, o.dst = some d → ∀ l l' x x' b, (M d).f l = some x → (M d).f l' = some x' → blk (η1 l) = some b → blk (η1 l') = some b → l = l') →
          (∀ d, o.dst = some d → ∀ ok' : Nat → Prop, (∀ b, b < w.heap.size → okOf X.G (atO A listed M st.objs) η' b → ok' b) → (∀ b, w.heap.size ≤ b → (∀ l x, (M d).f l = some x → blk (η1 l) ≠ some b) → ok' b) →
            VS w' ok' η1 (F d) val ∧ ∀ l x, (M d).f l = some x → OK1 w' ok' η1 l x) → (∀ d, o.dst = some d → sk d = true → val = undef) →
          wpAny P .any ops Q (m + B.length) (listed.setIfInBounds i true) (a.put o.dst val) w' := by
        intro val w' η1 hbel' hη1 hblk hap hval hsk'
        have hlow : ∀ l, l < st.next → η1 l = η' l := fun l hl => hη1 l fun d hdd => .inl (Nat.lt_of_lt_of_le hl (hM9 d (hdin d hdd)).1)
        have hrange : ∀ d, d ∈ dsts (A.filter fun q => Lst listed q.1) → ∀ l, (M d).lo ≤ l → l < (M d).hi → η1 l = η' l := by
          intro d hdm l h1 h2
          refine hη1 l fun d0 hd0 => ?_
          have hne : d ≠ d0 := fun e => hdout d0 hd0 (e ▸ hdm)
          rcases hM10 d d0 (hsub hdm) (hdin d0 hd0) hne with h | h <;> omega
        have hold : ∀ l x, atO A listed M st.objs l = some x → η1 l = η' l := by
          intro l x h
          rcases (hO listed l x).1 h with h | ⟨d, hdm, h⟩
          · exact hlow l (hund.objs l x h).2
          · have := (hM9 d (hsub hdm)).2.2.2.2 l x h
            exact hrange d hdm l this.1 this.2.1
        have hokk : ∀ b, b < w.heap.size → okOf X.G (atO A listed M st.objs) η' b → okOf X.G (atO A (listed.setIfInBounds i true) M st.objs) η1 b := by
          intro b hb ho
          refine ⟨ho.1, fun l x hx hbl => ?_⟩
          rcases (hO' l x).1 hx with h | ⟨d, hdd, h⟩
          · rw [hold l x h] at hbl; exact ho.2 l x h hbl
          · have := (hblk d hdd l x b h hbl).1; omega
        have hoknew : ∀ d, o.dst = some d → ∀ b, w.heap.size ≤ b → (∀ l x, (M d).f l = some x → blk (η1 l) ≠ some b) → okOf X.G (atO A (listed.setIfInBounds i true) M st.objs) η1 b := by
          intro d hdd b hb hno
          refine ⟨hI.gnew b (Nat.le_trans hI.kept.size hb), fun l x hx hbl => ?_⟩
          rcases (hO' l x).1 hx with h | ⟨d', hdd', h⟩
          · rw [hold l x h] at hbl
            have := (hI.mine l x b h hbl).2; omega
          · obtain rfl : d = d' := by rw [hdd] at hdd'; exact Option.some.inj hdd'
            exact hno l x h hbl
        have Kp : ∀ N, Keeps w (okOf X.G (atO A listed M st.objs) η') η' w' (okOf X.G (atO A (listed.setIfInBounds i true) M st.objs) η1) η' N := fun N =>
          ⟨fun ad u ho hu => ⟨hokk _ (World.block_lt_of_cell? w ad hu) ho, (hbel'.cell (World.block_lt_of_cell? w ad hu)).trans hu⟩, fun _ _ => rfl⟩
        have Kq : Keeps w (okOf X.G (atO A listed M st.objs) η') η' w' (okOf X.G (atO A (listed.setIfInBounds i true) M st.objs) η1) η1 st.next :=
          ⟨fun ad u ho hu => ⟨hokk _ (World.block_lt_of_cell? w ad hu) ho, (hbel'.cell (World.block_lt_of_cell? w ad hu)).trans hu⟩, hlow⟩
        refine evalA_sound hS hAB hfacts hFu hund hlkd hnF hM9 hM10 hlock hnd hd hbel hread hguard hwB hend m _ _ _ η1 (fun l hl => (hlow l hl).trans (hη l hl)) (by simp [hs]) ?_ ?_ ?_ ?_ ?_
        · have := countP_set (l := A) (q := (i, o)) (f := fun q => !Lst listed q.1) (g := fun q => !Lst (listed.setIfInBounds i true) q.1) (by simp [hun]) (by simp [lst_set hlt]) (fun q' _ hne => by
            rw [lst_set hlt]
            have : Nat.beq i q'.1 = false := by
              cases hb : Nat.beq i q'.1 with
              | true => exact absurd (Nat.eq_of_beq_eq_true hb).symm hne
              | false => rfl
            rw [this, Bool.or_false]) hA (fun q' hq' => Nat.ne_of_lt (e2 q' hq')) (fun q' hq' => Nat.ne_of_gt (e3 q' (by simp [hq'])))
          omega
        · intro q hq
          rw [lst_set hlt, hB q hq]
          cases hb : Nat.beq i q.1 with
          | false => rfl
          | true =>
            exfalso
            have := Nat.eq_of_beq_eq_true hb
            have := e3 q (by simp [hq])
            simp only at this
            omega
        · intro q hq hl j hj
          rw [lst_set hlt] at hl ⊢
          rw [Bool.or_eq_true] at hl ⊢
          left
          rcases hl with h | h
          · exact hcl q hq h j hj
          · have h := Nat.eq_of_beq_eq_true h
            have h1 := numbered_ops (L := ops.toList) (q := q) (by rw [← hAB]; exact List.mem_append_left _ hq)
            rw [← h] at h1
            have h2 : ops.toList[i]? = some o := by simpa using hio
            rw [h2] at h1
            injection h1 with h1
            rw [← h1] at hj
            exact haf j hj
        · refine ⟨hI.kept.below hI.kept.size hbel', hI.gnew, hI.gold, by rw [put_size]; exact hI.size, by rw [put_defers']; exact hI.defers, fun t => ?_, fun l x hx => ?_, fun l x b hx hb => ?_, fun l l' x x' b hx hx' hb hb' => ?_, ⟨fun t => ?_, fun l x hx => ?_⟩, fun l hl => Nat.lt_of_lt_of_le (hlkd l hl) hnF⟩
          · show VS w' (okOf X.G (atO A (listed.setIfInBounds i true) M st.objs) η1) η1 (atS A (listed.setIfInBounds i true) F st.slots t) _
            rw [hslots t]
            by_cases h : o.dst = some t
            · rw [if_pos h, h, getD_put a t t val (by rw [hI.size]; exact hdo t h), if_pos rfl]
              exact (hval t h _ hokk (hoknew t h)).1
            · rw [if_neg h]
              have : (a.put o.dst val).tmps.getD t undef = a.tmps.getD t undef := by
                cases hdd : o.dst with
                | none => rfl
                | some d =>
                  rw [getD_put_any, if_neg]
                  rintro ⟨rfl, _⟩
                  exact h hdd
              rw [this]
              refine V_ment (n := nxF) (hI.und.slots t) (fun l hl => ?_) (V_keeps (Kp nxF) (hI.und.slots t) (hI.slots t))
              have hl : (atS A listed F st.slots t).s.ment l := hl
              unfold atS at hl
              by_cases hm : t ∈ dsts (A.filter fun q => Lst listed q.1)
              · rw [over_in hm] at hl
                rcases (hM9 t (hsub hm)).2.2.2.1 l hl with h1 | h1
                · exact hlow l h1
                · exact hrange t hm l h1.1 h1.2
              · rw [over_out hm] at hl
                exact hlow l (ment_under (hund.slots t) hl)
          · rcases (hO' l x).1 hx with h | ⟨d, hdd, h⟩
            · exact OK1_keeps Kq (hold l x h) (hunder l x h) (fun b hb => hbel'.block b (hI.mine l x b h hb).2) (hI.objs l x h)
            · exact (hval d hdd _ hokk (hoknew d hdd)).2 l x h
          · rcases (hO' l x).1 hx with h | ⟨d, hdd, h⟩
            · rw [hold l x h] at hb
              obtain ⟨h3, h4⟩ := hI.mine l x b h hb
              exact ⟨h3, Nat.lt_of_lt_of_le h4 hbel'.size⟩
            · obtain ⟨h3, h4⟩ := hblk d hdd l x b h hb
              exact ⟨.inl (Nat.le_trans hI.kept.size h3), h4⟩
          · rcases (hO' l x).1 hx with h | ⟨d, hdd, h⟩ <;> rcases (hO' l' x').1 hx' with h' | ⟨d', hdd', h'⟩
            · rw [hold l x h] at hb; rw [hold l' x' h'] at hb'
              exact hI.apart l l' x x' b h h' hb hb'
            · rw [hold l x h] at hb
              have := (hI.mine l x b h hb).2
              have := (hblk d' hdd' l' x' b h' hb').1
              omega
            · rw [hold l' x' h'] at hb'
              have := (hI.mine l' x' b h' hb').2
              have := (hblk d hdd l x b h hb).1
              omega
            · obtain rfl : d = d' := by rw [hdd] at hdd'; exact Option.some.inj hdd'
              exact hap d hdd l l' x x' b h h' hb hb'
          · show (atS A (listed.setIfInBounds i true) F st.slots t).s.under nxF
            rw [hslots t]
            by_cases h : o.dst = some t
            · rw [if_pos h]; exact hFu t
            · rw [if_neg h]; exact hI.und.slots t
          · rcases (hO' l x).1 hx with h | ⟨d, hdd, h⟩
            · exact hI.und.objs l x h
            · obtain ⟨r1, r2, r3⟩ := (hM9 d (hdin d hdd)).2.2.2.2 l x h
              exact ⟨Ob.under_mono hnF r3, Nat.lt_of_lt_of_le r2 (hM9 d (hdin d hdd)).2.2.1⟩
        · intro q hq hl d hdq hskd
          rw [lst_set hlt, Bool.or_eq_true] at hl
          by_cases h : o.dst = some d
          · rw [h, getD_put a d d val (by rw [hI.size]; exact hdo d h), if_pos rfl]
            exact hsk' d h hskd
          · have : (a.put o.dst val).tmps.getD d undef = a.tmps.getD d undef := by
              cases hdd : o.dst with
              | none => rfl
              | some e =>
                rw [getD_put_any, if_neg]
                rintro ⟨rfl, _⟩
                exact h hdd
            rw [this]
            rcases hl with hl | hl
            · exact hskip q hq hl d hdq hskd
            · exfalso
              have hl := Nat.eq_of_beq_eq_true hl
              have h1 := numbered_ops (L := ops.toList) (q := q) (by rw [← hAB]; exact List.mem_append_left _ hq)
              rw [← hl] at h1
              have h2 : ops.toList[i]? = some o := by simpa using hio
              rw [h2] at h1
              injection h1 with h1
              rw [← h1] at hdq
              exact h hdq
      unfold wpOp
      rw [hio]
      rcases hfacts l1 (i, o) l2 hA with ⟨j, want, dj, g1, g2, g3, g4⟩ | ⟨hsat, sl, v, mk, s1, s2, s3, s4⟩
      · have hgl' := hgl j want dj g1 g2
        have hno : Region.wanted o (yielded ops a.tmps) = false := by
          unfold Region.wanted
          simp only [show o.guard = some (j, want) from g1, yielded_of g2]
          rcases g3 with g3 | ⟨g3, b, g5, g6⟩
          · have hin : dj ∈ dsts l1 := by
              by_cases h : dj ∈ dsts l1
              · exact h
              · rw [over_out h] at g3; cases g3
            rw [over_in hin] at g3
            obtain ⟨q, hq, hdq⟩ := mem_dsts.1 hin
            have hqA : q ∈ A := by rw [hA]; simp [hq]
            have hr := hread (i, o) hAi dj hgl'.1 q hqA
            simp only [readOk, hdq] at hr
            have h1 : Nat.beq dj dj = true := by simp
            rw [h1, cond_true, lt_blt (e2 q hq), cond_true] at hr
            have := hskip q hqA (haf q.1 (memN_iff.1 hr)) dj hdq g3
            cases hq' : a.tmps[dj]? with
            | none => simp
            | some u =>
              rw [Array.getD_eq_getD_getElem?, hq'] at this
              simp at this
              subst this
              simp [undef]
          · rw [hvw dj hgl'.1] at g5
            have hv := hI.slots dj
            have hv : VS w (okOf X.G (atO A listed M st.objs) η') η' (atS A listed F st.slots dj) (a.tmps.getD dj undef) := hv
            rw [g5] at hv
            have := V_bool hv rfl
            simp [getD_bool this, g6]
        simp only [hno, Bool.false_eq_true, if_false]
        exact next undef w η' (Below.refl _ _) (fun _ _ => rfl) (fun d hdd l x b hx => by rw [(g4 d hdd).2.2 l] at hx; cases hx) (fun d hdd l l' x x' b hx => by rw [(g4 d hdd).2.2 l] at hx; cases hx)
          (fun d hdd ok' _ _ => ⟨by rw [(g4 d hdd).2.1]; trivial, fun l x hx => by rw [(g4 d hdd).2.2 l] at hx; cases hx⟩) (fun _ _ _ => rfl)
      · have hyes : Region.wanted o (yielded ops a.tmps) = true := by
          unfold Region.wanted
          rcases hsat with hg | ⟨j, want, dj, g1, g2, g3, g4⟩
          · simp only [show o.guard = none from hg]
          · simp only [show o.guard = some (j, want) from g1, yielded_of g2]
            rw [hvw dj (hgl j want dj g1 g2).1] at g4
            have hv : VS w (okOf X.G (atO A listed M st.objs) η') η' (atS A listed F st.slots dj) (a.tmps.getD dj undef) := hI.slots dj
            rw [g4] at hv
            simp [getD_bool (V_bool hv rfl)]
        simp only [hyes, if_true]
        refine .inl (s2 w (okOf X.G (atO A listed M st.objs) η') η' a (hS w hI.kept) (fun t ht => ?_) (fun l x hx => hI.objs l x ((hO listed l x).2 (.inl hx))) _ _ fun val w' η1 hb e1 e2 e3 e4 => next val w' η1 hb (fun l hl => ?_) (fun d hdd => ?_) (fun d hdd => ?_) (fun d hdd => ?_) (fun d hdd hs' => ?_))
        · rcases s1 t with e | e
          · rw [e]; trivial
          · rw [e, hvw t (hopsl t ht)]; exact hI.slots t
        · cases hdd : o.dst with
          | none => have := (s3 hdd).1; exact e1 l (by omega)
          | some d => exact e1 l (by have := hl d hdd; rw [(s4 d hdd).2.2] at this; exact this)
        · rw [(s4 d hdd).2.2]; exact e2
        · rw [(s4 d hdd).2.2]; exact e3
        · rw [(s4 d hdd).2.2, (s4 d hdd).2.1]; exact e4
        · rw [(s4 d hdd).1] at hs'; cases hs'

theorem nodupN_spec : ∀ {l : List Nat}, nodupN l = true → l.Nodup
  | [], _ => List.nodup_nil
  | a :: l, h => by
    simp only [nodupN, Bool.and_eq_true, Bool.not_eq_true'] at h
    refine List.nodup_cons.2 ⟨fun hm => ?_, nodupN_spec h.2⟩
    rw [memN_iff.2 hm] at h
    cases h.1

/-- A DRAWN REGION. -/
theorem draw_sound (hT : TTok P tt) (hE : EnvAt P X w0 env) (hm : P.follows .mixedOrders = true) {id : Nat} {R : Type} {r : R} {st : St} {k : St → Option R} {η : Nat → Value} {a : Act} {w : World} {fuel : Nat}
    (h : (bif drawOk ops (numbered 0 ops.toList) (headOps (numbered 0 ops.toList)) then evalA tt env ops fuel true none (headOps (numbered 0 ops.toList)) st.next (fun _ => none) st fun st => evalB tt env ow (tailOps (numbered 0 ops.toList)) st k else none) = some r)
    (hI : Inv X w0 n st η a w) (hd : ∀ q ∈ numbered 0 ops.toList, ∀ d, q.2.dst = some d → d < n) (hQ : ∀ a' w', Post X w0 n st η k r a' w' → Q .normal a' w') : (Code.region id ops true).wp P Q a w := by
  cases hok : drawOk ops (numbered 0 ops.toList) (headOps (numbered 0 ops.toList)) with
  | false => rw [hok, cond_false] at h; cases h
  | true =>
  rw [hok, cond_true] at h
  simp only [drawOk, Bool.and_eq_true] at hok
  obtain ⟨⟨k1, k2⟩, k3⟩ := hok
  have hAB := head_tail (numbered 0 ops.toList)
  have hnd := nodupN_spec k2
  have hsubA : ∀ q ∈ headOps (numbered 0 ops.toList), q ∈ numbered 0 ops.toList := fun q hq => by rw [← hAB]; exact List.mem_append_left _ hq
  have hsubB : ∀ q ∈ tailOps (numbered 0 ops.toList), q ∈ numbered 0 ops.toList := fun q hq => by rw [← hAB]; exact List.mem_append_right _ hq
  obtain ⟨F, sk, M, sl', nxF, made, b1, b2, b3, b4, b5, b6, b7, b8, b9, b10, b11⟩ := evalA_facts hT hE.1 fuel (cur := st.slots) (sk0 := fun _ => false) (M0 := fun _ => ⟨fun _ => none, 0, 0⟩) h hI.und hI.und.objs (Nat.le_refl _) (fun t => .inr rfl) (fun t ht => by cases ht) hnd trivial
  have hbel : ∀ q ∈ numbered 0 ops.toList, ∀ j ∈ afters q.2, j < q.1 := fun q hq j hj => blt_lt (allB_mem (allB_mem k1 q hq) j hj)
  refine wp_region_any hm ?_
  let st1 : World := { w with drawn := w.drawn + 1 }
  have hI1 : Inv X w0 n st η a { w with drawn := w.drawn + 1 } := by
    have hb : Below w.heap.size w { w with drawn := w.drawn + 1 } := ⟨rfl, rfl, rfl, Nat.le_refl _, fun _ _ => rfl⟩
    have Kp : Keeps w (okOf X.G st.objs η) η { w with drawn := w.drawn + 1 } (okOf X.G st.objs η) η st.next := ⟨fun ad u ho hu => ⟨ho, (hb.cell (World.block_lt_of_cell? w ad hu)).trans hu⟩, fun _ _ => rfl⟩
    exact ⟨hI.kept.below hI.kept.size hb, hI.gnew, hI.gold, hI.size, hI.defers, fun t => V_keeps Kp (hI.und.slots t) (hI.slots t), fun l x hx => OK1_keeps Kp rfl (hI.und.objs l x hx).1 (fun b hbb => hb.block b (hI.mine l x b hx hbb).2) (hI.objs l x hx), hI.mine, hI.apart, hI.und, hI.locked⟩
  have hlen : (headOps (numbered 0 ops.toList)).length + (tailOps (numbered 0 ops.toList)).length = ops.size := by
    have hn : ∀ (l : List Oper) (i : Nat), (numbered i l).length = l.length := by
      intro l
      induction l with
      | nil => intro i; rfl
      | cons x l ih => intro i; simp [numbered, ih]
    rw [← List.length_append, hAB, hn]
    simp
  have hrep : ∀ j, Lst (Array.replicate ops.size false) j = false := fun j => by
    unfold Lst
    by_cases hj : j < ops.size
    · simp [Array.getD, hj]
    · simp [Array.getD, hj]
  have hcount : (headOps (numbered 0 ops.toList)).countP (fun q => !Lst (Array.replicate ops.size false) q.1) = (headOps (numbered 0 ops.toList)).length := by
    rw [List.countP_eq_length]
    intro q _
    rw [hrep]; rfl
  have hat0 : atS (headOps (numbered 0 ops.toList)) (Array.replicate ops.size false) F st.slots = st.slots := by
    funext t
    unfold atS
    rw [over_out]
    intro hm
    obtain ⟨q, hq, _⟩ := mem_dsts.1 hm
    have := (List.mem_filter.1 hq).2
    rw [hrep] at this; cases this
  have hat1 : atO (headOps (numbered 0 ops.toList)) (Array.replicate ops.size false) M st.objs = st.objs := by
    have : (headOps (numbered 0 ops.toList)).filter (fun q => Lst (Array.replicate ops.size false) q.1) = [] := List.filter_eq_nil_iff.2 fun q _ => by rw [hrep]; simp
    funext l
    unfold atO
    rw [this]
    rfl
  have fuelEq : ∀ {u v : Nat} {lst : Array Bool} {aa : Act} {ww : World}, u = v → wpAny P .any ops Q u lst aa ww → wpAny P .any ops Q v lst aa ww := fun e h => e ▸ h
  refine fuelEq hlen ?_
  refine evalA_sound hE.2 (A := headOps (numbered 0 ops.toList)) (F := F) (sk := sk) (M := M) (η := η) hAB b7 b4 hI.und hI.locked b8.1 b9 b10 b6 hnd (fun q hq => hd q (hsubA q hq)) (fun q hq => hbel q (by rw [← hAB]; exact hq))
    (fun q hq t ht q' hq' => ?_) (fun q hq => ?_) tail_waits (fun a' w' η' listed' hη' hI' hs' hA' hB' => ?_) _ _ _ _ η (fun _ _ => rfl) (by simp) hcount (fun q hq => hrep q.1) (fun q hq hl => by rw [hrep] at hl; cases hl) (by rw [hat0, hat1]; exact ⟨hI1.kept, hI1.gnew, hI1.gold, hI1.size, hI1.defers, hI1.slots, hI1.objs, hI1.mine, hI1.apart, ⟨fun t => under_mono b8.1 (hI1.und.slots t), fun l x hx => ⟨Ob.under_mono b8.1 (hI1.und.objs l x hx).1, Nat.lt_of_lt_of_le (hI1.und.objs l x hx).2 b8.1⟩⟩, fun l hl => Nat.lt_of_lt_of_le (hI1.locked l hl) b8.1⟩) (fun q hq hl => by rw [hrep] at hl; cases hl)
  · have := allB_mem k3 q hq
    simp only [Bool.and_eq_true] at this
    exact allB_mem (allB_mem this.2 t ht) q' hq'
  · have := allB_mem k3 q hq
    simp only [Bool.and_eq_true] at this
    exact this.1
  · have hF : ∀ t, atS (headOps (numbered 0 ops.toList)) listed' F st.slots t = F t := by
      intro t
      unfold atS
      by_cases hm : t ∈ dsts (headOps (numbered 0 ops.toList))
      · rw [over_in]
        obtain ⟨q, hq, hdq⟩ := mem_dsts.1 hm
        exact mem_dsts.2 ⟨q, List.mem_filter.2 ⟨hq, hA' q hq⟩, hdq⟩
      · rw [over_out]
        · exact (b3 t hm).1.symm
        · intro hm'
          obtain ⟨q, hq, hdq⟩ := mem_dsts.1 hm'
          exact hm (mem_dsts.2 ⟨q, (List.mem_filter.1 hq).1, hdq⟩)
    have hAf : (headOps (numbered 0 ops.toList)).filter (fun q => Lst listed' q.1) = headOps (numbered 0 ops.toList) := List.filter_eq_self.2 fun q hq => hA' q hq
    have hdis : ∀ d d', d ∈ dsts (headOps (numbered 0 ops.toList)) → d' ∈ dsts (headOps (numbered 0 ops.toList)) → ∀ x y y', (M d).f x = some y → (M d').f x = some y' → d = d' := by
      intro d d' hd1 hd2 x y y' h1 h2
      by_cases e : d = d'
      · exact e
      · have r1 := (b9 d hd1).2.2.2.2 x y h1
        have r2 := (b9 d' hd2).2.2.2.2 x y' h2
        rcases b10 d d' hd1 hd2 e with h | h <;> omega
    have hmade : atO (headOps (numbered 0 ops.toList)) listed' M st.objs = addF st.objs made := by
      unfold atO
      rw [hAf]
      congr 1
      funext x
      apply Option.ext
      intro ob
      rw [mkAll_some fun d d' h1 h2 => hdis d d' h1 h2 x, b11 (fun x ob h => by cases h)]
      simp
    have hmlow : ∀ x ob, made x = some ob → st.next ≤ x := by
      intro x ob h
      rcases (b11 (fun x ob h => by cases h) x ob).1 h with h | ⟨d, hdm, h⟩
      · cases h
      · have := (b9 d hdm).1
        have := ((b9 d hdm).2.2.2.2 x ob h).1
        omega
    have hI2 : Inv X w0 n { st with slots := sl', objs := addF st.objs made, next := nxF } η' a' w' := by
      rw [hmade] at hI'
      refine ⟨hI'.kept, hI'.gnew, hI'.gold, hI'.size, hI'.defers, fun t => ?_, hI'.objs, hI'.mine, hI'.apart, ⟨fun t => ?_, hI'.und.objs⟩, hI'.locked⟩
      · show VS w' _ η' (sl' t) _
        rcases b2 t with e | e
        · rw [e]; trivial
        · rw [e, ← hF t]; exact hI'.slots t
      · show (sl' t).s.under nxF
        rcases b2 t with e | e
        · rw [e]; trivial
        · rw [e]; exact b4 t
    refine evalB_sound hT hE _ _ hAB b1 hI2 hs' hA' hB' tail_waits hbel (fun q hq => hd q (hsubB q hq)) fun a'' w'' ⟨st'', η'', hL, hI'', hk⟩ => hQ a'' w'' ⟨st'', η'', ?_, hI'', hk⟩
    refine Later.trans (st' := { st with slots := sl', objs := addF st.objs made, next := nxF }) (η' := η') ⟨hη', b8.1, rfl, rfl, fun t ht => ?_, fun l hl => ?_⟩ hL
    · by_cases hm : t ∈ dsts (headOps (numbered 0 ops.toList))
      · rw [b6 t hm] at ht; cases ht
      · exact (b3 t hm).2.2.1
    · show addF st.objs made l = st.objs l
      have hlt := hI.locked l hl
      unfold addF
      cases hq : made l with
      | none => rfl
      | some ob => have := hmlow l ob hq; omega
end
end Go.Rai
