/- A part of the proof of ScriptBack: general lemmas, with no condition of their own. -/
import Derived.Test.YtdmbeajlccebgaaGreatDoorPlainC
/- Plain laws: the law ScriptLines, of all that the row lets in. -/
set_option linter.unusedVariables false
set_option linter.unusedSimpArgs false
namespace Go.Rai
open Go
theorem wf_i64 {n : Int} (h : (Lit.int .i64 n).wf = true) : I64 n := by
  have : IntKind.i64.min ≤ n ∧ n ≤ IntKind.i64.max := by simpa [Lit.wf] using h
  exact this
abbrev shCmd : Sh := .pair (.int .i64) (.pair (.int .i64) (.pair (.int .i64) (.pair (.int .i64) (.pair (.int .i64) (.pair (.slice (.pair (.int .i64) (.pair (.int .i64) .unit))) (.pair (.int .i64) (.pair (.slice (.pair (.int .i64) (.pair (.int .i64) (.pair (.int .i64) .unit)))) (.pair (.int .i64) (.pair (.int .i64) (.pair (.int .i64) (.pair (.int .i64) (.pair (.slice (.int .i64)) .unit))))))))))))
theorem cmd_good {c : Cmd} (h : GoodD shCmd c) (hf : fewB c = true) : CmdR c := by
  simp only [fewB, Bool.and_eq_true, decide_eq_true_eq] at hf
  obtain ⟨⟨f1, f2⟩, f3⟩ := hf
  obtain ⟨k0, o1, o2, o3, o4, o5, k6, k7, k8, k9, k10, k11, k12, _⟩ := h
  refine ⟨⟨?_, Nat.le_trans f1 (by decide), fun p hp => ⟨wf_i64 (o5.2 p hp).1, wf_i64 (o5.2 p hp).2.1⟩⟩, wf_i64 k6, Nat.le_trans f2 (by decide), wf_i64 k8, ?_, Nat.le_trans f3 (by decide), fun n hn => wf_i64 (k12.2 n hn)⟩
  · intro n hn
    simp only [ordNums, List.mem_cons, List.not_mem_nil, or_false] at hn
    rcases hn with rfl | rfl | rfl | rfl
    · exact wf_i64 o1
    · exact wf_i64 o2
    · exact wf_i64 o3
    · exact wf_i64 o4
  · intro n hn
    simp only [cPlan, List.mem_cons, List.not_mem_nil, or_false] at hn
    rcases hn with rfl | rfl | rfl
    · exact wf_i64 k9
    · exact wf_i64 k10
    · exact wf_i64 k11
theorem pure_ScriptLines : ∀ d, GoodAll sig_haulierlaw42_ScriptLines.ins d → haulierlaw42_ScriptLines d = some (true, ()) := by
  intro d h
  exact lines_law (c := d.1) (s := d.2.1) (fun hf => cmd_good h.1 hf)
end Go.Rai

/- Plain laws: what is written is read, and what is read is written: numbers, windows, words. -/
set_option linter.unusedVariables false
set_option linter.unusedSimpArgs false
namespace Go.Rai
open Go
theorem valF_app (xs : B) : ∀ (acc : Nat) (ys : B), valF acc (xs ++ ys) = valF (valF acc xs) ys := by
  induction xs with
  | nil => intro acc ys; rfl
  | cons c r ih =>
    intro acc ys
    rw [List.cons_append, valF_step, valF_step, ih]
theorem valF_one {acc : Nat} {c : UInt8} : valF acc [c] = 10 * acc + (c.toNat - 48) := by rw [valF_step]; rfl
theorem dig_nat {n : Nat} (h : n < 10) : (UInt8.ofNat (48 + n)).toNat = 48 + n := by
  simp
  omega
theorem dig_is {n : Nat} (h : n < 10) : isDig (UInt8.ofNat (48 + n)) = true := by
  unfold isDig
  rw [dig_nat h]
  simp
  omega
theorem dd_all (u : Nat) : (Lib.decDigits u).all isDig = true := by
  induction u using Nat.strongRecOn with
  | _ u ih =>
    rw [Lib.decDigits]
    by_cases h : u < 10
    · rw [dif_pos h, List.all_cons, dig_is h]; rfl
    · rw [dif_neg h, List.all_append, ih (u / 10) (by omega), List.all_cons, dig_is (show u % 10 < 10 by omega)]
      rfl
theorem dd_val (u : Nat) : valN (Lib.decDigits u) = u := by
  unfold valN
  induction u using Nat.strongRecOn with
  | _ u ih =>
    rw [Lib.decDigits]
    by_cases h : u < 10
    · rw [dif_pos h, valF_one, dig_nat h]; omega
    · rw [dif_neg h, valF_app, ih (u / 10) (by omega), valF_one, dig_nat (by omega)]; omega
theorem dd_ne (u : Nat) : Lib.decDigits u ≠ [] := by
  rw [Lib.decDigits]
  split <;> simp
theorem dd_head (u : Nat) : 1 ≤ u → (Lib.decDigits u).head? ≠ some 48 := by
  induction u using Nat.strongRecOn with
  | _ u ih =>
    intro h1
    rw [Lib.decDigits]
    by_cases h : u < 10
    · rw [dif_pos h]
      intro e
      have := dig_nat h
      simp only [List.head?_cons, Option.some.injEq] at e
      rw [e] at this
      have h48 : (48 : UInt8).toNat = 48 := rfl
      omega
    · rw [dif_neg h]
      have := ih (u / 10) (by omega) (by omega)
      cases hd : Lib.decDigits (u / 10) with
      | nil => exact absurd hd (dd_ne _)
      | cons a r => rw [hd] at this; simpa using this
theorem dd_zero : Lib.decDigits 0 = [48] := by
  rw [Lib.decDigits, dif_pos (by decide)]
  rfl
theorem dd_dec (u : Nat) : decB (Lib.decDigits u) = true := by
  unfold decB
  rw [dd_all]
  by_cases h : 1 ≤ u
  · have h1 := dd_head u h
    have h2 := dd_ne u
    simp [h1, h2, bne]
  · have : u = 0 := by omega
    subst this
    rw [dd_zero]
    rfl
theorem dd_back (n : Nat) : ∀ w : B, w.length = n → w ≠ [] → w.all isDig = true → w.head? ≠ some 48 → 1 ≤ valN w ∧ Lib.decDigits (valN w) = w := by
  induction n with
  | zero => intro w hl hn; exact absurd (List.eq_nil_of_length_eq_zero hl) hn
  | succ n ih =>
    intro w hl hn hd hh
    rcases List.eq_nil_or_concat w with rfl | ⟨q, c, rfl⟩
    · exact absurd rfl hn
    · rw [List.concat_eq_append] at *
      rw [List.all_append, Bool.and_eq_true] at hd
      have hc : 48 ≤ c.toNat ∧ c.toNat ≤ 57 := by simpa [isDig] using hd.2
      have hval : valN (q ++ [c]) = 10 * valN q + (c.toNat - 48) := by unfold valN; rw [valF_app, valF_one]
      have hcc : UInt8.ofNat (48 + (c.toNat - 48)) = c := by
        apply u8_ext
        rw [dig_nat (by omega)]
        omega
      rw [hval]
      by_cases hq : q = []
      · subst hq
        have h0 : valN [] = 0 := rfl
        have : c.toNat ≠ 48 := by
          intro e
          apply hh
          have : c = 48 := u8_ext e
          rw [this]
          rfl
        rw [h0]
        refine ⟨by omega, ?_⟩
        rw [Lib.decDigits, dif_pos (by omega)]
        simp only [Nat.mul_zero, Nat.zero_add, hcc, List.nil_append]
      · obtain ⟨h1, h2⟩ := ih q (by simpa using hl) hq hd.1 (by
          cases q with
          | nil => exact absurd rfl hq
          | cons a r => simpa using hh)
        refine ⟨by omega, ?_⟩
        rw [Lib.decDigits, dif_neg (by omega), show (10 * valN q + (c.toNat - 48)) / 10 = valN q by omega, show (10 * valN q + (c.toNat - 48)) % 10 = c.toNat - 48 by omega, h2, hcc]
theorem dec_back {w : B} (h : decB w = true) : Lib.decDigits (valN w) = w := by
  unfold decB at h
  simp only [Bool.and_eq_true, Bool.or_eq_true, beq_iff_eq, bne_iff_ne] at h
  rcases h.2 with h1 | h1
  · rw [h1]
    exact dd_zero
  · exact (dd_back _ w rfl h1.1 h.1 h1.2).2
theorem itoa_nat {n : Int} (h : 0 ≤ n) : Lib.itoa n = Lib.decDigits n.toNat := by
  unfold Lib.itoa
  rw [if_neg (by omega)]
theorem num_there {n most : Int} (h0 : 0 ≤ n) (h1 : n ≤ most) : numS (Lib.itoa n) most = (n, 0, ()) := by
  rw [itoa_nat h0, numS_code (dd_dec _), dd_val]
  rw [if_neg (by omega)]
  simp only [Prod.mk.injEq, and_true]
  omega
theorem num_back {w : B} {most : Int} (h : (numS w most).2.1 = 0) : Lib.itoa (numS w most).1 = w ∧ 0 ≤ (numS w most).1 ∧ (numS w most).1 ≤ most := by
  cases hd : decB w with
  | false =>
    unfold numS at h
    rw [if_pos hd] at h
    exact absurd h (by decide)
  | true =>
    rw [numS_code hd] at h ⊢
    by_cases hm : (valN w : Int) > most
    · rw [if_pos hm] at h
      exact absurd h (by decide)
    · rw [if_neg hm]
      refine ⟨?_, by simp, by simp only []; omega⟩
      rw [itoa_nat (by simp)]
      exact dec_back hd
theorem no45 {w : B} (h : w.all isDig = true) : ∀ x ∈ w, x.toNat ≠ 45 := by
  intro x hx
  have : isDig x = true := List.all_eq_true.1 h x hx
  simp [isDig] at this
  omega
theorem sgn_there {n : Int} (h0 : -1000000000 ≤ n) (h1 : n ≤ 1000000000) : sgnS (Lib.itoa n) = (n, 0, ()) := by
  by_cases hn : n < 0
  · have e : Lib.itoa n = 45 :: Lib.decDigits n.natAbs := by unfold Lib.itoa; rw [if_pos hn]
    have e2 := num_there (n := (n.natAbs : Int)) (most := 1000000000) (by omega) (by omega)
    rw [itoa_nat (by omega)] at e2
    simp only [Int.toNat_natCast] at e2
    rw [e]
    unfold sgnS
    simp only [e2]
    rw [if_pos (by rfl), if_neg (by simp), if_neg (by omega)]
    simp only [Prod.mk.injEq, and_true]
    omega
  · have e := num_there (n := n) (most := 1000000000) (by omega) h1
    rw [← e]
    rw [itoa_nat (by omega)]
    unfold sgnS
    cases hd : Lib.decDigits n.toNat with
    | nil => rfl
    | cons c r =>
      have := no45 (dd_all n.toNat) c (by rw [hd]; simp)
      simp only []
      rw [if_neg this]
theorem sgn_back {w : B} (h : (sgnS w).2.1 = 0) : Lib.itoa (sgnS w).1 = w ∧ -1000000000 ≤ (sgnS w).1 ∧ (sgnS w).1 ≤ 1000000000 := by
  unfold sgnS at h ⊢
  cases w with
  | nil => exact absurd h (by decide)
  | cons c r =>
    simp only [] at h ⊢
    by_cases hc : c.toNat = 45
    · rw [if_pos hc] at h ⊢
      by_cases he : (numS r 1000000000).2.1 ≠ 0
      · rw [if_pos he] at h
        exact absurd h he
      · rw [if_neg he] at h ⊢
        by_cases hz : (numS r 1000000000).1 = 0
        · rw [if_pos hz] at h
          exact absurd h (by decide)
        · rw [if_neg hz]
          obtain ⟨h1, h2, h3⟩ := num_back (Decidable.not_not.1 he)
          refine ⟨?_, by simp only []; omega, by simp only []; omega⟩
          simp only []
          unfold Lib.itoa
          rw [if_pos (by omega), show (-(numS r 1000000000).1).natAbs = (numS r 1000000000).1.toNat by omega, ← itoa_nat h2, h1, show c = 45 from u8_ext hc]
    · rw [if_neg hc] at h ⊢
      obtain ⟨h1, h2, h3⟩ := num_back h
      exact ⟨h1, by omega, h3⟩

/-! windows -/
theorem cut_there {a b : B} (h : ∀ x ∈ a, x.toNat ≠ 45) : cutS (a ++ 45 :: b) = some (a, b) := by
  induction a with
  | nil => rfl
  | cons c r ih =>
    rw [List.cons_append]
    unfold cutS
    rw [if_neg (h c (by simp)), ih (fun x hx => h x (by simp [hx]))]
theorem span_there {p : Sp} (h : okSp p = true) : spanS (toldS p) = (p, 0, ()) := by
  have h' : 0 ≤ p.1 ∧ p.2.1 ≤ 40320 ∧ p.1 < p.2.1 := by simpa [okSp] using h
  have e : toldS p = Lib.decDigits p.1.toNat ++ 45 :: Lib.decDigits p.2.1.toNat := by
    unfold toldS
    rw [itoa_nat h'.1, itoa_nat (by omega)]
    simp
  have e1 : ((p.1.toNat : Nat) : Int) = p.1 := by omega
  have e2 : ((p.2.1.toNat : Nat) : Int) = p.2.1 := by omega
  unfold spanS
  rw [e, cut_there (no45 (dd_all _))]
  simp only [dd_dec, dd_val, e1, e2]
  rw [if_neg (by simp), if_neg (by omega), if_neg (by omega)]
theorem span_back {w : B} (h : (spanS w).2.1 = 0) : toldS (spanS w).1 = w ∧ okSp (spanS w).1 = true := by
  unfold spanS at h ⊢
  cases hc : cutS w with
  | none => rw [hc] at h; exact absurd h (by decide)
  | some x =>
    rw [hc] at h
    simp only [] at h ⊢
    by_cases h1 : decB x.1 = false ∨ decB x.2 = false
    · rw [if_pos h1] at h; exact absurd h (by decide)
    · rw [if_neg h1] at h ⊢
      by_cases h2 : (valN x.1 : Int) > 40320 ∨ (valN x.2 : Int) > 40320
      · rw [if_pos h2] at h; exact absurd h (by decide)
      · rw [if_neg h2] at h ⊢
        by_cases h3 : (valN x.1 : Int) ≥ (valN x.2 : Int)
        · rw [if_pos h3] at h; exact absurd h (by decide)
        · rw [if_neg h3]
          have d1 : decB x.1 = true := by
            cases hd : decB x.1 with
            | true => rfl
            | false => exact absurd (.inl hd) h1
          have d2 : decB x.2 = true := by
            cases hd : decB x.2 with
            | true => rfl
            | false => exact absurd (.inr hd) h1
          obtain ⟨g1, g2, g3⟩ := cut_some hc
          refine ⟨?_, ?_⟩
          · unfold toldS
            rw [itoa_nat (by simp), itoa_nat (by simp)]
            simp only [Int.toNat_natCast, dec_back d1, dec_back d2]
            rw [g1]
            simp
          · simp only [okSp, decide_eq_true_eq]
            refine ⟨by simp, by omega, by omega⟩

/-! words -/
def clean (w : B) : Prop := w ≠ [] ∧ ∀ x ∈ w, 33 ≤ x.toNat ∧ x.toNat ≤ 126
theorem sp_word {f : Nat} {rest : B} {out : List Wd} (w : B) : ∀ cur : B, (∀ x ∈ w, 33 ≤ x.toNat ∧ x.toNat ≤ 126) → sp f (w ++ rest) cur out = sp f rest (cur ++ w) out := by
  induction w with
  | nil => intro cur _; simp
  | cons c r ih =>
    intro cur h
    have hc := h c (by simp)
    rw [List.cons_append, sp.eq_def]
    simp only []
    rw [if_neg (by omega), if_neg (by omega), ih _ (fun x hx => h x (by simp [hx]))]
    simp
theorem sp_tails (r : List B) : ∀ (f : Nat) (cur : B) (out : List Wd), cur ≠ [] → (∀ w ∈ r, clean w) → ∃ L, sp f (tails r) cur out = (L, 0, 0, ()) ∧ tx L = tx out ++ cur :: r := by
  induction r with
  | nil =>
    intro f cur out hc _
    refine ⟨out ++ [((f : Int), cur, ())], ?_, by simp [tx]⟩
    show sp f [] cur out = _
    rw [sp.eq_def]
    simp only []
    rw [if_neg hc]
  | cons w r ih =>
    intro f cur out hc hr
    have hw := hr w (by simp)
    obtain ⟨L, h1, h2⟩ := ih (f + cur.length + 1) ([] ++ w) (out ++ [((f : Int), cur, ())]) (by simpa using hw.1) (fun x hx => hr x (by simp [hx]))
    refine ⟨L, ?_, by rw [h2]; simp [tx]⟩
    rw [tails_cons, List.cons_append, sp.eq_def]
    simp only []
    rw [if_pos (by rfl), if_neg hc, sp_word w [] hw.2]
    exact h1
theorem words_there {ws : List B} (hne : ws ≠ []) (h : ∀ w ∈ ws, clean w) : (wordsS (glue ws)).2.2.1 = 0 ∧ tx (wordsS (glue ws)).1 = ws := by
  match ws, hne with
  | w :: r, _ =>
    have hw := h w (by simp)
    obtain ⟨L, h1, h2⟩ := sp_tails r 0 ([] ++ w) [] (by simpa using hw.1) (fun x hx => h x (by simp [hx]))
    have hg : glue (w :: r) ≠ [] := by
      simp only [glue]
      intro e
      exact hw.1 (List.append_eq_nil_iff.1 e).1
    unfold wordsS
    rw [if_neg hg]
    show (sp 0 (w ++ tails r) [] []).2.2.1 = 0 ∧ tx (sp 0 (w ++ tails r) [] []).1 = _
    rw [sp_word w [] hw.2, h1]
    exact ⟨rfl, by simpa [tx] using h2⟩
theorem sp_back (rest : B) : ∀ (f : Nat) (cur : B) (out : List Wd), (sp f rest cur out).2.2.1 = 0 → ∃ w r, tx (sp f rest cur out).1 = tx out ++ (cur ++ w) :: r ∧ rest = w ++ tails r := by
  induction rest with
  | nil =>
    intro f cur out h
    rw [sp.eq_def] at h ⊢
    simp only [] at h ⊢
    by_cases hc : cur = []
    · rw [if_pos hc] at h; exact absurd h (by simp)
    · rw [if_neg hc]
      exact ⟨[], [], by simp [tx], rfl⟩
  | cons c r ih =>
    intro f cur out h
    rw [sp.eq_def] at h ⊢
    simp only [] at h ⊢
    by_cases h32 : c.toNat = 32
    · rw [if_pos h32] at h ⊢
      by_cases hc : cur = []
      · rw [if_pos hc] at h; exact absurd h (by simp)
      · rw [if_neg hc] at h ⊢
        obtain ⟨w, r', h1, h2⟩ := ih _ _ _ h
        refine ⟨[], w :: r', ?_, ?_⟩
        · rw [h1]; simp [tx]
        · rw [tails_cons, h2, show c = 32 from u8_ext h32]; simp
    · rw [if_neg h32] at h ⊢
      by_cases hb : c.toNat < 33 ∨ c.toNat > 126
      · rw [if_pos hb] at h; exact absurd h (by simp)
      · rw [if_neg hb] at h ⊢
        obtain ⟨w, r', h1, h2⟩ := ih _ _ _ h
        refine ⟨c :: w, r', ?_, ?_⟩
        · rw [h1]; simp
        · rw [h2]; simp
theorem words_back {s : B} (h : (wordsS s).2.2.1 = 0) : glue (tx (wordsS s).1) = s := by
  by_cases hs : s = []
  · subst hs
    rfl
  · unfold wordsS at h ⊢
    rw [if_neg hs] at h ⊢
    obtain ⟨w, r, h1, h2⟩ := sp_back s 0 [] [] h
    rw [h1]
    simp only [tx, List.map_nil, List.nil_append, glue]
    exact h2.symm
end Go.Rai

/- Plain laws: what is written is read, and what is read is written: commands. -/
set_option linter.unusedVariables false
set_option linter.unusedSimpArgs false
namespace Go.Rai
open Go
theorem allA_there (l : List Int) : ∀ (i : Nat) (out : List Int), l.all okN = true → allA (-1) i (l.map Lib.itoa) out = (out ++ l, 0, ()) := by
  induction l with
  | nil => intro i out _; simp [allA]
  | cons n r ih =>
    intro i out h
    rw [List.all_cons, Bool.and_eq_true] at h
    have hn : 0 ≤ n ∧ n ≤ 1000000000 := by simpa [okN] using h.1
    rw [List.map_cons, allA.eq_def]
    simp only []
    rw [if_neg (show ¬ (i : Int) = -1 by omega), num_there hn.1 hn.2, if_neg (by simp), ih _ _ h.2]
    simp
theorem allA_back (ws : List B) : ∀ (i : Nat) (out : List Int), (allA (-1) i ws out).2.1 = 0 → ∃ l, allA (-1) i ws out = (out ++ l, 0, ()) ∧ l.map Lib.itoa = ws ∧ l.all okN = true := by
  induction ws with
  | nil => intro i out _; exact ⟨[], by simp [allA], rfl, rfl⟩
  | cons w r ih =>
    intro i out h
    rw [allA.eq_def] at h ⊢
    simp only [] at h ⊢
    rw [if_neg (show ¬ (i : Int) = -1 by omega)] at h ⊢
    by_cases he : (numS w 1000000000).2.1 = 0
    · rw [if_neg (by simpa using he)] at h ⊢
      obtain ⟨l, h1, h2, h3⟩ := ih _ _ h
      obtain ⟨g1, g2, g3⟩ := num_back he
      refine ⟨(numS w 1000000000).1 :: l, by rw [h1]; simp, by rw [List.map_cons, g1, h2], ?_⟩
      rw [List.all_cons, h3, Bool.and_true]
      simp [okN, g2, g3]
    · rw [if_pos he] at h
      exact absurd h he
theorem spansO_there {q : Q4} (l : List Sp) : ∀ (out : List Sp), l.all okSp = true → spansO q (l.map toldS) out = ((q.1, q.2.1, q.2.2.1, q.2.2.2.1, out ++ l, ()), 0, ()) := by
  induction l with
  | nil => intro out _; simp [spansO]
  | cons p r ih =>
    intro out h
    rw [List.all_cons, Bool.and_eq_true] at h
    rw [List.map_cons, spansO.eq_def]
    simp only []
    rw [span_there h.1, if_neg (by simp), ih _ h.2]
    simp
theorem spansO_back {q : Q4} (ws : List B) : ∀ (out : List Sp), (spansO q ws out).2.1 = 0 → ∃ l, spansO q ws out = ((q.1, q.2.1, q.2.2.1, q.2.2.2.1, out ++ l, ()), 0, ()) ∧ l.map toldS = ws ∧ l.all okSp = true := by
  induction ws with
  | nil => intro out _; exact ⟨[], by simp [spansO], rfl, rfl⟩
  | cons w r ih =>
    intro out h
    rw [spansO.eq_def] at h ⊢
    simp only [] at h ⊢
    by_cases he : (spanS w).2.1 = 0
    · rw [if_neg (by simpa using he)] at h ⊢
      obtain ⟨l, h1, h2, h3⟩ := ih _ h
      obtain ⟨g1, g2⟩ := span_back he
      refine ⟨(spanS w).1 :: l, by rw [h1]; simp, by rw [List.map_cons, g1, h2], ?_⟩
      rw [List.all_cons, h3, g2]
      rfl
    · rw [if_pos he] at h
      exact absurd h he
theorem orderS_there {o : Ord} (h : okOrd o = true) : orderS (([111, 114, 100, 101, 114] :: (ordNums o).map Lib.itoa) ++ o.2.2.2.2.1.map toldS) = (o, 0, ()) := by
  unfold okOrd at h
  simp only [Bool.and_eq_true, decide_eq_true_eq, List.all_cons, List.all_nil, Bool.and_true] at h
  obtain ⟨⟨⟨h1, h2, h4⟩, h3⟩, hs⟩ := h
  have k1 : 0 ≤ o.1 ∧ o.1 ≤ 1000000000 := by simpa [okN] using h1
  have k2 : 0 ≤ o.2.1 ∧ o.2.1 ≤ 1000000000 := by simpa [okN] using h2
  have k4 : 0 ≤ o.2.2.2.1 ∧ o.2.2.2.1 ≤ 1000000000 := by simpa [okN] using h4
  simp only [ordNums, List.map_cons, List.map_nil, List.cons_append, List.nil_append, orderS, if_true]
  rw [num_there k1.1 k1.2, num_there k2.1 k2.2, num_there k4.1 k4.2, sgn_there h3.1 h3.2]
  rw [if_neg (by simp), if_neg (by simp), if_neg (by simp), if_neg (by simp), spansO_there _ _ hs]
  simp
theorem orderS_back {ws : List B} (h : (orderS ws).2.1 = 0) : okOrd (orderS ws).1 = true ∧ ([111, 114, 100, 101, 114] :: (ordNums (orderS ws).1).map Lib.itoa) ++ (orderS ws).1.2.2.2.2.1.map toldS = ws := by
  rcases short5 ws with h5 | ⟨w0, w1, w2, w3, w4, r, rfl⟩
  · rw [orderS_short h5] at h
    exact absurd h (by simp)
  · simp only [orderS] at h ⊢
    by_cases h0 : w0 = [111, 114, 100, 101, 114]
    · rw [if_pos h0] at h ⊢
      by_cases h1 : (numS w1 1000000000).2.1 = 0
      · by_cases h2 : (numS w2 1000000000).2.1 = 0
        · by_cases h3 : (sgnS w3).2.1 = 0
          · by_cases h4 : (numS w4 1000000000).2.1 = 0
            · rw [if_neg (by simpa using h1), if_neg (by simpa using h2), if_neg (by simpa using h3), if_neg (by simpa using h4)] at h ⊢
              obtain ⟨l, e1, e2, e3⟩ := spansO_back _ _ h
              rw [e1]
              obtain ⟨a1, b1, c1⟩ := num_back h1
              obtain ⟨a2, b2, c2⟩ := num_back h2
              obtain ⟨a3, b3, c3⟩ := sgn_back h3
              obtain ⟨a4, b4, c4⟩ := num_back h4
              refine ⟨?_, ?_⟩
              · simp [okOrd, okN, b1, c1, b2, c2, b3, c3, b4, c4]
                simpa using e3
              · simp [ordNums, a1, a2, a3, a4, e2, h0]
            · rw [if_neg (by simpa using h1), if_neg (by simpa using h2), if_neg (by simpa using h3), if_pos h4] at h
              exact absurd h h4
          · rw [if_neg (by simpa using h1), if_neg (by simpa using h2), if_pos h3] at h
            exact absurd h h3
        · rw [if_neg (by simpa using h1), if_pos h2] at h
          exact absurd h h2
      · rw [if_pos h1] at h
        exact absurd h h1
    · rw [if_neg h0] at h
      exact absurd h (by simp)
abbrev recW (x : Rec) : List B := [[letK x.1], toldS (x.2.1, x.2.2.1, ())]
theorem kind_there {k : Int} (h : 0 ≤ k ∧ k ≤ 3) : kindW [letK k] = some k := by
  rcases k_cases h with rfl | rfl | rfl | rfl <;> rfl
theorem kind_back {w : B} {k : Int} (h : kindW w = some k) : w = [letK k] ∧ 0 ≤ k ∧ k ≤ 3 := by
  unfold kindW at h
  split at h
  · rename_i c
    unfold kindC at h
    by_cases h1 : c = 82
    · rw [if_pos h1] at h; cases h; subst h1; exact ⟨rfl, by decide, by decide⟩
    · rw [if_neg h1] at h
      by_cases h2 : c = 65
      · rw [if_pos h2] at h; cases h; subst h2; exact ⟨rfl, by decide, by decide⟩
      · rw [if_neg h2] at h
        by_cases h3 : c = 87
        · rw [if_pos h3] at h; cases h; subst h3; exact ⟨rfl, by decide, by decide⟩
        · rw [if_neg h3] at h
          by_cases h4 : c = 68
          · rw [if_pos h4] at h; cases h; subst h4; exact ⟨rfl, by decide, by decide⟩
          · rw [if_neg h4] at h; cases h
  · cases h
theorem okRec_span {x : Rec} (h : okRec x = true) : okSp (x.2.1, x.2.2.1, ()) = true := by
  have := of_decide_eq_true h
  simp [okSp]
  omega
theorem recsR_there {id : Int} (l : List Rec) : ∀ (out : List Rec), l.all okRec = true → recsR (l.flatMap recW) id out = ((3, 0, 0, 0, 0, [], id, out ++ l, 0, 0, 0, 0, [], ()), 0, ()) := by
  induction l with
  | nil => intro out _; simp [recsR]
  | cons x r ih =>
    intro out h
    rw [List.all_cons, Bool.and_eq_true] at h
    obtain ⟨k1, _, _⟩ := okRec_facts h.1
    rw [List.flatMap_cons]
    show recsR ([letK x.1] :: toldS (x.2.1, x.2.2.1, ()) :: r.flatMap recW) id out = _
    rw [recsR]
    simp only [kind_there k1, span_there (okRec_span h.1)]
    rw [if_neg (by simp), ih _ h.2]
    simp
theorem recsR_back {id : Int} : ∀ (ws : List B) (out : List Rec), (recsR ws id out).2.1 = 0 → ∃ l, recsR ws id out = ((3, 0, 0, 0, 0, [], id, out ++ l, 0, 0, 0, 0, [], ()), 0, ()) ∧ l.flatMap recW = ws ∧ l.all okRec = true
  | [], out, h => ⟨[], by simp [recsR], rfl, rfl⟩
  | [w], out, h => by
    rw [recsR] at h
    exact absurd h (by simp)
  | w :: v :: r, out, h => by
    rw [recsR] at h ⊢
    cases hk : kindW w with
    | none =>
      rw [hk] at h
      exact absurd h (by simp)
    | some k =>
      rw [hk] at h
      simp only [] at h ⊢
      by_cases he : (spanS v).2.1 = 0
      · rw [if_neg (by simpa using he)] at h ⊢
        obtain ⟨l, h1, h2, h3⟩ := recsR_back r _ h
        obtain ⟨g1, g2⟩ := span_back he
        obtain ⟨k1, k2⟩ := kind_back hk
        refine ⟨(k, (spanS v).1.1, (spanS v).1.2.1, ()) :: l, by rw [h1]; simp, ?_, ?_⟩
        · rw [List.flatMap_cons, h2]
          have : toldS ((spanS v).1.1, (spanS v).1.2.1, ()) = v := g1
          simp only [recW, this, ← k1]
          rfl
        · rw [List.all_cons, h3, Bool.and_true]
          have : 0 ≤ (spanS v).1.1 ∧ (spanS v).1.2.1 ≤ 40320 ∧ (spanS v).1.1 < (spanS v).1.2.1 := by simpa [okSp] using g2
          simp only [okRec, decide_eq_true_eq]
          omega
      · rw [if_pos he] at h
        exact absurd h he
theorem flat_even (l : List Rec) : (l.flatMap recW).length % 2 = 0 := by
  induction l with
  | nil => rfl
  | cons x r ih =>
    rw [List.flatMap_cons, List.length_append]
    show (2 + (r.flatMap recW).length) % 2 = 0
    omega

/-! what is to be left of a command -/
def needS (c : Cmd) : Cmd :=
  if c.1 = 1 then ofOrd (cOrd c) else if c.1 = 2 then (2, 0, 0, 0, 0, [], cId c, [], 0, 0, 0, 0, [], ()) else if c.1 = 3 then (3, 0, 0, 0, 0, [], cId c, cRecs c, 0, 0, 0, 0, [], ())
  else if c.1 = 4 then (4, 0, 0, 0, 0, [], 0, [], cTick c, 0, 0, 0, [], ()) else if c.1 = 5 then (5, 0, 0, 0, 0, [], 0, [], 0, c.2.2.2.2.2.2.2.2.2.1, c.2.2.2.2.2.2.2.2.2.2.1, c.2.2.2.2.2.2.2.2.2.2.2.1, cRun c, ())
  else (c.1, 0, 0, 0, 0, [], 0, [], 0, 0, 0, 0, [], ())
theorem Needs_eq (c : Cmd) : haulierref42_Needs (c, ()) = some (needS c, ()) := by
  unfold haulierref42_Needs needS
  dsimp only
  by_cases h1 : c.1 = 1
  · rw [h1]; rfl
  · rw [nz_beq h1, if_neg h1]
    by_cases h2 : c.1 = 2
    · rw [h2]; rfl
    · rw [nz_beq h2, if_neg h2]
      by_cases h3 : c.1 = 3
      · rw [h3]; rfl
      · rw [nz_beq h3, if_neg h3]
        by_cases h4 : c.1 = 4
        · rw [h4]; rfl
        · rw [nz_beq h4, if_neg h4]
          by_cases h5 : c.1 = 5
          · rw [h5]; rfl
          · rw [nz_beq h5, if_neg h5]
            rfl

theorem cmd_there {c : Cmd} (hk : 1 ≤ c.1 ∧ c.1 ≤ 6) (h : cmdOK c = true) : cmdS (cmdW c) = (needS c, 0, ()) := by
  unfold cmdOK at h
  unfold cmdW needS
  by_cases h1 : c.1 = 1
  · rw [if_pos h1] at h ⊢
    rw [if_pos h1]
    have := orderS_there h
    rw [List.cons_append] at this ⊢
    unfold cmdS
    simp only [if_true]
    rw [this]
    simp
  · rw [if_neg h1] at h ⊢
    rw [if_neg h1]
    by_cases h2 : c.1 = 2
    · rw [if_pos h2] at h ⊢
      rw [if_pos h2]
      have := allA_there [cId c] 0 [] (by simpa using h)
      simp only [List.map_cons, List.map_nil] at this
      simp only [cmdS, countS, List.drop_succ_cons, List.drop_zero, this]
      rfl
    · rw [if_neg h2] at h ⊢
      rw [if_neg h2]
      by_cases h3 : c.1 = 3
      · rw [if_pos h3] at h ⊢
        rw [if_pos h3]
        rw [Bool.and_eq_true] at h
        have hn : 0 ≤ cId c ∧ cId c ≤ 1000000000 := by simpa [okN] using h.1
        have hr := recsR_there (id := cId c) (cRecs c) [] h.2
        have he := flat_even (cRecs c)
        simp only [cmdS, List.cons_append, List.nil_append, recordS]
        rw [if_neg (by decide), if_neg (by decide), if_pos trivial, num_there hn.1 hn.2, if_neg (by simpa using he), if_neg (by simp)]
        exact hr
      · rw [if_neg h3] at h ⊢
        rw [if_neg h3]
        by_cases h4 : c.1 = 4
        · rw [if_pos h4] at h ⊢
          rw [if_pos h4]
          have := allA_there [cTick c] 0 [] (by simpa using h)
          simp only [List.map_cons, List.map_nil] at this
          simp only [cmdS, countS, List.drop_succ_cons, List.drop_zero, this]
          rfl
        · rw [if_neg h4] at h ⊢
          rw [if_neg h4]
          by_cases h5 : c.1 = 5
          · rw [if_pos h5] at h ⊢
            rw [if_pos h5]
            have := allA_there (cPlan c ++ cRun c) 0 [] (by rw [List.all_append]; exact h)
            have hlen : ¬ ((([114, 101, 112, 108, 97, 110] : B) :: (cPlan c ++ cRun c).map Lib.itoa).length < 3 + 1 ∨ ((([114, 101, 112, 108, 97, 110] : B) :: (cPlan c ++ cRun c).map Lib.itoa).length > 3 + 1 ∧ true = false)) := by simp
            simp only [cmdS, countS, List.drop_succ_cons, List.drop_zero, this]
            rw [if_neg (by decide), if_neg (by decide), if_neg (by decide), if_neg (by decide), if_pos trivial, if_neg hlen]
            rfl
          · rw [if_neg h5, if_neg h5]
            have h6 : c.1 = 6 := by omega
            rw [h6]
            rfl
end Go.Rai

/- Plain laws: the law ScriptBack. -/
set_option linter.unusedVariables false
set_option linter.unusedSimpArgs false
namespace Go.Rai
open Go
theorem count_back {ws : List B} {n : Nat} {more : Bool} {mk : List Int → Cmd} (h : (countS ws n more mk).2.1 = 0) :
    ∃ w l, ws = w :: l.map Lib.itoa ∧ l.all okN = true ∧ countS ws n more mk = (mk l, 0, ()) ∧ n ≤ l.length ∧ (more = false → l.length = n) := by
  unfold countS at h ⊢
  by_cases h1 : ws.length < n + 1 ∨ (ws.length > n + 1 ∧ more = false)
  · rw [if_pos h1] at h; exact absurd h (by simp)
  · rw [if_neg h1] at h ⊢
    by_cases h2 : (allA (-1) 0 (ws.drop 1) []).2.1 = 0
    · rw [if_neg (by simpa using h2)] at h ⊢
      obtain ⟨l, e1, e2, e3⟩ := allA_back _ _ _ h2
      match ws with
      | [] => simp at h1
      | w :: r =>
        simp only [List.drop_succ_cons, List.drop_zero] at e1 e2 ⊢
        have hl : l.length = r.length := by rw [← e2]; simp
        simp only [List.length_cons] at h1
        refine ⟨w, l, by rw [e2], e3, by rw [e1]; simp, by omega, fun e => ?_⟩
        have : ¬ (r.length + 1 > n + 1) := fun g => h1 (.inr ⟨g, e⟩)
        omega
    · rw [if_pos h2] at h; exact absurd h h2
theorem record_back {ws : List B} (h : (recordS ws).2.1 = 0) : ∃ w id l, ws = w :: Lib.itoa id :: l.flatMap recW ∧ okN id = true ∧ l.all okRec = true ∧ recordS ws = ((3, 0, 0, 0, 0, [], id, l, 0, 0, 0, 0, [], ()), 0, ()) := by
  match ws with
  | [] => exact absurd h (by decide)
  | [_] => exact absurd h (by simp [recordS])
  | w0 :: w1 :: r =>
    simp only [recordS] at h ⊢
    by_cases h1 : r.length % 2 ≠ 0
    · rw [if_pos h1] at h; exact absurd h (by simp)
    · rw [if_neg h1] at h ⊢
      by_cases h2 : (numS w1 1000000000).2.1 = 0
      · rw [if_neg (by simpa using h2)] at h ⊢
        obtain ⟨l, e1, e2, e3⟩ := recsR_back _ _ h
        obtain ⟨g1, g2, g3⟩ := num_back h2
        refine ⟨w0, (numS w1 1000000000).1, l, ?_, ?_, e3, ?_⟩
        · rw [e2, g1]
        · simp [okN, g2, g3]
        · rw [e1]; simp
      · rw [if_pos h2] at h; exact absurd h h2
theorem cmd_back {ws : List B} (h : (cmdS ws).2.1 = 0) : (1 ≤ (cmdS ws).1.1 ∧ (cmdS ws).1.1 ≤ 6) ∧ cmdOK (cmdS ws).1 = true ∧ cmdW (cmdS ws).1 = ws := by
  match ws with
  | [] => exact absurd h (by decide)
  | w :: r =>
    simp only [cmdS] at h ⊢
    by_cases h1 : w = [111, 114, 100, 101, 114]
    · rw [if_pos h1] at h ⊢
      by_cases he : (orderS (w :: r)).2.1 = 0
      · rw [if_neg (by simpa using he)]
        obtain ⟨e1, e2⟩ := orderS_back he
        exact ⟨⟨by simp [ofOrd], by simp [ofOrd]⟩, e1, e2⟩
      · rw [if_pos he] at h
        exact absurd h he
    · rw [if_neg h1] at h ⊢
      by_cases h2 : w = [99, 97, 110, 99, 101, 108]
      · rw [if_pos h2] at h ⊢
        obtain ⟨w', l, e1, e2, e3, e4, e5⟩ := count_back h
        rw [e3]
        have hl := e5 rfl
        match l, hl with
        | [n], _ =>
          refine ⟨⟨by simp [mkCancel, mkTick, mkReplan, mkShow], by simp [mkCancel, mkTick, mkReplan, mkShow]⟩, by simpa [cmdOK, mkCancel] using e2, ?_⟩
          rw [e1]
          cases e1
          rw [h2]
          rfl
      · rw [if_neg h2] at h ⊢
        by_cases h3 : w = [114, 101, 99, 111, 114, 100]
        · rw [if_pos h3] at h ⊢
          obtain ⟨w', id, l, e1, e2, e3, e4⟩ := record_back h
          rw [e4]
          refine ⟨⟨by simp [mkCancel, mkTick, mkReplan, mkShow], by simp [mkCancel, mkTick, mkReplan, mkShow]⟩, by simp only [cmdOK]; rw [if_neg (by decide), if_neg (by decide), if_pos trivial, e2, e3]; rfl, ?_⟩
          rw [e1]
          cases e1
          rw [h3]
          rfl
        · rw [if_neg h3] at h ⊢
          by_cases h4 : w = [116, 105, 99, 107]
          · rw [if_pos h4] at h ⊢
            obtain ⟨w', l, e1, e2, e3, e4, e5⟩ := count_back h
            rw [e3]
            have hl := e5 rfl
            match l, hl with
            | [n], _ =>
              refine ⟨⟨by simp [mkCancel, mkTick, mkReplan, mkShow], by simp [mkCancel, mkTick, mkReplan, mkShow]⟩, by simpa [cmdOK, mkTick] using e2, ?_⟩
              rw [e1]
              cases e1
              rw [h4]
              rfl
          · rw [if_neg h4] at h ⊢
            by_cases h5 : w = [114, 101, 112, 108, 97, 110]
            · rw [if_pos h5] at h ⊢
              obtain ⟨w', l, e1, e2, e3, e4, e5⟩ := count_back h
              rw [e3]
              match l, e4 with
              | a :: b :: c :: d, _ =>
                refine ⟨⟨by simp [mkCancel, mkTick, mkReplan, mkShow], by simp [mkCancel, mkTick, mkReplan, mkShow]⟩, ?_, ?_⟩
                · show ([a, b, c].all okN && d.all okN) = true
                  rw [← List.all_append]
                  exact e2
                · rw [e1]
                  cases e1
                  rw [h5]
                  rfl
            · rw [if_neg h5] at h ⊢
              by_cases h6 : w = [115, 104, 111, 119]
              · rw [if_pos h6] at h ⊢
                obtain ⟨w', l, e1, e2, e3, e4, e5⟩ := count_back h
                rw [e3]
                have hl := e5 rfl
                match l, hl with
                | [], _ =>
                  refine ⟨⟨by simp [mkCancel, mkTick, mkReplan, mkShow], by simp [mkCancel, mkTick, mkReplan, mkShow]⟩, rfl, ?_⟩
                  rw [e1]
                  cases e1
                  rw [h6]
                  rfl
              · rw [if_neg h6] at h
                exact absurd h (by simp)
theorem line_back {s : B} (h : (readS s).2.1 = 0) : lineS (readS s).1 = (s, 0, ()) := by
  unfold readS at h ⊢
  by_cases h0 : (wordsS s).2.2.1 ≠ 0
  · rw [if_pos h0] at h
    exact absurd h (by simp)
  · rw [if_neg h0] at h ⊢
    obtain ⟨h1, h2, h3⟩ := cmd_back h
    unfold lineS
    rw [if_neg (by omega), h2, if_neg (by decide), h3, words_back (Decidable.not_not.1 h0)]
theorem count_bad {ws : List B} {n : Nat} {more : Bool} {mk : List Int → Cmd} (h : (countS ws n more mk).2.1 ≠ 0) : (countS ws n more mk).1 = Zc := by
  unfold countS at h ⊢
  split
  · rfl
  · split
    · rfl
    · rename_i h1 h2
      rw [if_neg h1, if_neg h2] at h
      exact absurd rfl h
theorem recsR_bad {id : Int} : ∀ (ws : List B) (out : List Rec), (recsR ws id out).2.1 ≠ 0 → (recsR ws id out).1 = Zc
  | [], out, h => absurd rfl h
  | [w], out, h => rfl
  | w :: v :: r, out, h => by
    rw [recsR] at h ⊢
    cases hk : kindW w with
    | none => rfl
    | some k =>
      rw [hk] at h
      simp only [] at h ⊢
      by_cases he : (spanS v).2.1 = 0
      · rw [if_neg (by simpa using he)] at h ⊢
        exact recsR_bad r _ h
      · rw [if_pos he]
theorem read_bad {s : B} (h : (readS s).2.1 ≠ 0) : (readS s).1 = Zc := by
  unfold readS at h ⊢
  by_cases h0 : (wordsS s).2.2.1 ≠ 0
  · rw [if_pos h0]
  · rw [if_neg h0] at h ⊢
    generalize tx (wordsS s).1 = ws at h ⊢
    match ws, h with
    | [], h => rfl
    | w :: r, h =>
      simp only [cmdS] at h ⊢
      by_cases h1 : w = [111, 114, 100, 101, 114]
      · rw [if_pos h1] at h ⊢
        by_cases he : (orderS (w :: r)).2.1 = 0
        · rw [if_neg (by simpa using he)] at h
          exact absurd rfl h
        · rw [if_pos he]
      · rw [if_neg h1] at h ⊢
        by_cases h2 : w = [99, 97, 110, 99, 101, 108]
        · rw [if_pos h2] at h ⊢; exact count_bad h
        · rw [if_neg h2] at h ⊢
          by_cases h3 : w = [114, 101, 99, 111, 114, 100]
          · rw [if_pos h3] at h ⊢
            match r, h with
            | [], h => rfl
            | w1 :: r, h =>
              simp only [recordS] at h ⊢
              by_cases g1 : r.length % 2 ≠ 0
              · rw [if_pos g1]
              · rw [if_neg g1] at h ⊢
                by_cases g2 : (numS w1 1000000000).2.1 = 0
                · rw [if_neg (by simpa using g2)] at h ⊢
                  exact recsR_bad _ _ h
                · rw [if_pos g2]
          · rw [if_neg h3] at h ⊢
            by_cases h4 : w = [116, 105, 99, 107]
            · rw [if_pos h4] at h ⊢; exact count_bad h
            · rw [if_neg h4] at h ⊢
              by_cases h5 : w = [114, 101, 112, 108, 97, 110]
              · rw [if_pos h5] at h ⊢; exact count_bad h
              · rw [if_neg h5] at h ⊢
                by_cases h6 : w = [115, 104, 111, 119]
                · rw [if_pos h6] at h ⊢; exact count_bad h
                · rw [if_neg h6]

/-! words that are written are clean -/
theorem dd_clean (u : Nat) : clean (Lib.decDigits u) := by
  refine ⟨dd_ne u, fun x hx => ?_⟩
  have : isDig x = true := List.all_eq_true.1 (dd_all u) x hx
  simp [isDig] at this
  omega
theorem itoa_clean (n : Int) : clean (Lib.itoa n) := by
  unfold Lib.itoa
  split
  · refine ⟨by simp, fun x hx => ?_⟩
    rcases List.mem_cons.1 hx with rfl | hx
    · exact ⟨by decide, by decide⟩
    · exact (dd_clean _).2 x hx
  · exact dd_clean _
theorem told_clean (p : Sp) : clean (toldS p) := by
  refine ⟨by simp [toldS], fun x hx => ?_⟩
  simp only [toldS, List.append_assoc, List.mem_append, List.mem_singleton] at hx
  rcases hx with hx | rfl | hx
  · exact (itoa_clean _).2 x hx
  · exact ⟨by decide, by decide⟩
  · exact (itoa_clean _).2 x hx
theorem let_clean (k : Int) : clean [letK k] := by
  refine ⟨by simp, fun x hx => ?_⟩
  simp only [List.mem_singleton] at hx
  subst hx
  unfold letK
  split
  · exact ⟨by decide, by decide⟩
  · split
    · exact ⟨by decide, by decide⟩
    · split <;> exact ⟨by decide, by decide⟩
theorem lit_clean {w : B} (h : (w != [] && w.all fun x => decide (33 ≤ x.toNat ∧ x.toNat ≤ 126)) = true) : clean w := by
  simp only [Bool.and_eq_true, bne_iff_ne] at h
  exact ⟨h.1, fun x hx => of_decide_eq_true (List.all_eq_true.1 h.2 x hx)⟩
theorem cmdW_clean (c : Cmd) : cmdW c ≠ [] ∧ ∀ w ∈ cmdW c, clean w := by
  unfold cmdW
  split
  · refine ⟨by simp, fun w hw => ?_⟩
    simp only [List.cons_append, List.mem_cons, List.mem_append, List.mem_map] at hw
    rcases hw with rfl | ⟨n, _, rfl⟩ | ⟨p, _, rfl⟩
    · exact lit_clean (by decide)
    · exact itoa_clean _
    · exact told_clean _
  · split
    · refine ⟨by simp, fun w hw => ?_⟩
      simp only [List.mem_cons, List.not_mem_nil, or_false] at hw
      rcases hw with rfl | rfl
      · exact lit_clean (by decide)
      · exact itoa_clean _
    · split
      · refine ⟨by simp, fun w hw => ?_⟩
        simp only [List.cons_append, List.nil_append, List.mem_cons, List.mem_flatMap, List.not_mem_nil, or_false] at hw
        rcases hw with rfl | rfl | ⟨x, _, rfl | rfl⟩
        · exact lit_clean (by decide)
        · exact itoa_clean _
        · exact let_clean _
        · exact told_clean _
      · split
        · refine ⟨by simp, fun w hw => ?_⟩
          simp only [List.mem_cons, List.not_mem_nil, or_false] at hw
          rcases hw with rfl | rfl
          · exact lit_clean (by decide)
          · exact itoa_clean _
        · split
          · refine ⟨by simp, fun w hw => ?_⟩
            simp only [List.mem_cons, List.mem_map] at hw
            rcases hw with rfl | ⟨n, _, rfl⟩
            · exact lit_clean (by decide)
            · exact itoa_clean _
          · refine ⟨by simp, fun w hw => ?_⟩
            simp only [List.mem_singleton] at hw
            subst hw
            exact lit_clean (by decide)
theorem read_line {c : Cmd} (h : (lineS c).2.1 = 0) : readS (lineS c).1 = (needS c, 0, ()) := by
  unfold lineS at h ⊢
  by_cases h1 : c.1 < 1 ∨ c.1 > 6
  · rw [if_pos h1] at h; exact absurd h (by simp)
  · rw [if_neg h1] at h ⊢
    by_cases h2 : cmdOK c = false
    · rw [if_pos h2] at h; exact absurd h (by simp)
    · rw [if_neg h2]
      obtain ⟨g1, g2⟩ := cmdW_clean c
      obtain ⟨k1, k2⟩ := words_there g1 g2
      unfold readS
      simp only []
      rw [if_neg (by simpa using k1), k2]
      exact cmd_there (by omega) (by simpa using h2)
theorem line_bad {c : Cmd} (h : (lineS c).2.1 ≠ 0) : (lineS c).1 = [] := by
  unfold lineS at h ⊢
  split
  · rfl
  · split
    · rfl
    · rename_i h1 h2
      rw [if_neg h1, if_neg h2] at h
      exact absurd rfl h
theorem needS_ord {c : Cmd} (h : CmdR c) : OrdR (cOrd (needS c)) ∧ (cRecs (needS c)).length ≤ LEN ∧ (cRun (needS c)).length ≤ LEN := by
  obtain ⟨ho, hi, hrl, ht, hpl, hul, hu⟩ := h
  have hz : OrdR (0, 0, 0, 0, [], ()) := ⟨o0, Nat.zero_le _, s0⟩
  have l1 : (cRecs c).length ≤ LEN := Nat.le_trans hrl (by decide)
  have l2 : (cRun c).length ≤ LEN := Nat.le_trans hul (by decide)
  unfold needS
  split
  · exact ⟨ho, Nat.zero_le _, Nat.zero_le _⟩
  · split
    · exact ⟨hz, Nat.zero_le _, Nat.zero_le _⟩
    · split
      · exact ⟨hz, l1, Nat.zero_le _⟩
      · split
        · exact ⟨hz, Nat.zero_le _, Nat.zero_le _⟩
        · split
          · exact ⟨hz, Nat.zero_le _, l2⟩
          · exact ⟨hz, Nat.zero_le _, Nat.zero_le _⟩
theorem line_len {c : Cmd} (h : CmdR c) : (lineS c).1.length < LEN := by
  obtain ⟨ho, hi, hrl, ht, hpl, hul, hu⟩ := h
  unfold lineS
  split
  · show 0 < LEN; decide
  · split
    · show 0 < LEN; decide
    · rename_i hk hok
      have hW : (∀ w ∈ cmdW c, w.length ≤ 1000) ∧ (cmdW c).length ≤ 10000 := by
        have hok' : cmdOK c = true := by simpa using hok
        unfold cmdOK at hok'
        unfold cmdW
        by_cases h1 : c.1 = 1
        · rw [if_pos h1]
          refine ⟨fun w hw => ?_, ?_⟩
          · simp only [List.cons_append, List.mem_cons, List.mem_append, List.mem_map] at hw
            rcases hw with rfl | ⟨n, hn, rfl⟩ | ⟨p, hp, rfl⟩
            · decide
            · have := itoa_len (ho.1 n hn); omega
            · have := told_len (ho.2.2 p hp); omega
          · have := ho.2.1
            simp [ordNums]
            have e : (cOrd c).2.2.2.2.1.length = c.2.2.2.2.2.1.length := rfl
            omega
        · rw [if_neg h1] at hok' ⊢
          by_cases h2 : c.1 = 2
          · rw [if_pos h2]
            refine ⟨fun w hw => ?_, by simp⟩
            simp only [List.mem_cons, List.not_mem_nil, or_false] at hw
            rcases hw with rfl | rfl
            · decide
            · have := itoa_len hi; omega
          · rw [if_neg h2] at hok' ⊢
            by_cases h3 : c.1 = 3
            · rw [if_pos h3] at hok' ⊢
              rw [Bool.and_eq_true] at hok'
              refine ⟨fun w hw => ?_, ?_⟩
              · simp only [List.cons_append, List.nil_append, List.mem_cons, List.mem_flatMap, List.not_mem_nil, or_false] at hw
                rcases hw with rfl | rfl | ⟨x, hx, rfl | rfl⟩
                · decide
                · have := itoa_len hi; omega
                · simp
                · obtain ⟨_, k2, k3⟩ := okRec_facts (List.all_eq_true.1 hok'.2 x hx)
                  have := told_len (p := (x.2.1, x.2.2.1, ())) ⟨k2, k3⟩
                  omega
              · have : ∀ l : List Rec, (l.flatMap recW).length = 2 * l.length := by
                  intro l
                  induction l with
                  | nil => rfl
                  | cons x r ih =>
                    rw [List.flatMap_cons, List.length_append, ih]
                    show 2 + 2 * r.length = 2 * (r.length + 1)
                    omega
                have e := this (cRecs c)
                rw [List.length_append]
                show 2 + ((cRecs c).flatMap recW).length ≤ 10000
                omega
            · rw [if_neg h3]
              by_cases h4 : c.1 = 4
              · rw [if_pos h4]
                refine ⟨fun w hw => ?_, by simp⟩
                simp only [List.mem_cons, List.not_mem_nil, or_false] at hw
                rcases hw with rfl | rfl
                · decide
                · have := itoa_len ht; omega
              · rw [if_neg h4]
                by_cases h5 : c.1 = 5
                · rw [if_pos h5]
                  refine ⟨fun w hw => ?_, ?_⟩
                  · simp only [List.mem_cons, List.mem_map, List.mem_append] at hw
                    rcases hw with rfl | ⟨n, hn, rfl⟩
                    · decide
                    · have : I64 n := by
                        rcases hn with hn | hn
                        · exact hpl n (by simpa [cPlan] using hn)
                        · exact hu n hn
                      have := itoa_len this
                      omega
                  · simp
                    have e : (cRun c).length = c.2.2.2.2.2.2.2.2.2.2.2.2.1.length := rfl
                    omega
                · rw [if_neg h5]
                  refine ⟨fun w hw => ?_, by simp⟩
                  simp only [List.mem_singleton] at hw
                  subst hw
                  decide
      have := glue_len hW.1
      have h2 := hW.2
      unfold LEN
      simp only []
      omega
theorem back_law {c : Cmd} {s : B} (hc : fewB c = true → CmdR c) : haulierlaw42_ScriptBack (c, s, ()) = some (true, ()) := by
  unfold haulierlaw42_ScriptBack
  refine bnd (few_eq c) ?_
  cases hf : fewB c with
  | false => exact bnd (a := true) rfl (bnd alive_eq rfl)
  | true =>
    by_cases hs : s.length ≤ 600
    · have e : decide ((s.length : Int) > 600) = false := by simp; omega
      have hR := hc hf
      have hsl : s.length < LEN := by unfold LEN; omega
      refine bnd (a := false) (by simp [e]) ?_
      simp only [cond_false]
      refine bnd (Own_eq c) ?_
      refine bnd (script_Line_eq hR) ?_
      refine jn (a := ((), ())) ?_ ?_
      · by_cases hz : (lineS c).2.1 = 0
        · simp only [hz, beq_self_eq_true, cond_true]
          have hrl := script_Read_eq (line_len hR)
          rw [read_line hz] at hrl
          obtain ⟨n1, n2, n3⟩ := needS_ord hR
          have hsame := ref_Same_eq n1 n2 n3
          refine bnd hrl ?_
          refine bnd (a := false) (bnd (Needs_eq c) (bnd hsame rfl)) ?_
          rfl
        · have hb := line_bad hz
          simp only [nz_beq hz, hb, cond_false]
          rfl
      · refine bnd (script_Read_eq hsl) ?_
        by_cases hz : (readS s).2.1 = 0
        · have hfair := readS_fair (s := s) (N := 900) (by omega)
          have hl := script_Line_eq hfair.r
          rw [line_back hz] at hl
          simp only [hz, bne_self_eq_false, cond_false]
          refine bnd hl ?_
          simp only [beq_self_eq_true, cond_true]
          refine bnd (a := true) rfl ?_
          exact bnd (a := true) (bnd alive_eq rfl) rfl
        · have hb := read_bad hz
          simp only [nz_bne hz, cond_true, hb]
          have hsame := ref_Same_eq (c := Zc) ⟨o0, Nat.zero_le _, s0⟩ (Nat.zero_le _) (Nat.zero_le _)
          refine bnd (Told_eq Zc) ?_
          refine bnd hsame ?_
          exact bnd (a := true) (bnd alive_eq rfl) rfl
    · have e : decide ((s.length : Int) > 600) = true := by simp; omega
      exact bnd (a := true) (by simp [e]) (bnd alive_eq rfl)
theorem pure_ScriptBack : ∀ d, GoodAll sig_haulierlaw42_ScriptBack.ins d → haulierlaw42_ScriptBack d = some (true, ()) := by
  intro d h
  exact back_law (c := d.1) (s := d.2.1) (fun hf => cmd_good h.1 hf)
end Go.Rai
