/- A part of the proof of ScriptLines: general lemmas, with no condition of their own. -/
import Derived.Test.YtdmbeajlccebgaaGreatDoorRaiI
import Derived.Test.YtdmbeajlccebgaaGreatDoorFuns
/- Plain laws: lists, numbers, rounds. -/
set_option linter.unusedVariables false
namespace Go.Rai
open Go
abbrev B := List UInt8

theorem chk_true {R : Type} {b : Bool} {x : Option R} (h : b = true) : chk b x = x := by subst h; rfl
theorem geti_nat {α : Type} {xs : List α} {i : Nat} (h : i < xs.length) : geti xs (i : Int) = some xs[i] := by
  unfold geti
  simp [h]
theorem geti_mid {α : Type} (pre : List α) (c : α) (r : List α) : geti (pre ++ c :: r) (pre.length : Int) = some c := by
  rw [geti_nat (by simp)]
  simp
theorem geti_mid1 {α : Type} (pre : List α) (c e : α) (r : List α) : geti (pre ++ c :: e :: r) ((pre.length : Int) + 1) = some e := by
  have : geti (pre ++ c :: e :: r) ((pre.length + 1 : Nat) : Int) = some e := by
    rw [geti_nat (by simp)]
    simp
  simpa using this
theorem geti_zero {α : Type} (c : α) (r : List α) : geti (c :: r) 0 = some c := rfl
theorem w64_id {n : Int} (h0 : -9223372036854775808 ≤ n) (h1 : n ≤ 9223372036854775807) : w64 n = n := by
  unfold w64
  rw [IntKind.wrap_i64]
  omega
theorem w64_nat {n : Nat} (h1 : n ≤ 9223372036854775807) : w64 (n : Int) = n := w64_id (by omega) (by omega)
theorem w64_succ {n : Nat} (h1 : n < 9223372036854775807) : w64 ((n : Int) + 1) = ((n + 1 : Nat) : Int) := by
  rw [w64_id] <;> omega
theorem LIM_val : LIM = 2147483648 := rfl

/-- one bind -/
theorem bnd {α β : Type} {x : Option α} {a : α} {f : α → Option β} {r : Option β} (h : x = some a) (h2 : f a = r) : x.bind f = r := by rw [h]; exact h2
/-- one joint -/
theorem jn {σ ρ : Type} {x : Option (σ ⊕ ρ)} {a : σ} {f : σ → Option ρ} {r : Option ρ} (h : x = some (.inl a)) (h2 : f a = r) : joinS x f = r := by rw [h]; exact h2
theorem jn_out {σ ρ : Type} {x : Option (σ ⊕ ρ)} {a : ρ} {f : σ → Option ρ} (h : x = some (.inr a)) : joinS x f = some a := by rw [h]; rfl

theorem nz_bne {x y : Int} (h : ¬ x = y) : (x != y) = true := by simpa using h
theorem nz_beq {x y : Int} (h : ¬ x = y) : (x == y) = false := by simpa using h

/-- one round -/
theorem iterW_next {σ ρ : Type} {f : σ → Option (σ ⊕ ρ)} {s s' : σ} (h : f s = some (.inl s')) : iterW f s = iterW f s' := by rw [iterW_eq, h]
theorem iterW_done {σ ρ : Type} {f : σ → Option (σ ⊕ ρ)} {s : σ} {r : ρ} (h : f s = some (.inr r)) : iterW f s = some r := by rw [iterW_eq, h]
end Go.Rai

/- Plain laws of words: numbers. -/
set_option linter.unusedVariables false
set_option linter.unusedSimpArgs false
namespace Go.Rai
open Go
/-- a digit -/
def isDig (c : UInt8) : Bool := decide (48 ≤ c.toNat ∧ c.toNat ≤ 57)
/-- a number's text? -/
def decB (s : B) : Bool := s.all isDig && (s == [48] || (s != [] && s.head? != some 48))
theorem len_mid {α : Type} (pre : List α) (c : α) (r : List α) : decide ((pre.length : Int) < ((pre ++ c :: r).length : Int)) = true := by simp; omega
theorem u8_ext {a b : UInt8} (h : a.toNat = b.toNat) : a = b := UInt8.toNat_inj.1 h
theorem dig_not {c : UInt8} (h : isDig c = false) : (c.toNat : Int) < 48 ∨ (c.toNat : Int) > 57 := by
  simp [isDig] at h
  omega
theorem dig_yes {c : UInt8} (h : isDig c = true) : ¬ (c.toNat : Int) < 48 ∧ ¬ (c.toNat : Int) > 57 := by
  simp [isDig] at h
  omega

theorem decimal_loop {s : B} (hs : s.length ≤ LIM) : ∀ (rest pre : B), s = pre ++ rest → iterW (word_decimal_L13 (s, ())) (((pre.length : Int), ()), ()) = some (if rest.all isDig then .inl ((), ()) else .inr (false, ()))
  | [], pre, h => by
    subst h
    apply iterW_done
    simp [word_decimal_L13]
  | c :: r, pre, h => by
    have hg : geti s (pre.length : Int) = some c := by rw [h]; exact geti_mid _ _ _
    have hl : decide ((pre.length : Int) < (s.length : Int)) = true := by rw [h]; exact len_mid _ _ _
    have hpl : pre.length < s.length := by rw [h]; simp
    rw [LIM_val] at hs
    cases hc : isDig c with
    | true =>
      obtain ⟨h1, h2⟩ := dig_yes hc
      rw [iterW_next (s' := ((((pre ++ [c]).length : Int), ()), ()))]
      · rw [decimal_loop (by rw [LIM_val]; exact hs) r (pre ++ [c]) (by rw [h]; simp)]
        simp [hc]
      · simp only [word_decimal_L13, hl, hg, cond_true, Option.bind_some, h1, h2, decide_false, Bool.not_false, cond_false, Option.some.injEq, Sum.inl.injEq, Prod.mk.injEq, and_true]
        rw [w64_succ (by omega)]
        simp
    | false =>
      have h1 := dig_not hc
      rw [iterW_done (r := .inr (false, ()))]
      · simp [hc]
      · simp only [word_decimal_L13, hl, hg, cond_true, Option.bind_some]
        by_cases h2 : (c.toNat : Int) < 48
        · simp [h2]
        · have h3 := h1.resolve_left h2
          simp [h2, h3]

theorem head_ne {c : UInt8} : ((c.toNat : Int) != 48) = (c != 48) := by
  by_cases h : c = 48
  · subst h; rfl
  · have : c.toNat ≠ 48 := fun e => h (u8_ext e)
    have h1 : ((c.toNat : Int) != 48) = true := by simp; omega
    rw [h1]
    simp [h]
theorem word_decimal_eq {s : B} (hs : s.length ≤ LIM) : word_decimal (s, ()) = some (decB s, ()) := by
  unfold word_decimal
  have := decimal_loop hs s [] rfl
  simp only [List.length_nil, Int.natCast_zero] at this
  rw [this]
  unfold joinS decB
  cases hd : s.all isDig with
  | false => simp
  | true =>
    simp only [if_true, Option.bind_some, Bool.true_and]
    cases s with
    | nil => simp
    | cons c r =>
      simp only [geti_zero, Option.bind_some, head_ne]
      cases h48 : ((c :: r) == ([48] : B)) with
      | true => simp
      | false => by_cases h : c = 48 <;> simp [h, bne]

theorem text_loop {s : B} (hs : s.length ≤ LIM) : ∀ (rest pre : B), s = pre ++ rest → iterW (haulierref06_Text_L13 (s, ())) (((pre.length : Int), ()), ()) = some (if rest.all isDig then .inl ((), ()) else .inr (false, ())) := decimal_loop hs
theorem ref_Text_eq {s : B} (hs : s.length ≤ LIM) : haulierref06_Text (s, ()) = some (decB s, ()) := by
  unfold haulierref06_Text
  have := text_loop hs s [] rfl
  simp only [List.length_nil, Int.natCast_zero] at this
  rw [this]
  unfold joinS decB
  cases hd : s.all isDig with
  | false => simp
  | true =>
    simp only [if_true, Option.bind_some, Bool.true_and]
    match s with
    | [] => simp
    | [c] => by_cases h : c = 48 <;> simp [h]
    | c :: e :: r =>
      simp only [geti_zero, Option.bind_some, head_ne, List.length_cons]
      have h1 : (((r.length + 1 + 1 : Nat) : Int) == 1) = false := by simp; omega
      have h2 : decide (((r.length + 1 + 1 : Nat) : Int) > 1) = true := by simp; omega
      rw [h1, h2]
      by_cases h : c = 48 <;> simp [h, bne]

/-- the number that digits spell, behind others -/
def valF (acc : Nat) : B → Nat
  | [] => acc
  | c :: r => valF (10 * acc + (c.toNat - 48)) r
def valN (s : B) : Nat := valF 0 s
theorem valF_ge : ∀ {s : B} {acc : Nat}, acc ≤ valF acc s
  | [], acc => Nat.le_refl _
  | c :: r, acc => Nat.le_trans (by omega) (valF_ge (s := r))
/-- what is read of a number's text, of at most 'most' -/
def numS (s : B) (most : Int) : Int × Int × Unit := if decB s = false then (0, 7, ()) else if (valN s : Int) > most then (0, 4, ()) else ((valN s : Int), 0, ())

theorem pum_nil {M acc : Nat} : Lib.parseUintM M acc [] = .ok acc := by simp only [Lib.parseUintM]
theorem pum_over {M acc : Nat} {c : UInt8} {r : B} (h : 48 ≤ c.toNat ∧ c.toNat ≤ 57) (h1 : 1844674407370955162 ≤ acc) : Lib.parseUintM M acc (c :: r) = .range := by simp only [Lib.parseUintM, if_pos h, if_pos h1]
theorem pum_more {M acc : Nat} {c : UInt8} {r : B} (h : 48 ≤ c.toNat ∧ c.toNat ≤ 57) (h1 : ¬ 1844674407370955162 ≤ acc) (h2 : M < acc * 10 + (c.toNat - 48)) : Lib.parseUintM M acc (c :: r) = .range := by simp only [Lib.parseUintM, if_pos h, if_neg h1, if_pos h2]
theorem pum_on {M acc : Nat} {c : UInt8} {r : B} (h : 48 ≤ c.toNat ∧ c.toNat ≤ 57) (h1 : ¬ 1844674407370955162 ≤ acc) (h2 : ¬ M < acc * 10 + (c.toNat - 48)) : Lib.parseUintM M acc (c :: r) = Lib.parseUintM M (acc * 10 + (c.toNat - 48)) r := by simp only [Lib.parseUintM, if_pos h, if_neg h1, if_neg h2]
theorem uintM {M : Nat} (hM : M = 18446744073709551615) (s : B) : ∀ acc : Nat, s.all isDig = true → acc ≤ M → (Lib.parseUintM M acc s = .ok (valF acc s) ∧ valF acc s ≤ M) ∨ (Lib.parseUintM M acc s = .range ∧ valF acc s > M) := by
  induction s with
  | nil =>
    intro acc _ h
    exact .inl ⟨pum_nil, h⟩
  | cons c r ih =>
    intro acc hd h
    simp only [List.all_cons, Bool.and_eq_true] at hd
    obtain ⟨hc, hr⟩ := hd
    have hc' : 48 ≤ c.toNat ∧ c.toNat ≤ 57 := by simpa [isDig] using hc
    have e : 10 * acc + (c.toNat - 48) = acc * 10 + (c.toNat - 48) := by omega
    have hv : valF acc (c :: r) = valF (acc * 10 + (c.toNat - 48)) r := by rw [← e]; rfl
    rw [hv]
    by_cases h1 : 1844674407370955162 ≤ acc
    · rw [pum_over hc' h1]
      exact .inr ⟨rfl, Nat.lt_of_lt_of_le (by omega) valF_ge⟩
    · by_cases h2 : M < acc * 10 + (c.toNat - 48)
      · rw [pum_more hc' h1 h2]
        exact .inr ⟨rfl, Nat.lt_of_lt_of_le h2 valF_ge⟩
      · rw [pum_on hc' h1 h2]
        exact ih _ hr (by omega)

theorem parsed_eq {s : B} (hd : s.all isDig = true) (hne : s ≠ []) : (valN s < 9223372036854775808 ∧ parsed s = ((valN s : Int), false)) ∨ (9223372036854775808 ≤ valN s ∧ (parsed s).2 = true) := by
  match s, hne with
  | c :: r, _ =>
    have hc : isDig c = true := by simp at hd; exact hd.1
    have hc' : 48 ≤ c.toNat ∧ c.toNat ≤ 57 := by simpa [isDig] using hc
    have hu := uintM rfl _ 0 hd (Nat.zero_le _)
    have h1 : ¬ (c.toNat = 43 ∨ c.toNat = 45) := by omega
    have h2 : ¬ c.toNat = 45 := by omega
    have hpu : Lib.parseUintB 64 (c :: r) = Lib.parseUintM 18446744073709551615 0 (c :: r) := by
      unfold Lib.parseUintB
      rw [if_neg (by simp)]
    unfold parsed Lib.parseIntB
    simp only [if_neg h1, hpu]
    rcases hu with ⟨hu1, hu2⟩ | ⟨hu1, hu2⟩
    · rw [hu1]
      simp only [h2, not_false_eq_true, true_and, false_and, if_false]
      change (valN (c :: r) < _ ∧ _) ∨ _
      by_cases h3 : 9223372036854775808 ≤ valF 0 (c :: r)
      · right
        refine ⟨h3, ?_⟩
        rw [if_pos (by simpa using h3)]
      · left
        refine ⟨by unfold valN; omega, ?_⟩
        rw [if_neg (by simpa using h3)]
        rfl
    · rw [hu1]
      right
      exact ⟨by unfold valN; omega, rfl⟩

theorem decB_all {s : B} (h : decB s = true) : s.all isDig = true ∧ s ≠ [] := by
  unfold decB at h
  simp only [Bool.and_eq_true, Bool.or_eq_true, beq_iff_eq, bne_iff_ne] at h
  refine ⟨h.1, ?_⟩
  rcases h.2 with h | h
  · rw [h]; simp
  · exact h.1

theorem word_Number_eq {s : B} {most : Int} (hs : s.length ≤ LIM) (hm : most < 9223372036854775808) : word_Number (s, most, ()) = some (numS s most) := by
  unfold word_Number numS
  refine bnd (word_decimal_eq hs) ?_
  dsimp only
  cases hd : decB s with
  | false => rfl
  | true =>
    obtain ⟨h1, h2⟩ := decB_all hd
    have hp : sig_ParseInt.f (s, 10, 64, ()) = some ((parsed s).1, (parsed s).2, ()) := by
      show (bif (10 : Int) == 10 && (64 : Int) == 64 && decide (s.length ≤ LIM) then some ((parsed s).1, (parsed s).2, ()) else none) = _
      simp [hs]
    simp only [Bool.not_true, cond_false, if_false, Bool.true_eq_false]
    refine bnd hp ?_
    rcases parsed_eq h1 h2 with ⟨h3, h4⟩ | ⟨h3, h4⟩
    · rw [h4]
      by_cases h5 : (valN s : Int) > most <;> simp [h5]
    · rw [h4]
      have h5 : (valN s : Int) > most := by omega
      simp [h5]

theorem valF_step {s : B} {n : Nat} {c : UInt8} : valF n (c :: s) = valF (10 * n + (c.toNat - 48)) s := by
  have e : 10 * n + (c.toNat - 48) = 10 * n + (c.toNat - 48) := rfl
  rw [← e]
  rfl
theorem nd_digit {c : UInt8} (hc : 48 ≤ c.toNat ∧ c.toNat ≤ 57) : w64 (w64 (c.toNat : Int) - 48) = ((c.toNat - 48 : Nat) : Int) := by
  rw [w64_id (n := (c.toNat : Int)) (by omega) (by omega), w64_id (by omega) (by omega)]
  omega
theorem nd_room {x : Nat} (hx : x ≤ 9) {M : Int} (h0 : 10 ≤ M) (h1 : M ≤ 9223372036854775807) : w64 (Int.tdiv (w64 (M - (x : Int))) 10) = (M - (x : Int)) / 10 := by
  have e1 : w64 (M - (x : Int)) = M - (x : Int) := w64_id (by omega) (by omega)
  rw [e1, Int.tdiv_eq_ediv_of_nonneg (by omega), w64_id (by omega) (by omega)]
theorem nd_next {n x : Nat} {M : Int} (h1 : M ≤ 9223372036854775807) (h : ((10 * n + x : Nat) : Int) ≤ M) : w64 ((w64 (10 * (n : Int))) + (x : Int)) = ((10 * n + x : Nat) : Int) := by
  rw [w64_id (n := 10 * (n : Int)) (by omega) (by omega), w64_id (by omega) (by omega)]
  omega
theorem nd_over {n x : Nat} {M : Int} (h : ¬ ((10 * n + x : Nat) : Int) ≤ M) : (n : Int) > (M - (x : Int)) / 10 := by omega
theorem nd_fits {n x : Nat} {M : Int} (h : ((10 * n + x : Nat) : Int) ≤ M) : ¬ (n : Int) > (M - (x : Int)) / 10 := by omega
theorem number_round {s : B} {most : Int} {n i : Int} {c : UInt8} (hl : decide (i < (s.length : Int)) = true) (hg : geti s i = some c) :
    haulierref06_Number_L61 (s, most, ()) ((n, i, ()), ()) = bif decide (n > (w64 (Int.tdiv (w64 (9223372036854775807 - (w64 ((w64 (c.toNat : Int)) - 48)))) 10))) then some (.inr (.inr (0, 4, ()))) else some (.inl ((w64 ((w64 (10 * n)) + (w64 ((w64 (c.toNat : Int)) - 48))), w64 (i + 1), ()), ())) := by
  unfold haulierref06_Number_L61
  dsimp only
  rw [hl, hg]
  rfl
theorem number_end {s : B} {most : Int} {n i : Int} (hl : decide (i < (s.length : Int)) = false) :
    haulierref06_Number_L61 (s, most, ()) ((n, i, ()), ()) = some (.inr (.inl ((n, ()), ()))) := by
  unfold haulierref06_Number_L61
  dsimp only
  rw [hl]
  rfl
theorem number_loop {s : B} {most : Int} (hs : s.length ≤ LIM) {M : Int} (hM : 9223372036854775807 = M) (rest : B) : ∀ (pre : B) (n : Nat), s = pre ++ rest → rest.all isDig = true → (n : Int) ≤ M →
    iterW (haulierref06_Number_L61 (s, most, ())) (((n : Int), (pre.length : Int), ()), ()) = some (if (valF n rest : Int) ≤ M then .inl (((valF n rest : Int), ()), ()) else .inr (0, 4, ())) := by
  have hM1 : M ≤ 9223372036854775807 := Int.le_of_eq hM.symm
  have hM0 : 10 ≤ M := by rw [← hM]; decide
  induction rest with
  | nil =>
    intro pre n h _ hn
    have hl : decide ((pre.length : Int) < (s.length : Int)) = false := by rw [h]; simp
    rw [iterW_done (number_end hl)]
    rw [if_pos (by exact hn)]
    rfl
  | cons c r ih =>
    intro pre n h hd hn
    have hg : geti s (pre.length : Int) = some c := by rw [h]; exact geti_mid _ _ _
    have hl : decide ((pre.length : Int) < (s.length : Int)) = true := by rw [h]; exact len_mid _ _ _
    have hpl : pre.length < s.length := by rw [h]; simp
    have hs' := hs
    rw [LIM_val] at hs'
    simp only [List.all_cons, Bool.and_eq_true] at hd
    obtain ⟨hc, hr⟩ := hd
    have hc' : 48 ≤ c.toNat ∧ c.toNat ≤ 57 := by simpa [isDig] using hc
    have hw : w64 ((pre.length : Int) + 1) = ((pre ++ [c]).length : Int) := by
      rw [w64_succ (by omega)]
      simp
    have hrd := number_round (most := most) (n := (n : Int)) hl hg
    rw [hM, hw, nd_digit hc', nd_room (by omega) hM0 hM1] at hrd
    by_cases h2 : ((10 * n + (c.toNat - 48) : Nat) : Int) ≤ M
    · rw [decide_eq_false (nd_fits h2), cond_false, nd_next hM1 h2] at hrd
      rw [iterW_next hrd, ih (pre ++ [c]) _ (by rw [h]; simp) hr h2]
      rfl
    · rw [decide_eq_true (nd_over h2), cond_true] at hrd
      rw [iterW_done hrd, if_neg]
      have := valF_ge (s := r) (acc := 10 * n + (c.toNat - 48))
      rw [valF_step]
      omega

theorem ref_Number_eq {s : B} {most : Int} (hs : s.length ≤ LIM) (hm : most < 9223372036854775808) : haulierref06_Number (s, most, ()) = some (numS s most) := by
  unfold haulierref06_Number numS
  refine bnd (ref_Text_eq hs) ?_
  dsimp only
  cases hd : decB s with
  | false => rfl
  | true =>
    obtain ⟨h1, h2⟩ := decB_all hd
    have := number_loop (most := most) hs rfl s [] 0 rfl h1 (by omega)
    simp only [List.length_nil, Int.natCast_zero] at this
    simp only [Bool.not_true, cond_false, if_false, Bool.true_eq_false]
    rw [this]
    unfold joinS
    change _ = some (if (valF 0 s : Int) > most then _ else ((valF 0 s : Int), _))
    by_cases h3 : (valF 0 s : Int) ≤ 9223372036854775807
    · rw [if_pos h3]
      by_cases h5 : (valF 0 s : Int) > most <;> simp [h5]
    · rw [if_neg h3]
      have h5 : (valF 0 s : Int) > most := by omega
      simp [h5]
end Go.Rai

/- Plain laws of words: a text's words. -/
set_option linter.unusedVariables false
set_option linter.unusedSimpArgs false
namespace Go.Rai
open Go
abbrev Wd := Int × B × Unit
/-- how long texts may be here -/
abbrev LEN : Nat := 1000000000
/-- the words from place f on; of the word there, 'cur' is read -/
def sp (f : Nat) (rest cur : B) (out : List Wd) : List Wd × Int × Int × Unit := match rest with
  | [] => if cur = [] then ([], (f : Int), 7, ()) else (out ++ [((f : Int), cur, ())], 0, 0, ())
  | c :: r => if c.toNat = 32 then if cur = [] then ([], (f : Int), 7, ()) else sp (f + cur.length + 1) r [] (out ++ [((f : Int), cur, ())]) else if c.toNat < 33 ∨ c.toNat > 126 then ([], ((f + cur.length : Nat) : Int), 7, ()) else sp f r (cur ++ [c]) out
def wordsS (s : B) : List Wd × Int × Int × Unit := if s = [] then ([], 0, 0, ()) else sp 0 s [] []

theorem seg_eq (p cur rest : B) : ((p ++ cur ++ rest).take (p.length + cur.length)).drop p.length = cur := by
  rw [show p.length + cur.length = (p ++ cur).length by simp, List.take_left, List.drop_left]
theorem dec_lt (p cur rest : B) : decide (((p.length + cur.length : Nat) : Int) < ((p ++ cur ++ rest).length : Int)) = decide (rest ≠ []) := by
  cases rest <;> simp
  omega
theorem geti_at (p cur r : B) (c : UInt8) : geti (p ++ cur ++ c :: r) ((p.length + cur.length : Nat) : Int) = some c := by
  have := geti_mid (p ++ cur) c r
  simpa using this

noncomputable def word_Split_K (s : B) (d8 : ((Unit × Int × Unit) × ((List (Int × (B) × Unit)) × Unit))) : Option ((List (Int × (B) × Unit)) × Int × Int × Unit) :=
  bif (s == ([] : B)) then
    some ([], 0, 0, ())
  else
  bif (d8.1.2.1 == (s.length : Int)) then
    some ([], (s.length : Int), 7, ())
  else
  chk (decide (0 ≤ d8.1.2.1 ∧ d8.1.2.1 ≤ (s.length : Int))) <|
  let s9 : B := s.drop d8.1.2.1.toNat
  let a10 : List (Int × (B) × Unit) := ([(d8.1.2.1, s9, ())] : List (Int × (B) × Unit))
  chk (decide (d8.2.1.length + a10.length ≤ LIM)) <|
  let a11 : List (Int × (B) × Unit) := d8.2.1 ++ a10
  some (a11, 0, 0, ())

theorem u32 {c : UInt8} : ((c.toNat : Int) == 32) = decide (c.toNat = 32) := by
  by_cases h : c.toNat = 32
  · rw [h]; rfl
  · rw [decide_eq_false h]
    simp
    omega

theorem word_loop {s : B} (hs : s.length ≤ LEN) (hne : s ≠ []) (rest : B) : ∀ (p cur : B) (out : List Wd), s = p ++ cur ++ rest → out.length ≤ p.length →
    joinS (iterW (word_Split_L61 (s, ())) (((), (p.length : Int), ((p.length + cur.length : Nat) : Int), ()), out, ())) (word_Split_K s) = some (sp p.length rest cur out) := by
  induction rest with
  | nil =>
    intro p cur out h ho
    have hl := dec_lt p cur []
    rw [← h] at hl
    have hlen : s.length = p.length + cur.length := by rw [h]; simp
    rw [iterW_done (r := .inl (((), (p.length : Int), ()), out, ()))]
    · simp only [joinS, Option.bind_some, word_Split_K, sp]
      have h0 : (s == ([] : B)) = false := by simpa using hne
      rw [h0, cond_false]
      by_cases hc : cur = []
      · rw [if_pos hc]
        subst hc
        simp [hlen]
      · have hcl : cur.length ≠ 0 := by simpa using hc
        have h1 : ((p.length : Int) == (s.length : Int)) = false := by simp; omega
        rw [h1, cond_false, if_neg hc, chk_true (by simp; omega), chk_true (by simp; rw [LIM_val]; unfold LEN at hs; omega)]
        have h2 : List.drop p.length s = cur := by rw [h]; simp
        simp [h2]
    · simp only [word_Split_L61, hl]
      rfl
  | cons c r ih =>
    intro p cur out h ho
    have hl := dec_lt p cur (c :: r)
    have hg := geti_at p cur r c
    have hseg := seg_eq p cur (c :: r)
    rw [← h] at hl hg hseg
    have hlen : s.length = p.length + cur.length + (r.length + 1) := by rw [h]; simp; omega
    unfold LEN at hs
    have hw : w64 (((p.length + cur.length : Nat) : Int) + 1) = ((p.length + cur.length + 1 : Nat) : Int) := w64_succ (by omega)
    by_cases h32 : c.toNat = 32
    · by_cases hc : cur = []
      · rw [iterW_done (r := .inr ([], (p.length : Int), 7, ()))]
        · simp only [joinS, Option.bind_some, sp, if_pos h32, if_pos hc]
        · subst hc
          simp only [word_Split_L61, hl, hg, Option.bind_some, u32, h32]
          simp
      · have hcl : cur.length ≠ 0 := by simpa using hc
        rw [iterW_next (s' := (((), ((p ++ cur ++ [c]).length : Int), (((p ++ cur ++ [c]).length + ([] : B).length : Nat) : Int), ()), out ++ [((p.length : Int), cur, ())], ()))]
        · rw [ih (p ++ cur ++ [c]) [] _ (by rw [h]; simp) (by simp; omega)]
          simp only [sp, if_pos h32, if_neg hc]
          simp [Nat.add_assoc]
        · simp only [word_Split_L61, hl, hg, Option.bind_some, u32, h32]
          have h1 : decide (((p.length + cur.length : Nat) : Int) > (p.length : Int)) = true := by simp; omega
          simp only [h1, decide_true, cond_true, ne_eq, reduceCtorEq, not_false_eq_true, Option.bind_some]
          rw [chk_true (by simp; omega), chk_true (by simp; rw [LIM_val]; omega), hw]
          simp only [Int.toNat_natCast, hseg]
          simp [Nat.add_assoc]
    · have hle : ((c.toNat : Int) < 33) = (c.toNat < 33) := by simp; omega
      have hgt : ((c.toNat : Int) > 126) = (c.toNat > 126) := by simp; omega
      by_cases hbad : c.toNat < 33 ∨ c.toNat > 126
      · rw [iterW_done (r := .inr ([], ((p.length + cur.length : Nat) : Int), 7, ()))]
        · simp only [joinS, Option.bind_some, sp, if_neg h32, if_pos hbad]
        · simp only [word_Split_L61, hl, hg, Option.bind_some, u32, h32, hle, hgt]
          by_cases h33 : c.toNat < 33
          · simp [h33]
          · have := hbad.resolve_left h33
            simp [h33, this]
      · have h33 : ¬ c.toNat < 33 := fun e => hbad (.inl e)
        have h126 : ¬ c.toNat > 126 := fun e => hbad (.inr e)
        rw [iterW_next (s' := (((), (p.length : Int), ((p.length + (cur ++ [c]).length : Nat) : Int), ()), out, ()))]
        · rw [ih p (cur ++ [c]) _ (by rw [h]; simp) ho]
          simp only [sp, if_neg h32, if_neg hbad]
        · simp only [word_Split_L61, hl, hg, Option.bind_some, u32, h32, hle, hgt, h33, h126, hw]
          simp [Nat.add_assoc]

theorem word_Split_eq {s : B} (hs : s.length ≤ LEN) : word_Split (s, ()) = some (wordsS s) := by
  by_cases hne : s = []
  · subst hne
    unfold word_Split
    rw [iterW_done (r := .inl (((), 0, ()), [], ()))]
    · rfl
    · rfl
  · have := word_loop hs hne s [] [] [] rfl (by simp)
    unfold wordsS
    rw [if_neg hne]
    exact this

noncomputable def ref_Split_K (s : B) (d16 : ((Unit × Unit) × ((List (Int × (B) × Unit)) × Unit))) : Option ((List (Int × (B) × Unit)) × Int × Int × Unit) :=
  Option.bind (bif decide ((s.length : Int) > 0) then
    (geti s (w64 ((s.length : Int) - 1))).bind fun (c17 : UInt8) =>
    some ((c17.toNat : Int) == 32)
  else some false) fun (b18 : Bool) =>
  bif b18 then
    some ([], (s.length : Int), 7, ())
  else
  some (d16.2.1, 0, 0, ())

/-- what ref has got: the words, and the one that is being read -/
def outR (f : Nat) (cur : B) (out : List Wd) : List Wd := if cur = [] then out else out ++ [((f : Int), cur, ())]
theorem geti_last (q : B) (x : UInt8) (r : B) : geti (q ++ x :: r) ((((q ++ [x]).length : Nat) : Int) - 1) = some x := by
  have : ((((q ++ [x]).length : Nat) : Int) - 1) = (q.length : Int) := by simp
  rw [this]
  exact geti_mid q x r
/-- does a word begin here? -/
theorem start_eq {s p cur rest : B} (h : s = p ++ cur ++ rest) (hs : s.length ≤ LEN) (hp : p = [] ∨ ∃ p' x, p = p' ++ [x] ∧ x.toNat = 32) (hc : ∀ x ∈ cur, x.toNat ≠ 32) :
    (bif !(((p.length + cur.length : Nat) : Int) == 0) then (geti s (w64 (((p.length + cur.length : Nat) : Int) - 1))).bind fun (c3 : UInt8) => some ((c3.toNat : Int) == 32) else some true) = some (decide (cur = [])) := by
  unfold LEN at hs
  have hlen : s.length = p.length + cur.length + rest.length := by rw [h]; simp [Nat.add_assoc]
  by_cases hz : p.length + cur.length = 0
  · have h1 : cur = [] := List.eq_nil_of_length_eq_zero (by omega)
    subst h1
    rw [hz]
    rfl
  · have h0 : (((p.length + cur.length : Nat) : Int) == 0) = false := by simp; omega
    rw [h0, Bool.not_false, cond_true, w64_id (by omega) (by omega)]
    rcases List.eq_nil_or_concat cur with rfl | ⟨q, x, rfl⟩
    · rcases hp with rfl | ⟨p', x, rfl, hx⟩
      · exact absurd rfl hz
      · have : geti s ((((p' ++ [x]).length + ([] : B).length : Nat) : Int) - 1) = some x := by
          have := geti_last p' x rest
          rw [h]
          simpa using this
        rw [this]
        simp [hx]
    · have : geti s (((p.length + (q ++ [x]).length : Nat) : Int) - 1) = some x := by
        have := geti_last (p ++ q) x rest
        rw [h]
        simpa [Nat.add_assoc] using this
      rw [List.concat_eq_append, this]
      have := hc x (by simp)
      simp
      omega
theorem split_set {out : List Wd} {a b : Wd} : (out ++ [a]).set ((((out ++ [a]).length : Nat) : Int) - 1).toNat b = out ++ [b] := by
  have : ((((out ++ [a]).length : Nat) : Int) - 1).toNat = out.length := by simp
  rw [this, List.set_append_right _ _ (Nat.le_refl _)]
  simp
theorem geti_end {out : List Wd} {a : Wd} : geti (out ++ [a]) ((((out ++ [a]).length : Nat) : Int) - 1) = some a := by
  have : ((((out ++ [a]).length : Nat) : Int) - 1) = (out.length : Int) := by simp
  rw [this]
  exact geti_mid out a []

/-- the tail of ref's round: the letter is put to the last word -/
noncomputable def ref_put (s : B) (i : Int) (c2 : UInt8) (l : List Wd) : Option (((Unit × Int × Unit) × ((List (Int × (B) × Unit)) × Unit)) ⊕ (((Unit × Unit) × ((List (Int × (B) × Unit)) × Unit)) ⊕ ((List (Int × (B) × Unit)) × Int × Int × Unit))) :=
    chk (decide (0 ≤ (w64 ((l.length : Int) - 1)) ∧ (w64 ((l.length : Int) - 1)) < (l.length : Int))) <|
    (geti l (w64 ((l.length : Int) - 1))).bind fun (e11 : Int × (B) × Unit) =>
    chk (decide (0 ≤ i ∧ i ≤ (w64 (i + 1)) ∧ (w64 (i + 1)) ≤ (s.length : Int))) <|
    let s12 : B := (s.take (w64 (i + 1)).toNat).drop i.toNat
    chk (decide (e11.2.1.length + s12.length ≤ LIM)) <|
    let s13 : B := e11.2.1 ++ s12
    chk (decide (0 ≤ (w64 ((l.length : Int) - 1)) ∧ (w64 ((l.length : Int) - 1)) < (l.length : Int))) <|
    (geti l (w64 ((l.length : Int) - 1))).bind fun (e14 : Int × (B) × Unit) =>
    let a15 : List (Int × (B) × Unit) := l.set (w64 ((l.length : Int) - 1)).toNat (e14.1, s13, e14.2.2)
    some (.inl (((), w64 (i + 1), ()), a15, ()))
theorem ref_put_eq {s p : B} {c : UInt8} {r w : B} {out : List Wd} {f : Int} (h : s = p ++ c :: r) (hs : s.length ≤ LEN) (ho : out.length ≤ LEN) (hw : w.length ≤ LEN) :
    ref_put s (p.length : Int) c (out ++ [(f, w, ())]) = some (.inl (((), ((p.length + 1 : Nat) : Int), ()), out ++ [(f, w ++ [c], ())], ())) := by
  unfold LEN at hs ho hw
  have hlen : s.length = p.length + (r.length + 1) := by rw [h]; simp
  unfold ref_put
  rw [w64_id (n := ((out ++ [(f, w, ())]).length : Int) - 1) (by simp) (by simp; omega), w64_succ (by omega), geti_end, chk_true (by simp; omega)]
  simp only [Option.bind_some, Int.toNat_natCast]
  have hseg : (s.take (p.length + 1)).drop p.length = [c] := by
    have := seg_eq p [c] r
    rw [h]
    simpa using this
  simp only [hseg]
  rw [chk_true (by simp; omega), chk_true (by simp; rw [LIM_val]; omega), chk_true (by simp; omega), split_set]
theorem ref_loop {s : B} (hs : s.length ≤ LEN) (hne : s ≠ []) (rest : B) : ∀ (p cur : B) (out : List Wd), s = p ++ cur ++ rest → out.length ≤ p.length → (p = [] ∨ ∃ p' x, p = p' ++ [x] ∧ x.toNat = 32) → (∀ x ∈ cur, x.toNat ≠ 32) →
    joinS (iterW (haulierref06_Split_L29 (s, ())) (((), ((p.length + cur.length : Nat) : Int), ()), outR p.length cur out, ())) (ref_Split_K s) = some (sp p.length rest cur out) := by
  induction rest with
  | nil =>
    intro p cur out h ho hp hc
    have hl := dec_lt p cur []
    have hst := start_eq h hs hp hc
    rw [← h] at hl
    have hlen : s.length = p.length + cur.length := by rw [h]; simp
    rw [iterW_done (r := .inl (((), ()), outR p.length cur out, ()))]
    · simp only [joinS, Option.bind_some, ref_Split_K, sp]
      have hz : 0 < s.length := by cases s <;> simp at hne ⊢
      have h0 : (((p.length + cur.length : Nat) : Int) == 0) = false := by simp; omega
      rw [h0, Bool.not_false, cond_true, ← hlen] at hst
      have h1 : decide ((s.length : Int) > 0) = true := by simp; omega
      rw [h1, cond_true]
      refine bnd hst ?_
      by_cases hcur : cur = []
      · simp [hcur, hlen]
      · simp [hcur, outR]
    · simp only [haulierref06_Split_L29, hl]
      rfl
  | cons c r ih =>
    intro p cur out h ho hp hc
    have hl := dec_lt p cur (c :: r)
    have hg := geti_at p cur r c
    have hst := start_eq h hs hp hc
    rw [← h] at hl hg
    have hlen : s.length = p.length + cur.length + (r.length + 1) := by rw [h]; simp; omega
    have hs' := hs
    unfold LEN at hs'
    have hw : w64 (((p.length + cur.length : Nat) : Int) + 1) = ((p.length + cur.length + 1 : Nat) : Int) := w64_succ (by omega)
    have hrd : haulierref06_Split_L29 (s, ()) (((), ((p.length + cur.length : Nat) : Int), ()), outR p.length cur out, ()) =
      if c.toNat < 32 ∨ c.toNat > 126 ∨ c.toNat = 32 ∧ cur = [] then some (.inr (.inr ([], ((p.length + cur.length : Nat) : Int), 7, ())))
      else if c.toNat = 32 then some (.inl (((), ((p.length + cur.length + 1 : Nat) : Int), ()), outR p.length cur out, ()))
      else ref_put s (((p.length + cur.length : Nat) : Int)) c (if cur = [] then out ++ [((p.length : Int), [], ())] else outR p.length cur out) := by
      have hle : ((c.toNat : Int) < 32) = (c.toNat < 32) := by simp; omega
      have hgt : ((c.toNat : Int) > 126) = (c.toNat > 126) := by simp; omega
      simp only [haulierref06_Split_L29, hl, hg, Option.bind_some, hst]
      simp only [u32, hle, hgt]
      simp only [ne_eq, reduceCtorEq, not_false_eq_true, decide_true, cond_true]
      by_cases h1 : c.toNat < 32
      · simp [h1]
      · by_cases h2 : c.toNat > 126
        · simp [h1, h2]
        · by_cases h3 : c.toNat = 32
          · rw [hw]
            by_cases h4 : cur = [] <;> simp [h3, h4]
          · by_cases h4 : cur = []
            · subst h4
              simp only [h1, h2, h3, decide_false, Bool.not_false, cond_true, cond_false, Option.bind_some, decide_true, false_and, or_self, if_false, if_true, outR]
              rw [chk_true (by simp; rw [LIM_val]; omega)]
              rfl
            · simp only [h1, h2, h3, h4, decide_false, Bool.not_false, cond_true, cond_false, Option.bind_some, decide_true, false_and, or_self, if_false, if_true, outR]
              rfl
    by_cases h32 : c.toNat = 32
    · by_cases hcur : cur = []
      · rw [if_pos (by simp [h32, hcur])] at hrd
        rw [iterW_done hrd]
        simp only [joinS, Option.bind_some, sp, if_pos h32, if_pos hcur]
        simp [hcur]
      · rw [if_neg (by simp [h32, hcur]), if_pos h32] at hrd
        have hcl : cur.length ≠ 0 := by simpa using hcur
        rw [iterW_next hrd]
        have := ih (p ++ cur ++ [c]) [] (outR p.length cur out) (by rw [h]; simp) (by simp [outR, hcur]; omega) (.inr ⟨_, _, rfl, h32⟩) (by simp)
        simp only [sp, if_pos h32, if_neg hcur]
        simp only [outR, if_neg hcur, if_true] at this ⊢
        simpa [Nat.add_assoc] using this
    · by_cases hbad : c.toNat < 33 ∨ c.toNat > 126
      · rw [if_pos (by omega)] at hrd
        rw [iterW_done hrd]
        simp only [joinS, Option.bind_some, sp, if_neg h32, if_pos hbad]
      · rw [if_neg (by omega), if_neg h32] at hrd
        have hx : (if cur = [] then out ++ [((p.length : Int), [], ())] else outR p.length cur out) = out ++ [((p.length : Int), cur, ())] := by
          by_cases hcur : cur = []
          · simp [hcur]
          · simp [hcur, outR]
        have hput := ref_put_eq (s := s) (p := p ++ cur) (c := c) (r := r) (w := cur) (out := out) (f := (p.length : Int)) h hs (by unfold LEN; omega) (by unfold LEN; omega)
        rw [hx, show (((p.length + cur.length : Nat) : Int)) = ((p ++ cur).length : Int) by simp, hput] at hrd
        rw [show (((p.length + cur.length : Nat) : Int)) = ((p ++ cur).length : Int) by simp, iterW_next hrd]
        have := ih p (cur ++ [c]) out (by rw [h]; simp) ho hp (by
          intro x hx
          rcases List.mem_append.1 hx with hx | hx
          · exact hc x hx
          · simp at hx; subst hx; exact h32)
        simp only [sp, if_neg h32, if_neg hbad]
        rw [← this]
        simp [outR, Nat.add_assoc]

theorem ref_Split_eq {s : B} (hs : s.length ≤ LEN) : haulierref06_Split (s, ()) = some (wordsS s) := by
  by_cases hne : s = []
  · subst hne
    unfold haulierref06_Split
    rw [iterW_done (r := .inl (((), ()), [], ()))]
    · rfl
    · rfl
  · have := ref_loop hs hne s [] [] [] rfl (by simp) (.inl rfl) (by simp)
    unfold wordsS
    rw [if_neg hne]
    exact this
end Go.Rai

/- Plain laws of words: a window's word. -/
set_option linter.unusedVariables false
set_option linter.unusedSimpArgs false
namespace Go.Rai
open Go
/-- cut at the first line -/
def cutS : B → Option (B × B)
  | [] => none
  | c :: r => if c.toNat = 45 then some ([], r) else match cutS r with
    | none => none
    | some x => some (c :: x.1, x.2)
abbrev Sp := Int × Int × Unit
def spanS (s : B) : Sp × Int × Unit := match cutS s with
  | none => ((0, 0, ()), 7, ())
  | some x => if decB x.1 = false ∨ decB x.2 = false then ((0, 0, ()), 7, ()) else if (valN x.1 : Int) > 40320 ∨ (valN x.2 : Int) > 40320 then ((0, 0, ()), 4, ()) else if (valN x.1 : Int) ≥ (valN x.2 : Int) then ((0, 0, ()), 3, ()) else (((valN x.1 : Int), (valN x.2 : Int), ()), 0, ())

theorem cut_none : ∀ {s : B}, cutS s = none → (∀ x ∈ s, x.toNat ≠ 45) ∧ Lib.indexByte s 45 = -1
  | [], _ => ⟨by simp, rfl⟩
  | c :: r, h => by
    unfold cutS at h
    by_cases hc : c.toNat = 45
    · rw [if_pos hc] at h; cases h
    · rw [if_neg hc] at h
      cases hr : cutS r with
      | some x => rw [hr] at h; cases h
      | none =>
        obtain ⟨h1, h2⟩ := cut_none hr
        refine ⟨by simp; exact ⟨hc, h1⟩, ?_⟩
        unfold Lib.indexByte
        rw [h2]
        have : (c == (45 : UInt8)) = false := by
          simp
          intro e
          subst e
          exact hc rfl
        simp [this]
theorem cut_some : ∀ {s : B} {x : B × B}, cutS s = some x → s = x.1 ++ 45 :: x.2 ∧ (∀ y ∈ x.1, y.toNat ≠ 45) ∧ Lib.indexByte s 45 = (x.1.length : Int)
  | [], _, h => by cases h
  | c :: r, x, h => by
    unfold cutS at h
    by_cases hc : c.toNat = 45
    · rw [if_pos hc] at h
      cases h
      have : c = 45 := u8_ext hc
      subst this
      exact ⟨rfl, by simp, rfl⟩
    · rw [if_neg hc] at h
      cases hr : cutS r with
      | none => rw [hr] at h; cases h
      | some y =>
        rw [hr] at h
        cases h
        obtain ⟨h1, h2, h3⟩ := cut_some hr
        refine ⟨by simp [← h1], by simp; exact ⟨hc, h2⟩, ?_⟩
        unfold Lib.indexByte
        rw [h3]
        have : (c == (45 : UInt8)) = false := by
          simp
          intro e
          subst e
          exact hc rfl
        have h4 : ((y.1.length : Int) == -1) = false := by simp
        simp [this, h4]

theorem index_eq (s : B) : internal_stringslite_Index (s, [45], ()) = some (Lib.indexByte s 45, ()) := by
  have hf : sig_IndexByteI.f (s, 45, ()) = some (Lib.indexByte s 45, ()) := rfl
  unfold internal_stringslite_Index
  dsimp only
  by_cases h : ([45] : B) = s
  · subst h
    rfl
  · have : (([45] : B) == s) = false := by simpa using h
    simp only [this, List.length_singleton]
    refine (bnd (a := false) rfl ?_)
    change (sig_IndexByteI.f (s, 45, ())).bind _ = _
    refine bnd hf ?_
    rfl
theorem cut_eq {s : B} (hs : s.length ≤ LEN) : strings_Cut (s, [45], ()) = some (match cutS s with
    | none => (s, [], false, ())
    | some x => (x.1, x.2, true, ())) := by
  unfold LEN at hs
  unfold strings_Cut internal_stringslite_Cut
  dsimp only
  rw [index_eq]
  cases h : cutS s with
  | none =>
    obtain ⟨h1, h2⟩ := cut_none h
    rw [h2]
    rfl
  | some x =>
    obtain ⟨h1, h2, h3⟩ := cut_some h
    have hlen : s.length = x.1.length + (x.2.length + 1) := by
      have := congrArg List.length h1
      simpa using this
    simp only [h3, Option.bind_some]
    rw [show decide ((x.1.length : Int) ≥ 0) = true by simp, cond_true, chk_true (by simp; omega)]
    have hw : w64 ((x.1.length : Int) + (([45] : B).length : Int)) = ((x.1.length + 1 : Nat) : Int) := by
      rw [w64_id] <;> simp <;> omega
    rw [hw, chk_true (by simp; omega)]
    simp only [Int.toNat_natCast, Option.bind_some]
    have e1 : s.take x.1.length = x.1 := by rw [h1]; simp
    have e2 : s.drop (x.1.length + 1) = x.2 := by
      rw [h1, show x.1.length + 1 = (x.1 ++ [45]).length by simp, show x.1 ++ 45 :: x.2 = (x.1 ++ [45]) ++ x.2 by simp, List.drop_left]
    rw [e1, e2]

theorem numS_code {s : B} {most : Int} (h : decB s = true) : numS s most = if (valN s : Int) > most then (0, 4, ()) else ((valN s : Int), 0, ()) := by
  unfold numS
  rw [if_neg (by simp [h])]

theorem word_Span_eq {s : B} (hs : s.length ≤ LEN) : word_Span (s, ()) = some (spanS s) := by
  have hL : LEN ≤ LIM := by decide
  unfold word_Span spanS
  refine bnd (cut_eq hs) ?_
  cases h : cutS s with
  | none =>
    dsimp only
    rw [word_decimal_eq (Nat.le_trans hs hL), word_decimal_eq (Nat.le_trans (Nat.zero_le _) hL)]
    cases decB s <;> rfl
  | some x =>
    dsimp only
    obtain ⟨h1, h2, h3⟩ := cut_some h
    have hlen : s.length = x.1.length + (x.2.length + 1) := by
      have := congrArg List.length h1
      simpa using this
    have l1 : x.1.length ≤ LIM := by omega
    have l2 : x.2.length ≤ LIM := by omega
    rw [word_decimal_eq l1, word_decimal_eq l2, word_Number_eq l1 (by decide), word_Number_eq l2 (by decide)]
    cases hd1 : decB x.1 with
    | false => rfl
    | true =>
      cases hd2 : decB x.2 with
      | false => rfl
      | true =>
        rw [numS_code hd1, numS_code hd2]
        by_cases g1 : (valN x.1 : Int) > 40320
        · simp [g1]
        · by_cases g2 : (valN x.2 : Int) > 40320
          · simp [g1, g2]
          · by_cases g3 : (valN x.1 : Int) ≥ (valN x.2 : Int) <;> simp [g1, g2, g3]

/-! ref -/
theorem u45 {c : UInt8} : ((c.toNat : Int) == 45) = decide (c.toNat = 45) := by
  by_cases h : c.toNat = 45
  · rw [h]; rfl
  · rw [decide_eq_false h]
    simp
    omega
theorem rs_end {s : B} {a i : Int} {z : (Int × Int × Unit) × Unit} (hl : decide (i < (s.length : Int)) = false) : haulierref06_Span_L29 (s, ()) ((a, i, ()), z) = some (.inr (.inl ((a, ()), z.1, ()))) := by
  unfold haulierref06_Span_L29
  dsimp only
  rw [hl]
  rfl
theorem rs_round {s : B} {a i : Int} {z : (Int × Int × Unit) × Unit} {c : UInt8} (hl : decide (i < (s.length : Int)) = true) (hg : geti s i = some c) :
    haulierref06_Span_L29 (s, ()) ((a, i, ()), z) = if c.toNat = 45 then if a ≥ 0 then some (.inr (.inr ((0, 0, ()), 7, ()))) else some (.inl ((i, w64 (i + 1), ()), z.1, ())) else some (.inl ((a, w64 (i + 1), ()), z.1, ())) := by
  unfold haulierref06_Span_L29
  dsimp only
  rw [hl, hg]
  by_cases h : c.toNat = 45
  · by_cases h2 : a ≥ 0 <;> simp [u45, h, h2]
  · simp [u45, h]
theorem rs_clean {s : B} (hs : s.length ≤ LEN) {a : Int} (rest : B) : ∀ (p : B) (q : B), s = p ++ rest ++ q → (∀ x ∈ rest, x.toNat ≠ 45) →
    iterW (haulierref06_Span_L29 (s, ())) ((a, (p.length : Int), ()), (0, 0, ()), ()) = iterW (haulierref06_Span_L29 (s, ())) ((a, ((p ++ rest).length : Int), ()), (0, 0, ()), ()) := by
  induction rest with
  | nil => intro p q h hc; simp
  | cons c r ih =>
    intro p q h hc
    unfold LEN at hs
    have hlen : s.length = p.length + (r.length + 1) + q.length := by rw [h]; simp; omega
    have hg : geti s (p.length : Int) = some c := by
      have := geti_mid p c (r ++ q)
      rw [h]
      simpa using this
    have hrd := rs_round (a := a) (z := ((0, 0, ()), ())) (by simp; omega) hg
    rw [if_neg (hc c (by simp)), w64_succ (by omega)] at hrd
    rw [iterW_next hrd]
    have := ih (p ++ [c]) q (by rw [h]; simp) (fun x hx => hc x (by simp [hx]))
    simpa using this
theorem decB_no {s : B} (h : ∃ x ∈ s, x.toNat = 45) : decB s = false := by
  obtain ⟨x, hx, h45⟩ := h
  have : s.all isDig = false := by
    rw [List.all_eq_false]
    exact ⟨x, hx, by simp [isDig, h45]⟩
  simp [decB, this]
theorem first_line : ∀ {s : B}, (∃ x ∈ s, x.toNat = 45) → ∃ a c b, s = a ++ c :: b ∧ (∀ x ∈ a, x.toNat ≠ 45) ∧ c.toNat = 45
  | [], h => by obtain ⟨x, hx, _⟩ := h; cases hx
  | c :: r, h => by
    by_cases hc : c.toNat = 45
    · exact ⟨[], c, r, rfl, by simp, hc⟩
    · have : ∃ x ∈ r, x.toNat = 45 := by
        obtain ⟨x, hx, hx2⟩ := h
        rcases List.mem_cons.1 hx with rfl | hx
        · exact absurd hx2 hc
        · exact ⟨x, hx, hx2⟩
      obtain ⟨a, d, b, h1, h2, h3⟩ := first_line this
      exact ⟨c :: a, d, b, by rw [h1]; rfl, by simp; exact ⟨hc, h2⟩, h3⟩
theorem ref_Span_eq {s : B} (hs : s.length ≤ LEN) : haulierref06_Span (s, ()) = some (spanS s) := by
  have hL : LEN ≤ LIM := by decide
  have hs' := hs
  unfold LEN at hs'
  unfold haulierref06_Span spanS
  cases h : cutS s with
  | none =>
    obtain ⟨h1, h2⟩ := cut_none h
    have hc := rs_clean (a := -1) hs s [] [] (by simp) h1
    simp only [List.length_nil, Int.natCast_zero, List.nil_append] at hc
    rw [hc, iterW_done (rs_end (by simp))]
    rfl
  | some x =>
    obtain ⟨h1, h2, h3⟩ := cut_some h
    have hlen : s.length = x.1.length + (x.2.length + 1) := by
      have := congrArg List.length h1
      simpa using this
    have hc := rs_clean (a := -1) hs x.1 [] (45 :: x.2) (by simpa using h1) h2
    simp only [List.length_nil, Int.natCast_zero, List.nil_append] at hc
    have hg : geti s (x.1.length : Int) = some 45 := by
      have := geti_mid x.1 45 x.2
      rw [h1]
      exact this
    have hrd := rs_round (a := -1) (z := ((0, 0, ()), ())) (by simp; omega) hg
    rw [if_pos (by rfl), if_neg (by decide), w64_succ (by omega)] at hrd
    rw [hc, iterW_next hrd]
    by_cases h45 : ∃ y ∈ x.2, y.toNat = 45
    · obtain ⟨a, c, b, g1, g2, g3⟩ := first_line h45
      have hc2 := rs_clean (a := (x.1.length : Int)) hs a (x.1 ++ [45]) (c :: b) (by rw [h1, g1]; simp) g2
      have hl2 : ((x.1 ++ [(45 : UInt8)]).length : Int) = ((x.1.length + 1 : Nat) : Int) := by simp
      have hlen2 : x.2.length = a.length + (b.length + 1) := by rw [g1]; simp
      rw [hl2] at hc2
      have hg2 : geti s ((x.1 ++ [45] ++ a).length : Int) = some c := by
        have := geti_mid (x.1 ++ [45] ++ a) c b
        rw [h1, g1]
        simpa using this
      have hrd2 := rs_round (a := (x.1.length : Int)) (z := ((0, 0, ()), ())) (by simp; omega) hg2
      rw [if_pos g3, if_pos (by simp)] at hrd2
      rw [hc2, iterW_done hrd2]
      have := decB_no h45
      simp [joinS, this]
    · have hc2 := rs_clean (a := (x.1.length : Int)) hs x.2 (x.1 ++ [45]) [] (by rw [h1]; simp) (fun y hy e => h45 ⟨y, hy, e⟩)
      have hl2 : ((x.1 ++ [(45 : UInt8)]).length : Int) = ((x.1.length + 1 : Nat) : Int) := by simp
      rw [hl2] at hc2
      rw [hc2, iterW_done (rs_end (by simp; omega))]
      have l1 : x.1.length ≤ LIM := by omega
      have l2 : x.2.length ≤ LIM := by omega
      simp only [joinS, Option.bind_some]
      have e1 : s.take x.1.length = x.1 := by rw [h1]; simp
      have e2 : s.drop (x.1.length + 1) = x.2 := by
        rw [h1, show x.1.length + 1 = (x.1 ++ [45]).length by simp, show x.1 ++ 45 :: x.2 = (x.1 ++ [45]) ++ x.2 by simp, List.drop_left]
      have hneg : decide ((x.1.length : Int) < 0) = false := by simp
      have hc1 : decide (0 ≤ (x.1.length : Int) ∧ (x.1.length : Int) ≤ (s.length : Int)) = true := by simp; omega
      have hw : w64 ((x.1.length : Int) + 1) = ((x.1.length + 1 : Nat) : Int) := w64_succ (by omega)
      have hc2 : decide (0 ≤ ((x.1.length + 1 : Nat) : Int) ∧ ((x.1.length + 1 : Nat) : Int) ≤ (s.length : Int)) = true := by simp; omega
      simp only [hneg, hc1, hw, hc2, chk_true rfl, Bool.not_false, cond_true, Int.toNat_natCast, e1, e2, ref_Text_eq l1, ref_Text_eq l2, ref_Number_eq l1 (show (40320 : Int) < 9223372036854775808 by decide), ref_Number_eq l2 (show (40320 : Int) < 9223372036854775808 by decide), Option.bind_some]
      cases hd1 : decB x.1 with
      | false => rfl
      | true =>
        cases hd2 : decB x.2 with
        | false => rfl
        | true =>
          rw [numS_code hd1, numS_code hd2]
          by_cases g1 : (valN x.1 : Int) > 40320
          · simp [g1]
          · by_cases g2 : (valN x.2 : Int) > 40320
            · simp [g1, g2]
            · by_cases g3 : (valN x.1 : Int) ≥ (valN x.2 : Int) <;> simp [g1, g2, g3]
  end Go.Rai

/- Plain laws of reading: numbers, windows, orders. -/
set_option linter.unusedVariables false
set_option linter.unusedSimpArgs false
namespace Go.Rai
open Go
abbrev Num := Int × Int × Unit
theorem numS_range {s : B} {most : Int} (hm : 0 ≤ most) : 0 ≤ (numS s most).1 ∧ (numS s most).1 ≤ most := by
  unfold numS
  split
  · exact ⟨Int.le_refl _, hm⟩
  · split
    · exact ⟨Int.le_refl _, hm⟩
    · exact ⟨by simp, by simp at *; omega⟩
theorem numS_bad {s : B} {most : Int} (h : (numS s most).2.1 ≠ 0) : numS s most = (0, (numS s most).2.1, ()) := by
  unfold numS at h ⊢
  split
  · rfl
  · split
    · rfl
    · rename_i h1 h2
      rw [if_neg h1, if_neg h2] at h
      exact absurd rfl h
/-- a number that may be below none -/
def sgnS (w : B) : Num := match w with
  | [] => numS [] 1000000000
  | c :: r => if c.toNat = 45 then if (numS r 1000000000).2.1 ≠ 0 then (0, (numS r 1000000000).2.1, ()) else if (numS r 1000000000).1 = 0 then (0, 7, ()) else (-(numS r 1000000000).1, 0, ()) else numS (c :: r) 1000000000
/-- the words' numbers; that at one place may be below none -/
def allA (k : Int) (i : Nat) (ws : List B) (out : List Int) : List Int × Int × Unit := match ws with
  | [] => (out, 0, ())
  | w :: r => if (if (i : Int) = k then sgnS w else numS w 1000000000).2.1 ≠ 0 then ([], (if (i : Int) = k then sgnS w else numS w 1000000000).2.1, ()) else allA k (i + 1) r (out ++ [(if (i : Int) = k then sgnS w else numS w 1000000000).1])

theorem dec_ltl {α : Type} (p : List α) (rest : List α) : decide ((p.length : Int) < ((p ++ rest).length : Int)) = decide (rest ≠ []) := by
  cases rest <;> simp
  omega

theorem all_loop {ws : List Wd} (hl : ws.length ≤ LEN) (hw : ∀ w ∈ ws, w.2.1.length ≤ LEN) (rest : List Wd) : ∀ (pre : List Wd) (out : List Int), ws = pre ++ rest → out.length ≤ pre.length →
    iterW (script_all_L29 (ws, ())) (((), (pre.length : Int), ()), out, ()) = some (allA (-1) pre.length (rest.map fun w => w.2.1) out) := by
  have hL : LEN ≤ LIM := by decide
  induction rest with
  | nil =>
    intro pre out h ho
    have hd := dec_ltl pre ([] : List Wd)
    rw [← h] at hd
    rw [iterW_done (r := (out, 0, ()))]
    · rfl
    · simp only [script_all_L29, hd]
      rfl
  | cons c r ih =>
    intro pre out h ho
    have hd := dec_ltl pre (c :: r)
    have hg := geti_mid pre c r
    rw [← h] at hd hg
    have hc : c.2.1.length ≤ LIM := Nat.le_trans (hw c (by rw [h]; simp)) hL
    have hlen : ws.length = pre.length + (r.length + 1) := by rw [h]; simp
    unfold LEN at hl
    have hk : ¬ ((pre.length : Nat) : Int) = -1 := by omega
    simp only [List.map_cons, allA, if_neg hk]
    by_cases he : (numS c.2.1 1000000000).2.1 = 0
    · rw [if_neg (by simpa using he), iterW_next (s' := (((), ((pre ++ [c]).length : Int), ()), out ++ [(numS c.2.1 1000000000).1], ())), ih (pre ++ [c]) _ (by rw [h]; simp) (by simp; omega)]
      · simp
      · simp only [script_all_L29, hd, hg, Option.bind_some, word_Number_eq hc (show (1000000000 : Int) < 9223372036854775808 by decide)]
        rw [w64_succ (by omega), chk_true (by simp; rw [LIM_val]; omega)]
        simp [he]
    · rw [if_pos he, iterW_done (r := ([], (numS c.2.1 1000000000).2.1, ()))]
      simp only [script_all_L29, hd, hg, Option.bind_some, word_Number_eq hc (show (1000000000 : Int) < 9223372036854775808 by decide)]
      simp [he, nz_bne he]
theorem script_all_eq {ws : List Wd} (hl : ws.length ≤ LEN) (hw : ∀ w ∈ ws, w.2.1.length ≤ LEN) : script_all (ws, ()) = some (allA (-1) 0 (ws.map fun w => w.2.1) []) :=
  all_loop hl hw ws [] [] rfl (by simp)

/-- what ref makes of a word, its line cut off or not -/
noncomputable def refNum (w : B) (sg : Int) (out : List Int) (i : Int) : Option ((((Unit × Int × Unit) × ((List Int) × Unit))) ⊕ ((List Int) × Int × Unit)) :=
    (haulierref06_Number (w, 1000000000, ())).bind fun (r8 : Int × Int × Unit) =>
    joinS (
      Option.bind (bif (r8.2.1 == 0) then
        some (decide (sg < 0))
      else some false) fun (b9 : Bool) =>
      Option.bind (bif b9 then
        some (r8.1 == 0)
      else some false) fun (b10 : Bool) =>
      bif b10 then
        some (.inl ((7, ()), ()))
      else
      some (.inl ((r8.2.1, ()), ()))) fun (d11 : ((Int × Unit) × (Unit))) =>
    bif (d11.1.1 != 0) then
      some (.inr ([], d11.1.1, ()))
    else
    let a12 : List Int := ([w64 (sg * r8.1)] : List Int)
    chk (decide (out.length + a12.length ≤ LIM)) <|
    let a13 : List Int := out ++ a12
    some (.inl (((), w64 (i + 1), ()), a13, ()))
theorem refNum_plain {w : B} {out : List Int} {i : Int} (hw : w.length ≤ LIM) (ho : out.length ≤ LEN) : refNum w 1 out i = if (numS w 1000000000).2.1 ≠ 0 then some (.inr ([], (numS w 1000000000).2.1, ())) else some (.inl (((), w64 (i + 1), ()), out ++ [(numS w 1000000000).1], ())) := by
  unfold LEN at ho
  have hr := numS_range (s := w) (most := 1000000000) (by decide)
  have h1 : w64 (1 * (numS w 1000000000).1) = (numS w 1000000000).1 := by rw [Int.one_mul]; exact w64_id (by omega) (by omega)
  unfold refNum
  rw [ref_Number_eq hw (by decide)]
  simp only [Option.bind_some, h1]
  rw [chk_true (by simp; rw [LIM_val]; omega)]
  by_cases he : (numS w 1000000000).2.1 = 0
  · simp [he, joinS]
  · simp [he, joinS, nz_bne he, nz_beq he]
theorem refNum_line {w : B} {out : List Int} {i : Int} (hw : w.length ≤ LIM) (ho : out.length ≤ LEN) : refNum w (-1) out i = if (numS w 1000000000).2.1 ≠ 0 then some (.inr ([], (numS w 1000000000).2.1, ())) else if (numS w 1000000000).1 = 0 then some (.inr ([], 7, ())) else some (.inl (((), w64 (i + 1), ()), out ++ [-(numS w 1000000000).1], ())) := by
  unfold LEN at ho
  have hr := numS_range (s := w) (most := 1000000000) (by decide)
  have h1 : w64 (-1 * (numS w 1000000000).1) = -(numS w 1000000000).1 := by rw [Int.neg_one_mul]; exact w64_id (by omega) (by omega)
  unfold refNum
  rw [ref_Number_eq hw (by decide)]
  simp only [Option.bind_some, h1]
  rw [chk_true (by simp; rw [LIM_val]; omega)]
  by_cases he : (numS w 1000000000).2.1 = 0
  · by_cases hz : (numS w 1000000000).1 = 0
    · simp [he, hz, joinS]
    · simp [he, hz, joinS, nz_beq hz]
  · simp [he, joinS, nz_bne he, nz_beq he]
theorem ref_num_round {ws : List B} {k i : Int} {out : List Int} {e2 : B} (hd : decide (i < (ws.length : Int)) = true) (hg : geti ws i = some e2) (hw : e2.length ≤ LEN) (ho : out.length ≤ LEN) :
    haulierref31_Numbers_L29 (ws, k, ()) (((), i, ()), out, ()) = if (if i = k then sgnS e2 else numS e2 1000000000).2.1 ≠ 0 then some (.inr ([], (if i = k then sgnS e2 else numS e2 1000000000).2.1, ())) else some (.inl (((), w64 (i + 1), ()), out ++ [(if i = k then sgnS e2 else numS e2 1000000000).1], ())) := by
  have hL : LEN ≤ LIM := by decide
  have hp := refNum_plain (w := e2) (i := i) (Nat.le_trans hw hL) ho
  unfold haulierref31_Numbers_L29
  dsimp only
  rw [hd, hg]
  simp only [cond_true, Option.bind_some]
  by_cases hk : i = k
  · subst hk
    simp only [if_true, beq_self_eq_true, cond_true, Option.bind_some]
    cases e2 with
    | nil => exact hp
    | cons c r =>
      have hg0 : geti (c :: r) 0 = some c := rfl
      have hp1 : decide ((((c :: r) : B).length : Int) > 0) = true := by simp
      by_cases hc : c.toNat = 45
      · have hp2 := refNum_line (w := r) (i := i) (by have : (c :: r).length ≤ LEN := hw; simp at this; omega) ho
        simp only [hp1, cond_true, hg0, Option.bind_some, u45, hc, decide_true]
        rw [chk_true (by simp; omega)]
        refine Eq.trans (b := refNum r (-1) out i) rfl (hp2.trans ?_)
        simp only [sgnS, if_pos hc]
        by_cases he : (numS r 1000000000).2.1 = 0
        · by_cases hz : (numS r 1000000000).1 = 0 <;> simp [he, hz]
        · simp [he]
      · simp only [hp1, cond_true, hg0, Option.bind_some, u45, hc, decide_false, cond_false]
        refine Eq.trans (b := refNum (c :: r) 1 out i) rfl (hp.trans ?_)
        simp only [sgnS, if_neg hc]
  · have hk2 : (i == k) = false := by simpa using hk
    simp only [hk2, cond_false, Option.bind_some, if_neg hk]
    exact hp
theorem nums_loop {ws : List B} {k : Int} (hl : ws.length ≤ LEN) (hw : ∀ w ∈ ws, w.length ≤ LEN) (rest : List B) : ∀ (pre : List B) (out : List Int), ws = pre ++ rest → out.length ≤ pre.length →
    iterW (haulierref31_Numbers_L29 (ws, k, ())) (((), (pre.length : Int), ()), out, ()) = some (allA k pre.length rest out) := by
  induction rest with
  | nil =>
    intro pre out h ho
    have hd := dec_ltl pre ([] : List B)
    rw [← h] at hd
    rw [iterW_done (r := (out, 0, ()))]
    · rfl
    · simp only [haulierref31_Numbers_L29, hd]
      rfl
  | cons c r ih =>
    intro pre out h ho
    have hd := dec_ltl pre (c :: r)
    have hg := geti_mid pre c r
    rw [← h] at hd hg
    have hlen : ws.length = pre.length + (r.length + 1) := by rw [h]; simp
    have hl' := hl
    unfold LEN at hl'
    have hrd := ref_num_round (k := k) (out := out) (hd.trans (by simp)) hg (hw c (by rw [h]; simp)) (by omega)
    simp only [allA]
    by_cases he : (if (pre.length : Int) = k then sgnS c else numS c 1000000000).2.1 = 0
    · rw [if_neg (by simpa using he), w64_succ (by omega)] at hrd
      rw [if_neg (by simpa using he), iterW_next hrd]
      have := ih (pre ++ [c]) (out ++ [(if (pre.length : Int) = k then sgnS c else numS c 1000000000).1]) (by rw [h]; simp) (by simp; omega)
      simpa using this
    · rw [if_pos he] at hrd
      rw [if_pos he, iterW_done hrd]
theorem ref_Numbers_eq {ws : List B} {k : Int} (hl : ws.length ≤ LEN) (hw : ∀ w ∈ ws, w.length ≤ LEN) : haulierref31_Numbers (ws, k, ()) = some (allA k 0 ws []) :=
  nums_loop hl hw ws [] [] rfl (by simp)

/-! signed, by the code -/
def preS : B → B × Bool × Unit
  | [] => ([], false, ())
  | c :: r => if c.toNat = 45 then (r, true, ()) else (c :: r, false, ())
theorem prefix_eq (s : B) : strings_CutPrefix (s, [45], ()) = some (preS s) := by
  unfold strings_CutPrefix internal_stringslite_CutPrefix internal_stringslite_HasPrefix
  cases s with
  | nil => rfl
  | cons c r =>
    have h1 : decide ((((c :: r) : B).length : Int) ≥ (([45] : B).length : Int)) = true := by simp only [List.length_cons, List.length_nil, decide_eq_true_eq]; omega
    dsimp only
    rw [h1, cond_true, chk_true (by simp only [List.length_cons, List.length_nil, decide_eq_true_eq]; omega)]
    by_cases hc : c.toNat = 45
    · have : c = 45 := u8_ext hc
      subst this
      simp only [preS, if_pos hc]
      change Option.bind (chk (decide (0 ≤ (([45] : B).length : Int) ∧ (([45] : B).length : Int) ≤ (((45 :: r) : B).length : Int))) (some (r, true, ()))) _ = _
      rw [chk_true (by simp; try omega)]
      rfl
    · have h2 : ((c :: r).take (([45] : B).length : Int).toNat == ([45] : B)) = false := by
        simp
        intro e
        subst e
        exact hc rfl
      rw [show preS (c :: r) = (c :: r, false, ()) from if_neg hc]
      simp only [Option.bind_some]
      rw [h2]
      rfl
theorem paper_number_eq {s : B} (hs : s.length ≤ LEN) : paper_number (s, ()) = some (numS s 1000000000) := by
  have hL : LEN ≤ LIM := by decide
  unfold paper_number
  dsimp only
  rw [word_Number_eq (Nat.le_trans hs hL) (by decide)]
  rfl
theorem paper_signed_eq {s : B} (hs : s.length ≤ LEN) : paper_signed (s, ()) = some (sgnS s) := by
  unfold paper_signed
  dsimp only
  rw [prefix_eq]
  cases s with
  | nil =>
    refine bnd (a := ([], false, ())) rfl ?_
    refine bnd (paper_number_eq (Nat.zero_le _)) ?_
    rfl
  | cons c r =>
    have hs2 : r.length ≤ LEN := by have : (c :: r).length ≤ LEN := hs; simp at this; omega
    have hr := numS_range (s := r) (most := 1000000000) (by decide)
    by_cases hc : c.toNat = 45
    · simp only [preS, if_pos hc, Option.bind_some, paper_number_eq hs2, sgnS]
      have hw : w64 (0 - (numS r 1000000000).1) = -(numS r 1000000000).1 := by rw [Int.zero_sub]; exact w64_id (by omega) (by omega)
      rw [hw]
      by_cases he : (numS r 1000000000).2.1 = 0
      · by_cases hz : (numS r 1000000000).1 = 0
        · simp [he, hz]
        · simp [he, hz, nz_beq hz]
      · simp [he, nz_bne he]
    · simp only [preS, if_neg hc, Option.bind_some, paper_number_eq hs, sgnS]
      by_cases he : (numS (c :: r) 1000000000).2.1 = 0
      · simp [he]
        rw [show numS (c :: r) 1000000000 = ((numS (c :: r) 1000000000).1, (numS (c :: r) 1000000000).2.1, ()) from rfl, he]
      · simp [he, nz_bne he]
        exact (numS_bad he).symm
end Go.Rai
