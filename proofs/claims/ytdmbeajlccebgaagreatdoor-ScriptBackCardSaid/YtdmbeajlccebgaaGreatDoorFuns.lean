/- The functions of the law as plain functions, each with its proof. -/
import Derived.Test.YtdmbeajlccebgaaGreatDoorTab
set_option maxRecDepth 100000
set_option linter.unusedVariables false
namespace Go.Rai
open Go Go.Proofs
noncomputable def haulierlaw42_Few (d : (Int × Int × Int × Int × Int × (List (Int × Int × Unit)) × Int × (List (Int × Int × Int × Unit)) × Int × Int × Int × Int × (List Int) × Unit) × Unit) : Option (Bool × Unit) :=
  let x1 : Bool := decide ((d.1.2.2.2.2.2.1.length : Int) ≤ 20)
  Option.bind (bif x1 then
    let x2 : Bool := decide ((d.1.2.2.2.2.2.2.2.1.length : Int) ≤ 60)
    some x2
  else some false) fun (b3 : Bool) =>
  Option.bind (bif b3 then
    let x4 : Int := (d.1.2.2.2.2.2.2.2.2.2.2.2.2.1.length : Int)
    some (decide (x4 ≤ 60))
  else some false) fun (b5 : Bool) =>
  some (b5, ())
noncomputable def sig_haulierlaw42_Few : Sig := ⟨[(.pair (.int .i64) (.pair (.int .i64) (.pair (.int .i64) (.pair (.int .i64) (.pair (.int .i64) (.pair (.slice (.pair (.int .i64) (.pair (.int .i64) .unit))) (.pair (.int .i64) (.pair (.slice (.pair (.int .i64) (.pair (.int .i64) (.pair (.int .i64) .unit)))) (.pair (.int .i64) (.pair (.int .i64) (.pair (.int .i64) (.pair (.int .i64) (.pair (.slice (.int .i64)) .unit)))))))))))))], [.val .bool], haulierlaw42_Few⟩
noncomputable def env_haulierlaw42_Few : Env := fun g => []
def ann_haulierlaw42_Few : Ann := fun p => none
theorem envok_haulierlaw42_Few : EnvOK Tryz.prog (Laid Tryz.prog) env_haulierlaw42_Few := fun g s hs => by cases hs
theorem den_haulierlaw42_Few (d : ShD sig_haulierlaw42_Few.ins) : sig_haulierlaw42_Few.f d = funDen tt env_haulierlaw42_Few ann_haulierlaw42_Few Tryz.f5 sig_haulierlaw42_Few.ins sig_haulierlaw42_Few.outs d := by kernel_rfl
theorem ok_haulierlaw42_Few : SigOK Tryz.prog (Laid Tryz.prog) 5 sig_haulierlaw42_Few := sig_of hT hS envok_haulierlaw42_Few mixed ann_haulierlaw42_Few Tryz.func5 (by kernel_rfl) den_haulierlaw42_Few

noncomputable def word_Split_L61 (d : (List UInt8) × Unit) (d1 : ((Unit × Int × Int × Unit) × ((List (Int × (List UInt8) × Unit)) × Unit))) : Option (((Unit × Int × Int × Unit) × ((List (Int × (List UInt8) × Unit)) × Unit)) ⊕ (((Unit × Int × Unit) × ((List (Int × (List UInt8) × Unit)) × Unit)) ⊕ ((List (Int × (List UInt8) × Unit)) × Int × Int × Unit))) :=
  bif decide (d1.1.2.2.1 < (d.1.length : Int)) then
    (geti d.1 d1.1.2.2.1).bind fun (c2 : UInt8) =>
    Option.bind (bif ((c2.toNat : Int) == 32) then
      some (decide (d1.1.2.2.1 > d1.1.2.1))
    else some false) fun (b3 : Bool) =>
    bif b3 then
      chk (decide (0 ≤ d1.1.2.1 ∧ d1.1.2.1 ≤ d1.1.2.2.1 ∧ d1.1.2.2.1 ≤ (d.1.length : Int))) <|
      let s4 : List UInt8 := (d.1.take d1.1.2.2.1.toNat).drop d1.1.2.1.toNat
      let a5 : List (Int × (List UInt8) × Unit) := ([(d1.1.2.1, s4, ())] : List (Int × (List UInt8) × Unit))
      chk (decide (d1.2.1.length + a5.length ≤ LIM)) <|
      let a6 : List (Int × (List UInt8) × Unit) := d1.2.1 ++ a5
      some (.inl (((), w64 (d1.1.2.2.1 + 1), w64 (d1.1.2.2.1 + 1), ()), a6, ()))
    else
    Option.bind (bif !(decide ((c2.toNat : Int) < 33)) then
      some (decide ((c2.toNat : Int) > 126))
    else some true) fun (b7 : Bool) =>
    bif b7 then
      some (.inr (.inr ([], d1.1.2.2.1, 7, ())))
    else
    some (.inl (((), d1.1.2.1, w64 (d1.1.2.2.1 + 1), ()), d1.2.1, ()))
  else
  some (.inr (.inl (((), d1.1.2.1, ()), d1.2.1, ())))
noncomputable def word_Split (d : (List UInt8) × Unit) : Option ((List (Int × (List UInt8) × Unit)) × Int × Int × Unit) :=
  joinS (
    iterW (ρ := ((Unit × Int × Unit) × ((List (Int × (List UInt8) × Unit)) × Unit)) ⊕ ((List (Int × (List UInt8) × Unit)) × Int × Int × Unit)) (word_Split_L61 d) (((), 0, 0, ()), [], ())) fun (d8 : ((Unit × Int × Unit) × ((List (Int × (List UInt8) × Unit)) × Unit))) =>
  bif (d.1 == ([] : List UInt8)) then
    some ([], 0, 0, ())
  else
  bif (d8.1.2.1 == (d.1.length : Int)) then
    some ([], (d.1.length : Int), 7, ())
  else
  chk (decide (0 ≤ d8.1.2.1 ∧ d8.1.2.1 ≤ (d.1.length : Int))) <|
  let s9 : List UInt8 := d.1.drop d8.1.2.1.toNat
  let a10 : List (Int × (List UInt8) × Unit) := ([(d8.1.2.1, s9, ())] : List (Int × (List UInt8) × Unit))
  chk (decide (d8.2.1.length + a10.length ≤ LIM)) <|
  let a11 : List (Int × (List UInt8) × Unit) := d8.2.1 ++ a10
  some (a11, 0, 0, ())
noncomputable def sig_word_Split : Sig := ⟨[.str], [.own 67 (.pair (.int .i64) (.pair .str .unit)), .val (.int .i64), .val (.int .i64)], word_Split⟩
noncomputable def env_word_Split : Env := fun g => []
def ann_word_Split : Ann := fun p => bif Nat.beq p 61 then some ⟨[(5, (.ref 8 (.pair (.int .i64) (.pair .str .unit)))), (6, (.int .i64)), (11, (.int .i64))], [(8, .arr 67 (.pair (.int .i64) (.pair .str .unit)))], [], [], [2, 3, 4, 7, 8, 12, 13, 14, 15, 16, 17, 18, 19, 20, 21, 22, 23, 24, 25, 26, 27, 28, 29, 30, 31, 32, 33, 34, 35, 36, 37, 38, 39, 40, 41, 42, 43, 44], 9⟩ else bif Nat.beq p 15 then some ⟨[(5, (.ref 5 (.pair (.int .i64) (.pair .str .unit)))), (6, (.int .i64))], [(5, .arr 67 (.pair (.int .i64) (.pair .str .unit)))], [], [], [2, 3, 4, 7, 8, 9, 10, 11, 12, 13, 14, 15, 16, 17, 18, 19, 20, 21, 22, 23, 24, 25, 26, 27, 28, 29, 30, 31, 32, 33, 34, 35, 36, 37, 38, 39, 40, 41, 42, 43, 44], 6⟩ else none
theorem envok_word_Split : EnvOK Tryz.prog (Laid Tryz.prog) env_word_Split := fun g s hs => by cases hs
theorem den_word_Split (d : ShD sig_word_Split.ins) : sig_word_Split.f d = funDen tt env_word_Split ann_word_Split Tryz.f25 sig_word_Split.ins sig_word_Split.outs d := by kernel_rfl
theorem ok_word_Split : SigOK Tryz.prog (Laid Tryz.prog) 25 sig_word_Split := sig_of hT hS envok_word_Split mixed ann_word_Split Tryz.func25 (by kernel_rfl) den_word_Split

noncomputable def word_decimal_L13 (d : (List UInt8) × Unit) (d1 : ((Int × Unit) × (Unit))) : Option (((Int × Unit) × (Unit)) ⊕ (((Unit) × (Unit)) ⊕ (Bool × Unit))) :=
  bif decide (d1.1.1 < (d.1.length : Int)) then
    (geti d.1 d1.1.1).bind fun (c2 : UInt8) =>
    Option.bind (bif !(decide ((c2.toNat : Int) < 48)) then
      (geti d.1 d1.1.1).bind fun (c3 : UInt8) =>
      some (decide ((c3.toNat : Int) > 57))
    else some true) fun (b4 : Bool) =>
    bif b4 then
      some (.inr (.inr (false, ())))
    else
    some (.inl ((w64 (d1.1.1 + 1), ()), ()))
  else
  some (.inr (.inl ((), ())))
noncomputable def word_decimal (d : (List UInt8) × Unit) : Option (Bool × Unit) :=
  joinS (
    iterW (ρ := ((Unit) × (Unit)) ⊕ (Bool × Unit)) (word_decimal_L13 d) ((0, ()), ())) fun (d5 : ((Unit) × (Unit))) =>
  Option.bind (bif !(d.1 == ([48] : List UInt8)) then
    Option.bind (bif !(d.1 == ([] : List UInt8)) then
      (geti d.1 0).bind fun (c6 : UInt8) =>
      some ((c6.toNat : Int) != 48)
    else some false) fun (b7 : Bool) =>
    some b7
  else some true) fun (b8 : Bool) =>
  some (b8, ())
noncomputable def sig_word_decimal : Sig := ⟨[.str], [.val .bool], word_decimal⟩
noncomputable def env_word_decimal : Env := fun g => []
def ann_word_decimal : Ann := fun p => bif Nat.beq p 13 then some ⟨[(6, (.int .i64))], [], [], [], [2, 3, 7, 8, 9, 10, 11, 12, 13, 14, 15, 16, 17, 18, 19], 4⟩ else bif Nat.beq p 3 then some ⟨[], [], [], [], [2, 3, 4, 5, 6, 7, 8, 9, 10, 11, 12, 13, 14, 15, 16, 17, 18, 19], 1⟩ else none
theorem envok_word_decimal : EnvOK Tryz.prog (Laid Tryz.prog) env_word_decimal := fun g s hs => by cases hs
theorem den_word_decimal (d : ShD sig_word_decimal.ins) : sig_word_decimal.f d = funDen tt env_word_decimal ann_word_decimal Tryz.f76 sig_word_decimal.ins sig_word_decimal.outs d := by kernel_rfl
theorem ok_word_decimal : SigOK Tryz.prog (Laid Tryz.prog) 76 sig_word_decimal := sig_of hT hS envok_word_decimal mixed ann_word_decimal Tryz.func76 (by kernel_rfl) den_word_decimal

noncomputable def word_Number (d : (List UInt8) × Int × Unit) : Option (Int × Int × Unit) :=
  (word_decimal (d.1, ())).bind fun (r1 : Bool × Unit) =>
  bif !r1.1 then
    some (0, 7, ())
  else
  (sig_ParseInt.f (d.1, 10, 64, ())).bind fun (r2 : Int × Bool × Unit) =>
  Option.bind (bif !r2.2.1 then
    some (decide (r2.1 > d.2.1))
  else some true) fun (b3 : Bool) =>
  bif b3 then
    some (0, 4, ())
  else
  some (r2.1, 0, ())
noncomputable def sig_word_Number : Sig := ⟨[.str, (.int .i64)], [.val (.int .i64), .val (.int .i64)], word_Number⟩
noncomputable def env_word_Number : Env := fun g => bif Nat.beq g 76 then [sig_word_decimal] else bif Nat.beq g 84 then [sig_ParseInt] else []
def ann_word_Number : Ann := fun p => none
theorem envok_word_Number : EnvOK Tryz.prog (Laid Tryz.prog) env_word_Number := fun g s hs => by
  simp only [env_word_Number] at hs
  cases hg : Nat.beq g 76 with
  | true =>
    rw [hg, cond_true] at hs
    obtain rfl := Nat.eq_of_beq_eq_true hg
    simp only [List.mem_cons, List.not_mem_nil, or_false] at hs
    rcases hs with rfl
    · exact ok_word_decimal
  | false =>
  rw [hg, cond_false] at hs
  cases hg : Nat.beq g 84 with
  | true =>
    rw [hg, cond_true] at hs
    obtain rfl := Nat.eq_of_beq_eq_true hg
    simp only [List.mem_cons, List.not_mem_nil, or_false] at hs
    rcases hs with rfl
    · exact okL_ParseInt
  | false =>
  rw [hg, cond_false] at hs
  cases hs
theorem den_word_Number (d : ShD sig_word_Number.ins) : sig_word_Number.f d = funDen tt env_word_Number ann_word_Number Tryz.f73 sig_word_Number.ins sig_word_Number.outs d := by kernel_rfl
theorem ok_word_Number : SigOK Tryz.prog (Laid Tryz.prog) 73 sig_word_Number := sig_of hT hS envok_word_Number mixed ann_word_Number Tryz.func73 (by kernel_rfl) den_word_Number

noncomputable def paper_number (d : (List UInt8) × Unit) : Option (Int × Int × Unit) :=
  (word_Number (d.1, 1000000000, ())).bind fun (r1 : Int × Int × Unit) =>
  some (r1.1, r1.2.1, ())
noncomputable def sig_paper_number : Sig := ⟨[.str], [.val (.int .i64), .val (.int .i64)], paper_number⟩
noncomputable def env_paper_number : Env := fun g => bif Nat.beq g 73 then [sig_word_Number] else []
def ann_paper_number : Ann := fun p => none
theorem envok_paper_number : EnvOK Tryz.prog (Laid Tryz.prog) env_paper_number := fun g s hs => by
  simp only [env_paper_number] at hs
  cases hg : Nat.beq g 73 with
  | true =>
    rw [hg, cond_true] at hs
    obtain rfl := Nat.eq_of_beq_eq_true hg
    simp only [List.mem_cons, List.not_mem_nil, or_false] at hs
    rcases hs with rfl
    · exact ok_word_Number
  | false =>
  rw [hg, cond_false] at hs
  cases hs
theorem den_paper_number (d : ShD sig_paper_number.ins) : sig_paper_number.f d = funDen tt env_paper_number ann_paper_number Tryz.f71 sig_paper_number.ins sig_paper_number.outs d := by kernel_rfl
theorem ok_paper_number : SigOK Tryz.prog (Laid Tryz.prog) 71 sig_paper_number := sig_of hT hS envok_paper_number mixed ann_paper_number Tryz.func71 (by kernel_rfl) den_paper_number

noncomputable def internal_stringslite_HasPrefix (d : (List UInt8) × (List UInt8) × Unit) : Option (Bool × Unit) :=
  let x1 : Bool := decide ((d.1.length : Int) ≥ (d.2.1.length : Int))
  Option.bind (bif x1 then
    chk (decide (0 ≤ (d.2.1.length : Int) ∧ (d.2.1.length : Int) ≤ (d.1.length : Int))) <|
    let s2 : List UInt8 := d.1.take (d.2.1.length : Int).toNat
    some (s2 == d.2.1)
  else some false) fun (b3 : Bool) =>
  some (b3, ())
noncomputable def sig_internal_stringslite_HasPrefix : Sig := ⟨[.str, .str], [.val .bool], internal_stringslite_HasPrefix⟩
noncomputable def env_internal_stringslite_HasPrefix : Env := fun g => []
def ann_internal_stringslite_HasPrefix : Ann := fun p => none
theorem envok_internal_stringslite_HasPrefix : EnvOK Tryz.prog (Laid Tryz.prog) env_internal_stringslite_HasPrefix := fun g s hs => by cases hs
theorem den_internal_stringslite_HasPrefix (d : ShD sig_internal_stringslite_HasPrefix.ins) : sig_internal_stringslite_HasPrefix.f d = funDen tt env_internal_stringslite_HasPrefix ann_internal_stringslite_HasPrefix Tryz.f103 sig_internal_stringslite_HasPrefix.ins sig_internal_stringslite_HasPrefix.outs d := by kernel_rfl
theorem ok_internal_stringslite_HasPrefix : SigOK Tryz.prog (Laid Tryz.prog) 103 sig_internal_stringslite_HasPrefix := sig_of hT hS envok_internal_stringslite_HasPrefix mixed ann_internal_stringslite_HasPrefix Tryz.func103 (by kernel_rfl) den_internal_stringslite_HasPrefix

noncomputable def internal_stringslite_CutPrefix (d : (List UInt8) × (List UInt8) × Unit) : Option ((List UInt8) × Bool × Unit) :=
  (internal_stringslite_HasPrefix (d.1, d.2.1, ())).bind fun (r1 : Bool × Unit) =>
  bif !r1.1 then
    some (d.1, false, ())
  else
  chk (decide (0 ≤ (d.2.1.length : Int) ∧ (d.2.1.length : Int) ≤ (d.1.length : Int))) <|
  let s2 : List UInt8 := d.1.drop (d.2.1.length : Int).toNat
  some (s2, true, ())
noncomputable def sig_internal_stringslite_CutPrefix : Sig := ⟨[.str, .str], [.val .str, .val .bool], internal_stringslite_CutPrefix⟩
noncomputable def env_internal_stringslite_CutPrefix : Env := fun g => bif Nat.beq g 103 then [sig_internal_stringslite_HasPrefix] else []
def ann_internal_stringslite_CutPrefix : Ann := fun p => none
theorem envok_internal_stringslite_CutPrefix : EnvOK Tryz.prog (Laid Tryz.prog) env_internal_stringslite_CutPrefix := fun g s hs => by
  simp only [env_internal_stringslite_CutPrefix] at hs
  cases hg : Nat.beq g 103 with
  | true =>
    rw [hg, cond_true] at hs
    obtain rfl := Nat.eq_of_beq_eq_true hg
    simp only [List.mem_cons, List.not_mem_nil, or_false] at hs
    rcases hs with rfl
    · exact ok_internal_stringslite_HasPrefix
  | false =>
  rw [hg, cond_false] at hs
  cases hs
theorem den_internal_stringslite_CutPrefix (d : ShD sig_internal_stringslite_CutPrefix.ins) : sig_internal_stringslite_CutPrefix.f d = funDen tt env_internal_stringslite_CutPrefix ann_internal_stringslite_CutPrefix Tryz.f92 sig_internal_stringslite_CutPrefix.ins sig_internal_stringslite_CutPrefix.outs d := by kernel_rfl
theorem ok_internal_stringslite_CutPrefix : SigOK Tryz.prog (Laid Tryz.prog) 92 sig_internal_stringslite_CutPrefix := sig_of hT hS envok_internal_stringslite_CutPrefix mixed ann_internal_stringslite_CutPrefix Tryz.func92 (by kernel_rfl) den_internal_stringslite_CutPrefix

noncomputable def strings_CutPrefix (d : (List UInt8) × (List UInt8) × Unit) : Option ((List UInt8) × Bool × Unit) :=
  (internal_stringslite_CutPrefix (d.1, d.2.1, ())).bind fun (r1 : (List UInt8) × Bool × Unit) =>
  some (r1.1, r1.2.1, ())
noncomputable def sig_strings_CutPrefix : Sig := ⟨[.str, .str], [.val .str, .val .bool], strings_CutPrefix⟩
noncomputable def env_strings_CutPrefix : Env := fun g => bif Nat.beq g 92 then [sig_internal_stringslite_CutPrefix] else []
def ann_strings_CutPrefix : Ann := fun p => none
theorem envok_strings_CutPrefix : EnvOK Tryz.prog (Laid Tryz.prog) env_strings_CutPrefix := fun g s hs => by
  simp only [env_strings_CutPrefix] at hs
  cases hg : Nat.beq g 92 with
  | true =>
    rw [hg, cond_true] at hs
    obtain rfl := Nat.eq_of_beq_eq_true hg
    simp only [List.mem_cons, List.not_mem_nil, or_false] at hs
    rcases hs with rfl
    · exact ok_internal_stringslite_CutPrefix
  | false =>
  rw [hg, cond_false] at hs
  cases hs
theorem den_strings_CutPrefix (d : ShD sig_strings_CutPrefix.ins) : sig_strings_CutPrefix.f d = funDen tt env_strings_CutPrefix ann_strings_CutPrefix Tryz.f83 sig_strings_CutPrefix.ins sig_strings_CutPrefix.outs d := by kernel_rfl
theorem ok_strings_CutPrefix : SigOK Tryz.prog (Laid Tryz.prog) 83 sig_strings_CutPrefix := sig_of hT hS envok_strings_CutPrefix mixed ann_strings_CutPrefix Tryz.func83 (by kernel_rfl) den_strings_CutPrefix

noncomputable def paper_signed (d : (List UInt8) × Unit) : Option (Int × Int × Unit) :=
  (strings_CutPrefix (d.1, ([45] : List UInt8), ())).bind fun (r1 : (List UInt8) × Bool × Unit) =>
  (paper_number (r1.1, ())).bind fun (r2 : Int × Int × Unit) =>
  bif (r2.2.1 != 0) then
    some (0, r2.2.1, ())
  else
  Option.bind (bif r1.2.1 then
    some (r2.1 == 0)
  else some false) fun (b3 : Bool) =>
  bif b3 then
    some (0, 7, ())
  else
  bif r1.2.1 then
    some (w64 (0 - r2.1), 0, ())
  else
  some (r2.1, 0, ())
noncomputable def sig_paper_signed : Sig := ⟨[.str], [.val (.int .i64), .val (.int .i64)], paper_signed⟩
noncomputable def env_paper_signed : Env := fun g => bif Nat.beq g 83 then [sig_strings_CutPrefix] else bif Nat.beq g 71 then [sig_paper_number] else []
def ann_paper_signed : Ann := fun p => none
theorem envok_paper_signed : EnvOK Tryz.prog (Laid Tryz.prog) env_paper_signed := fun g s hs => by
  simp only [env_paper_signed] at hs
  cases hg : Nat.beq g 83 with
  | true =>
    rw [hg, cond_true] at hs
    obtain rfl := Nat.eq_of_beq_eq_true hg
    simp only [List.mem_cons, List.not_mem_nil, or_false] at hs
    rcases hs with rfl
    · exact ok_strings_CutPrefix
  | false =>
  rw [hg, cond_false] at hs
  cases hg : Nat.beq g 71 with
  | true =>
    rw [hg, cond_true] at hs
    obtain rfl := Nat.eq_of_beq_eq_true hg
    simp only [List.mem_cons, List.not_mem_nil, or_false] at hs
    rcases hs with rfl
    · exact ok_paper_number
  | false =>
  rw [hg, cond_false] at hs
  cases hs
theorem den_paper_signed (d : ShD sig_paper_signed.ins) : sig_paper_signed.f d = funDen tt env_paper_signed ann_paper_signed Tryz.f72 sig_paper_signed.ins sig_paper_signed.outs d := by kernel_rfl
theorem ok_paper_signed : SigOK Tryz.prog (Laid Tryz.prog) 72 sig_paper_signed := sig_of hT hS envok_paper_signed mixed ann_paper_signed Tryz.func72 (by kernel_rfl) den_paper_signed

noncomputable def internal_stringslite_Index (d : (List UInt8) × (List UInt8) × Unit) : Option (Int × Unit) :=
  Option.bind (bif !((d.2.1.length : Int) == 0) then
    some (d.2.1 == d.1)
  else some true) fun (b1 : Bool) =>
  bif b1 then
    some (0, ())
  else
  bif ((d.2.1.length : Int) == 1) then
    (geti d.2.1 0).bind fun (c2 : UInt8) =>
    (sig_IndexByteI.f (d.1, (c2.toNat : Int), ())).bind fun (r3 : Int × Unit) =>
    some (r3.1, ())
  else
  let x4 : Bool := decide ((d.2.1.length : Int) ≥ (d.1.length : Int))
  bif x4 then
    some (-1, ())
  else
  none
noncomputable def sig_internal_stringslite_Index : Sig := ⟨[.str, .str], [.val (.int .i64)], internal_stringslite_Index⟩
noncomputable def env_internal_stringslite_Index : Env := fun g => bif Nat.beq g 85 then [sig_IndexByteI] else []
def ann_internal_stringslite_Index : Ann := fun p => none
theorem envok_internal_stringslite_Index : EnvOK Tryz.prog (Laid Tryz.prog) env_internal_stringslite_Index := fun g s hs => by
  simp only [env_internal_stringslite_Index] at hs
  cases hg : Nat.beq g 85 with
  | true =>
    rw [hg, cond_true] at hs
    obtain rfl := Nat.eq_of_beq_eq_true hg
    simp only [List.mem_cons, List.not_mem_nil, or_false] at hs
    rcases hs with rfl
    · exact okL_IndexByteI
  | false =>
  rw [hg, cond_false] at hs
  cases hs
theorem den_internal_stringslite_Index (d : ShD sig_internal_stringslite_Index.ins) : sig_internal_stringslite_Index.f d = funDen tt env_internal_stringslite_Index ann_internal_stringslite_Index Tryz.f96 sig_internal_stringslite_Index.ins sig_internal_stringslite_Index.outs d := by kernel_rfl
theorem ok_internal_stringslite_Index : SigOK Tryz.prog (Laid Tryz.prog) 96 sig_internal_stringslite_Index := sig_of hT hS envok_internal_stringslite_Index mixed ann_internal_stringslite_Index Tryz.func96 (by kernel_rfl) den_internal_stringslite_Index

noncomputable def internal_stringslite_Cut (d : (List UInt8) × (List UInt8) × Unit) : Option ((List UInt8) × (List UInt8) × Bool × Unit) :=
  (internal_stringslite_Index (d.1, d.2.1, ())).bind fun (r1 : Int × Unit) =>
  bif decide (r1.1 ≥ 0) then
    chk (decide (0 ≤ r1.1 ∧ r1.1 ≤ (d.1.length : Int))) <|
    let s2 : List UInt8 := d.1.take r1.1.toNat
    chk (decide (0 ≤ (w64 (r1.1 + (d.2.1.length : Int))) ∧ (w64 (r1.1 + (d.2.1.length : Int))) ≤ (d.1.length : Int))) <|
    let s3 : List UInt8 := d.1.drop (w64 (r1.1 + (d.2.1.length : Int))).toNat
    some (s2, s3, true, ())
  else
  some (d.1, ([] : List UInt8), false, ())
noncomputable def sig_internal_stringslite_Cut : Sig := ⟨[.str, .str], [.val .str, .val .str, .val .bool], internal_stringslite_Cut⟩
noncomputable def env_internal_stringslite_Cut : Env := fun g => bif Nat.beq g 96 then [sig_internal_stringslite_Index] else []
def ann_internal_stringslite_Cut : Ann := fun p => none
theorem envok_internal_stringslite_Cut : EnvOK Tryz.prog (Laid Tryz.prog) env_internal_stringslite_Cut := fun g s hs => by
  simp only [env_internal_stringslite_Cut] at hs
  cases hg : Nat.beq g 96 with
  | true =>
    rw [hg, cond_true] at hs
    obtain rfl := Nat.eq_of_beq_eq_true hg
    simp only [List.mem_cons, List.not_mem_nil, or_false] at hs
    rcases hs with rfl
    · exact ok_internal_stringslite_Index
  | false =>
  rw [hg, cond_false] at hs
  cases hs
theorem den_internal_stringslite_Cut (d : ShD sig_internal_stringslite_Cut.ins) : sig_internal_stringslite_Cut.f d = funDen tt env_internal_stringslite_Cut ann_internal_stringslite_Cut Tryz.f86 sig_internal_stringslite_Cut.ins sig_internal_stringslite_Cut.outs d := by kernel_rfl
theorem ok_internal_stringslite_Cut : SigOK Tryz.prog (Laid Tryz.prog) 86 sig_internal_stringslite_Cut := sig_of hT hS envok_internal_stringslite_Cut mixed ann_internal_stringslite_Cut Tryz.func86 (by kernel_rfl) den_internal_stringslite_Cut

noncomputable def strings_Cut (d : (List UInt8) × (List UInt8) × Unit) : Option ((List UInt8) × (List UInt8) × Bool × Unit) :=
  (internal_stringslite_Cut (d.1, d.2.1, ())).bind fun (r1 : (List UInt8) × (List UInt8) × Bool × Unit) =>
  some (r1.1, r1.2.1, r1.2.2.1, ())
noncomputable def sig_strings_Cut : Sig := ⟨[.str, .str], [.val .str, .val .str, .val .bool], strings_Cut⟩
noncomputable def env_strings_Cut : Env := fun g => bif Nat.beq g 86 then [sig_internal_stringslite_Cut] else []
def ann_strings_Cut : Ann := fun p => none
theorem envok_strings_Cut : EnvOK Tryz.prog (Laid Tryz.prog) env_strings_Cut := fun g s hs => by
  simp only [env_strings_Cut] at hs
  cases hg : Nat.beq g 86 with
  | true =>
    rw [hg, cond_true] at hs
    obtain rfl := Nat.eq_of_beq_eq_true hg
    simp only [List.mem_cons, List.not_mem_nil, or_false] at hs
    rcases hs with rfl
    · exact ok_internal_stringslite_Cut
  | false =>
  rw [hg, cond_false] at hs
  cases hs
theorem den_strings_Cut (d : ShD sig_strings_Cut.ins) : sig_strings_Cut.f d = funDen tt env_strings_Cut ann_strings_Cut Tryz.f75 sig_strings_Cut.ins sig_strings_Cut.outs d := by kernel_rfl
theorem ok_strings_Cut : SigOK Tryz.prog (Laid Tryz.prog) 75 sig_strings_Cut := sig_of hT hS envok_strings_Cut mixed ann_strings_Cut Tryz.func75 (by kernel_rfl) den_strings_Cut

noncomputable def word_Span (d : (List UInt8) × Unit) : Option ((Int × Int × Unit) × Int × Unit) :=
  (strings_Cut (d.1, ([45] : List UInt8), ())).bind fun (r1 : (List UInt8) × (List UInt8) × Bool × Unit) =>
  (word_decimal (r1.1, ())).bind fun (r2 : Bool × Unit) =>
  Option.bind (bif !(!r2.1) then
    (word_decimal (r1.2.1, ())).bind fun (r3 : Bool × Unit) =>
    some (!r3.1)
  else some true) fun (b4 : Bool) =>
  bif b4 then
    some ((0, 0, ()), 7, ())
  else
  (word_Number (r1.1, 40320, ())).bind fun (r5 : Int × Int × Unit) =>
  bif (r5.2.1 != 0) then
    some ((0, 0, ()), r5.2.1, ())
  else
  (word_Number (r1.2.1, 40320, ())).bind fun (r6 : Int × Int × Unit) =>
  bif (r6.2.1 != 0) then
    some ((0, 0, ()), r6.2.1, ())
  else
  bif decide (r5.1 ≥ r6.1) then
    some ((0, 0, ()), 3, ())
  else
  some ((r5.1, r6.1, ()), 0, ())
noncomputable def sig_word_Span : Sig := ⟨[.str], [.val (.pair (.int .i64) (.pair (.int .i64) .unit)), .val (.int .i64)], word_Span⟩
noncomputable def env_word_Span : Env := fun g => bif Nat.beq g 75 then [sig_strings_Cut] else bif Nat.beq g 76 then [sig_word_decimal] else bif Nat.beq g 73 then [sig_word_Number] else []
def ann_word_Span : Ann := fun p => none
theorem envok_word_Span : EnvOK Tryz.prog (Laid Tryz.prog) env_word_Span := fun g s hs => by
  simp only [env_word_Span] at hs
  cases hg : Nat.beq g 75 with
  | true =>
    rw [hg, cond_true] at hs
    obtain rfl := Nat.eq_of_beq_eq_true hg
    simp only [List.mem_cons, List.not_mem_nil, or_false] at hs
    rcases hs with rfl
    · exact ok_strings_Cut
  | false =>
  rw [hg, cond_false] at hs
  cases hg : Nat.beq g 76 with
  | true =>
    rw [hg, cond_true] at hs
    obtain rfl := Nat.eq_of_beq_eq_true hg
    simp only [List.mem_cons, List.not_mem_nil, or_false] at hs
    rcases hs with rfl
    · exact ok_word_decimal
  | false =>
  rw [hg, cond_false] at hs
  cases hg : Nat.beq g 73 with
  | true =>
    rw [hg, cond_true] at hs
    obtain rfl := Nat.eq_of_beq_eq_true hg
    simp only [List.mem_cons, List.not_mem_nil, or_false] at hs
    rcases hs with rfl
    · exact ok_word_Number
  | false =>
  rw [hg, cond_false] at hs
  cases hs
theorem den_word_Span (d : ShD sig_word_Span.ins) : sig_word_Span.f d = funDen tt env_word_Span ann_word_Span Tryz.f56 sig_word_Span.ins sig_word_Span.outs d := by kernel_rfl
theorem ok_word_Span : SigOK Tryz.prog (Laid Tryz.prog) 56 sig_word_Span := sig_of hT hS envok_word_Span mixed ann_word_Span Tryz.func56 (by kernel_rfl) den_word_Span

noncomputable def paper_order_L253 (s13 : List (Int × (List UInt8) × Unit)) (d14 : ((Int × Unit) × ((Int × Int × Int × Int × Unit × Unit) × (Int × Int × Int × Int × Unit × Unit) × (List (Int × Int × Unit)) × Unit))) : Option (((Int × Unit) × ((Int × Int × Int × Int × Unit × Unit) × (Int × Int × Int × Int × Unit × Unit) × (List (Int × Int × Unit)) × Unit)) ⊕ ((Int × Int × Int × Int × (List (Int × Int × Unit)) × Unit) × Int × Unit)) :=
  bif decide (d14.1.1 < (s13.length : Int)) then
    (geti s13 d14.1.1).bind fun (e15 : Int × (List UInt8) × Unit) =>
    (word_Span (e15.2.1, ())).bind fun (r16 : (Int × Int × Unit) × Int × Unit) =>
    bif (r16.2.1 != 0) then
      some (.inr ((0, 0, 0, 0, [], ()), r16.2.1, ()))
    else
    let a17 : List (Int × Int × Unit) := ([(r16.1.1, r16.1.2.1, ())] : List (Int × Int × Unit))
    chk (decide (d14.2.2.2.1.length + a17.length ≤ LIM)) <|
    let a18 : List (Int × Int × Unit) := d14.2.2.2.1 ++ a17
    some (.inl ((w64 (d14.1.1 + 1), ()), d14.2.1, (d14.2.2.1.1, d14.2.2.1.2.1, d14.2.2.1.2.2.1, d14.2.2.1.2.2.2.1, (), d14.2.2.1.2.2.2.2.2), a18, ()))
  else
  some (.inr ((d14.2.2.1.1, d14.2.2.1.2.1, d14.2.2.1.2.2.1, d14.2.2.1.2.2.2.1, d14.2.2.2.1, ()), 0, ()))
noncomputable def paper_order (d : (List (Int × (List UInt8) × Unit)) × Unit) : Option ((Int × Int × Int × Int × (List (Int × Int × Unit)) × Unit) × Int × Unit) :=
  Option.bind (bif !(decide ((d.1.length : Int) < 5)) then
    (geti d.1 0).bind fun (e1 : Int × (List UInt8) × Unit) =>
    let x2 : Bool := !(e1.2.1 == ([111, 114, 100, 101, 114] : List UInt8))
    some x2
  else some true) fun (b3 : Bool) =>
  bif b3 then
    some ((0, 0, 0, 0, [], ()), 7, ())
  else
  joinS (
    (geti d.1 1).bind fun (e4 : Int × (List UInt8) × Unit) =>
    (paper_number (e4.2.1, ())).bind fun (r5 : Int × Int × Unit) =>
    bif (r5.2.1 != 0) then
      some (.inr ((0, 0, 0, 0, [], ()), r5.2.1, ()))
    else
    (geti d.1 2).bind fun (e6 : Int × (List UInt8) × Unit) =>
    (paper_number (e6.2.1, ())).bind fun (r7 : Int × Int × Unit) =>
    bif (r7.2.1 != 0) then
      some (.inr ((0, 0, 0, 0, [], ()), r7.2.1, ()))
    else
    (geti d.1 3).bind fun (e8 : Int × (List UInt8) × Unit) =>
    (paper_signed (e8.2.1, ())).bind fun (r9 : Int × Int × Unit) =>
    bif (r9.2.1 != 0) then
      some (.inr ((0, 0, 0, 0, [], ()), r9.2.1, ()))
    else
    (geti d.1 4).bind fun (e10 : Int × (List UInt8) × Unit) =>
    (paper_number (e10.2.1, ())).bind fun (r11 : Int × Int × Unit) =>
    bif (r11.2.1 != 0) then
      some (.inr ((0, 0, 0, 0, [], ()), r11.2.1, ()))
    else
    some (.inl ((), (0, 0, 0, 0, (), ()), (r5.1, r7.1, r9.1, r11.1, ()), ()))) fun (d12 : ((Unit) × ((Int × Int × Int × Int × Unit × Unit) × (Int × Int × Int × Int × Unit) × Unit))) =>
  chk (decide (0 ≤ (5 : Int) ∧ (5 : Int) ≤ (d.1.length : Int))) <|
  let s13 : List (Int × (List UInt8) × Unit) := d.1.drop (5 : Int).toNat
  iterW (ρ := (Int × Int × Int × Int × (List (Int × Int × Unit)) × Unit) × Int × Unit) (paper_order_L253 s13) ((0, ()), d12.2.1, (d12.2.2.1.1, d12.2.2.1.2.1, d12.2.2.1.2.2.1, d12.2.2.1.2.2.2.1, (), ()), [], ())
noncomputable def sig_paper_order : Sig := ⟨[(.slice (.pair (.int .i64) (.pair .str .unit)))], [.val (.pair (.int .i64) (.pair (.int .i64) (.pair (.int .i64) (.pair (.int .i64) (.pair (.slice (.pair (.int .i64) (.pair (.int .i64) .unit))) .unit))))), .val (.int .i64)], paper_order⟩
noncomputable def env_paper_order : Env := fun g => bif Nat.beq g 71 then [sig_paper_number] else bif Nat.beq g 72 then [sig_paper_signed] else bif Nat.beq g 56 then [sig_word_Span] else []
def ann_paper_order : Ann := fun p => bif Nat.beq p 15 then some ⟨[], [(0, .box (.pair (.int .i64) (.pair (.int .i64) (.pair (.int .i64) (.pair (.int .i64) (.pair .nil .unit)))))), (7, .box (.pair (.int .i64) (.pair (.int .i64) (.pair (.int .i64) (.pair (.int .i64) .unit)))))], [0, 7], [], [3, 5, 6, 7, 8, 25, 26, 27, 28, 29, 30, 31, 32, 33, 34, 35, 36, 37, 38, 39, 40, 41, 42, 43, 44, 45, 46, 47, 48], 8⟩ else bif Nat.beq p 253 then some ⟨[(61, (.int .i64))], [(0, .box (.pair (.int .i64) (.pair (.int .i64) (.pair (.int .i64) (.pair (.int .i64) (.pair .nil .unit)))))), (17, .box (.pair (.int .i64) (.pair (.int .i64) (.pair (.int .i64) (.pair (.int .i64) (.pair (.ref 23 (.pair (.int .i64) (.pair (.int .i64) .unit))) .unit)))))), (23, .arr 62 (.pair (.int .i64) (.pair (.int .i64) .unit)))], [0, 17], [], [3, 11, 12, 13, 62, 63, 64, 65, 66, 67, 68, 69, 70, 71, 72, 73, 74, 75, 76, 77, 78, 79, 80, 81], 24⟩ else none
theorem envok_paper_order : EnvOK Tryz.prog (Laid Tryz.prog) env_paper_order := fun g s hs => by
  simp only [env_paper_order] at hs
  cases hg : Nat.beq g 71 with
  | true =>
    rw [hg, cond_true] at hs
    obtain rfl := Nat.eq_of_beq_eq_true hg
    simp only [List.mem_cons, List.not_mem_nil, or_false] at hs
    rcases hs with rfl
    · exact ok_paper_number
  | false =>
  rw [hg, cond_false] at hs
  cases hg : Nat.beq g 72 with
  | true =>
    rw [hg, cond_true] at hs
    obtain rfl := Nat.eq_of_beq_eq_true hg
    simp only [List.mem_cons, List.not_mem_nil, or_false] at hs
    rcases hs with rfl
    · exact ok_paper_signed
  | false =>
  rw [hg, cond_false] at hs
  cases hg : Nat.beq g 56 with
  | true =>
    rw [hg, cond_true] at hs
    obtain rfl := Nat.eq_of_beq_eq_true hg
    simp only [List.mem_cons, List.not_mem_nil, or_false] at hs
    rcases hs with rfl
    · exact ok_word_Span
  | false =>
  rw [hg, cond_false] at hs
  cases hs
theorem den_paper_order (d : ShD sig_paper_order.ins) : sig_paper_order.f d = funDen tt env_paper_order ann_paper_order Tryz.f53 sig_paper_order.ins sig_paper_order.outs d := by kernel_rfl
theorem ok_paper_order : SigOK Tryz.prog (Laid Tryz.prog) 53 sig_paper_order := sig_of hT hS envok_paper_order mixed ann_paper_order Tryz.func53 (by kernel_rfl) den_paper_order

noncomputable def paper_Read (d : (List UInt8) × Unit) : Option ((Int × Int × Int × Int × (List (Int × Int × Unit)) × Unit) × Int × Unit) :=
  (word_Split (d.1, ())).bind fun (r1 : (List (Int × (List UInt8) × Unit)) × Int × Int × Unit) =>
  bif (r1.2.2.1 != 0) then
    some ((0, 0, 0, 0, [], ()), r1.2.2.1, ())
  else
  (paper_order (r1.1, ())).bind fun (r2 : (Int × Int × Int × Int × (List (Int × Int × Unit)) × Unit) × Int × Unit) =>
  some ((r2.1.1, r2.1.2.1, r2.1.2.2.1, r2.1.2.2.2.1, r2.1.2.2.2.2.1, ()), r2.2.1, ())
noncomputable def sig_paper_Read : Sig := ⟨[.str], [.val (.pair (.int .i64) (.pair (.int .i64) (.pair (.int .i64) (.pair (.int .i64) (.pair (.slice (.pair (.int .i64) (.pair (.int .i64) .unit))) .unit))))), .val (.int .i64)], paper_Read⟩
noncomputable def env_paper_Read : Env := fun g => bif Nat.beq g 25 then [sig_word_Split] else bif Nat.beq g 53 then [sig_paper_order] else []
def ann_paper_Read : Ann := fun p => none
theorem envok_paper_Read : EnvOK Tryz.prog (Laid Tryz.prog) env_paper_Read := fun g s hs => by
  simp only [env_paper_Read] at hs
  cases hg : Nat.beq g 25 with
  | true =>
    rw [hg, cond_true] at hs
    obtain rfl := Nat.eq_of_beq_eq_true hg
    simp only [List.mem_cons, List.not_mem_nil, or_false] at hs
    rcases hs with rfl
    · exact ok_word_Split
  | false =>
  rw [hg, cond_false] at hs
  cases hg : Nat.beq g 53 with
  | true =>
    rw [hg, cond_true] at hs
    obtain rfl := Nat.eq_of_beq_eq_true hg
    simp only [List.mem_cons, List.not_mem_nil, or_false] at hs
    rcases hs with rfl
    · exact ok_paper_order
  | false =>
  rw [hg, cond_false] at hs
  cases hs
theorem den_paper_Read (d : ShD sig_paper_Read.ins) : sig_paper_Read.f d = funDen tt env_paper_Read ann_paper_Read Tryz.f26 sig_paper_Read.ins sig_paper_Read.outs d := by kernel_rfl
theorem ok_paper_Read : SigOK Tryz.prog (Laid Tryz.prog) 26 sig_paper_Read := sig_of hT hS envok_paper_Read mixed ann_paper_Read Tryz.func26 (by kernel_rfl) den_paper_Read

noncomputable def script_all_L29 (d : (List (Int × (List UInt8) × Unit)) × Unit) (d1 : ((Unit × Int × Unit) × ((List Int) × Unit))) : Option (((Unit × Int × Unit) × ((List Int) × Unit)) ⊕ ((List Int) × Int × Unit)) :=
  bif decide (d1.1.2.1 < (d.1.length : Int)) then
    (geti d.1 d1.1.2.1).bind fun (e2 : Int × (List UInt8) × Unit) =>
    (word_Number (e2.2.1, 1000000000, ())).bind fun (r3 : Int × Int × Unit) =>
    bif (r3.2.1 != 0) then
      some (.inr ([], r3.2.1, ()))
    else
    let a4 : List Int := ([r3.1] : List Int)
    chk (decide (d1.2.1.length + a4.length ≤ LIM)) <|
    let a5 : List Int := d1.2.1 ++ a4
    some (.inl (((), w64 (d1.1.2.1 + 1), ()), a5, ()))
  else
  some (.inr (d1.2.1, 0, ()))
noncomputable def script_all (d : (List (Int × (List UInt8) × Unit)) × Unit) : Option ((List Int) × Int × Unit) :=
  iterW (ρ := (List Int) × Int × Unit) (script_all_L29 d) (((), 0, ()), [], ())
noncomputable def sig_script_all : Sig := ⟨[(.slice (.pair (.int .i64) (.pair .str .unit)))], [.own 3 (.int .i64), .val (.int .i64)], script_all⟩
noncomputable def env_script_all : Env := fun g => bif Nat.beq g 73 then [sig_word_Number] else []
def ann_script_all : Ann := fun p => bif Nat.beq p 29 then some ⟨[(4, (.ref 6 (.int .i64))), (11, (.int .i64))], [(6, .arr 3 (.int .i64))], [], [], [2, 3, 6, 7, 8, 12, 13, 14, 15, 16, 17, 18, 19, 20, 21, 22, 23, 24, 25, 26, 27, 28], 7⟩ else none
theorem envok_script_all : EnvOK Tryz.prog (Laid Tryz.prog) env_script_all := fun g s hs => by
  simp only [env_script_all] at hs
  cases hg : Nat.beq g 73 with
  | true =>
    rw [hg, cond_true] at hs
    obtain rfl := Nat.eq_of_beq_eq_true hg
    simp only [List.mem_cons, List.not_mem_nil, or_false] at hs
    rcases hs with rfl
    · exact ok_word_Number
  | false =>
  rw [hg, cond_false] at hs
  cases hs
theorem den_script_all (d : ShD sig_script_all.ins) : sig_script_all.f d = funDen tt env_script_all ann_script_all Tryz.f54 sig_script_all.ins sig_script_all.outs d := by kernel_rfl
theorem ok_script_all : SigOK Tryz.prog (Laid Tryz.prog) 54 sig_script_all := sig_of hT hS envok_script_all mixed ann_script_all Tryz.func54 (by kernel_rfl) den_script_all

noncomputable def script_Read_1 (d : (List Int) × Unit) : Option ((Int × Int × Int × Int × Int × (List (Int × Int × Unit)) × Int × (List (Int × Int × Int × Unit)) × Int × Int × Int × Int × (List Int) × Unit) × Unit) :=
  (geti d.1 0).bind fun (e1 : Int) =>
  some ((2, 0, 0, 0, 0, [], e1, [], 0, 0, 0, 0, [], ()), ())
noncomputable def sig_script_Read_1 : Sig := ⟨[(.slice (.int .i64))], [.val (.pair (.int .i64) (.pair (.int .i64) (.pair (.int .i64) (.pair (.int .i64) (.pair (.int .i64) (.pair (.slice (.pair (.int .i64) (.pair (.int .i64) .unit))) (.pair (.int .i64) (.pair (.slice (.pair (.int .i64) (.pair (.int .i64) (.pair (.int .i64) .unit)))) (.pair (.int .i64) (.pair (.int .i64) (.pair (.int .i64) (.pair (.int .i64) (.pair (.slice (.int .i64)) .unit)))))))))))))], script_Read_1⟩
noncomputable def env_script_Read_1 : Env := fun g => []
def ann_script_Read_1 : Ann := fun p => none
theorem envok_script_Read_1 : EnvOK Tryz.prog (Laid Tryz.prog) env_script_Read_1 := fun g s hs => by cases hs
theorem den_script_Read_1 (d : ShD sig_script_Read_1.ins) : sig_script_Read_1.f d = funDen tt env_script_Read_1 ann_script_Read_1 Tryz.f28 sig_script_Read_1.ins sig_script_Read_1.outs d := by kernel_rfl
theorem ok_script_Read_1 : SigOK Tryz.prog (Laid Tryz.prog) 28 sig_script_Read_1 := sig_of hT hS envok_script_Read_1 mixed ann_script_Read_1 Tryz.func28 (by kernel_rfl) den_script_Read_1

noncomputable def script_counted (d : (List (Int × (List UInt8) × Unit)) × Int × Bool × Unit × Unit) : Option ((Int × Int × Int × Int × Int × (List (Int × Int × Unit)) × Int × (List (Int × Int × Int × Unit)) × Int × Int × Int × Int × (List Int) × Unit) × Int × Unit) :=
  let x1 : Bool := decide ((d.1.length : Int) < (w64 (d.2.1 + 1)))
  Option.bind (bif !x1 then
    let x2 : Bool := decide ((d.1.length : Int) > (w64 (d.2.1 + 1)))
    Option.bind (bif x2 then
      some (!d.2.2.1)
    else some false) fun (b3 : Bool) =>
    some b3
  else some true) fun (b4 : Bool) =>
  bif b4 then
    some ((0, 0, 0, 0, 0, [], 0, [], 0, 0, 0, 0, [], ()), 7, ())
  else
  chk (decide (0 ≤ (1 : Int) ∧ (1 : Int) ≤ (d.1.length : Int))) <|
  let s5 : List (Int × (List UInt8) × Unit) := d.1.drop (1 : Int).toNat
  (script_all (s5, ())).bind fun (r6 : (List Int) × Int × Unit) =>
  bif (r6.2.1 != 0) then
    some ((0, 0, 0, 0, 0, [], 0, [], 0, 0, 0, 0, [], ()), r6.2.1, ())
  else
  (script_Read_1 (r6.1, ())).bind fun (r7 : (Int × Int × Int × Int × Int × (List (Int × Int × Unit)) × Int × (List (Int × Int × Int × Unit)) × Int × Int × Int × Int × (List Int) × Unit) × Unit) =>
  some ((r7.1.1, r7.1.2.1, r7.1.2.2.1, r7.1.2.2.2.1, r7.1.2.2.2.2.1, r7.1.2.2.2.2.2.1, r7.1.2.2.2.2.2.2.1, r7.1.2.2.2.2.2.2.2.1, r7.1.2.2.2.2.2.2.2.2.1, r7.1.2.2.2.2.2.2.2.2.2.1, r7.1.2.2.2.2.2.2.2.2.2.2.1, r7.1.2.2.2.2.2.2.2.2.2.2.2.1, r7.1.2.2.2.2.2.2.2.2.2.2.2.2.1, ()), 0, ())
noncomputable def sig_script_counted : Sig := ⟨[(.slice (.pair (.int .i64) (.pair .str .unit))), (.int .i64), .bool, (.fn 28 .unit)], [.val (.pair (.int .i64) (.pair (.int .i64) (.pair (.int .i64) (.pair (.int .i64) (.pair (.int .i64) (.pair (.slice (.pair (.int .i64) (.pair (.int .i64) .unit))) (.pair (.int .i64) (.pair (.slice (.pair (.int .i64) (.pair (.int .i64) (.pair (.int .i64) .unit)))) (.pair (.int .i64) (.pair (.int .i64) (.pair (.int .i64) (.pair (.int .i64) (.pair (.slice (.int .i64)) .unit))))))))))))), .val (.int .i64)], script_counted⟩
noncomputable def env_script_counted : Env := fun g => bif Nat.beq g 54 then [sig_script_all] else bif Nat.beq g 28 then [sig_script_Read_1] else []
def ann_script_counted : Ann := fun p => none
theorem envok_script_counted : EnvOK Tryz.prog (Laid Tryz.prog) env_script_counted := fun g s hs => by
  simp only [env_script_counted] at hs
  cases hg : Nat.beq g 54 with
  | true =>
    rw [hg, cond_true] at hs
    obtain rfl := Nat.eq_of_beq_eq_true hg
    simp only [List.mem_cons, List.not_mem_nil, or_false] at hs
    rcases hs with rfl
    · exact ok_script_all
  | false =>
  rw [hg, cond_false] at hs
  cases hg : Nat.beq g 28 with
  | true =>
    rw [hg, cond_true] at hs
    obtain rfl := Nat.eq_of_beq_eq_true hg
    simp only [List.mem_cons, List.not_mem_nil, or_false] at hs
    rcases hs with rfl
    · exact ok_script_Read_1
  | false =>
  rw [hg, cond_false] at hs
  cases hs
theorem den_script_counted (d : ShD sig_script_counted.ins) : sig_script_counted.f d = funDen tt env_script_counted ann_script_counted Tryz.f27 sig_script_counted.ins sig_script_counted.outs d := by kernel_rfl
theorem ok_script_counted : SigOK Tryz.prog (Laid Tryz.prog) 27 sig_script_counted := sig_of hT hS envok_script_counted mixed ann_script_counted Tryz.func27 (by kernel_rfl) den_script_counted

noncomputable def script_Read_2 (d : (List Int) × Unit) : Option ((Int × Int × Int × Int × Int × (List (Int × Int × Unit)) × Int × (List (Int × Int × Int × Unit)) × Int × Int × Int × Int × (List Int) × Unit) × Unit) :=
  (geti d.1 0).bind fun (e1 : Int) =>
  some ((4, 0, 0, 0, 0, [], 0, [], e1, 0, 0, 0, [], ()), ())
noncomputable def sig_script_Read_2 : Sig := ⟨[(.slice (.int .i64))], [.val (.pair (.int .i64) (.pair (.int .i64) (.pair (.int .i64) (.pair (.int .i64) (.pair (.int .i64) (.pair (.slice (.pair (.int .i64) (.pair (.int .i64) .unit))) (.pair (.int .i64) (.pair (.slice (.pair (.int .i64) (.pair (.int .i64) (.pair (.int .i64) .unit)))) (.pair (.int .i64) (.pair (.int .i64) (.pair (.int .i64) (.pair (.int .i64) (.pair (.slice (.int .i64)) .unit)))))))))))))], script_Read_2⟩
noncomputable def env_script_Read_2 : Env := fun g => []
def ann_script_Read_2 : Ann := fun p => none
theorem envok_script_Read_2 : EnvOK Tryz.prog (Laid Tryz.prog) env_script_Read_2 := fun g s hs => by cases hs
theorem den_script_Read_2 (d : ShD sig_script_Read_2.ins) : sig_script_Read_2.f d = funDen tt env_script_Read_2 ann_script_Read_2 Tryz.f30 sig_script_Read_2.ins sig_script_Read_2.outs d := by kernel_rfl
theorem ok_script_Read_2 : SigOK Tryz.prog (Laid Tryz.prog) 30 sig_script_Read_2 := sig_of hT hS envok_script_Read_2 mixed ann_script_Read_2 Tryz.func30 (by kernel_rfl) den_script_Read_2

noncomputable def script_counted_v1 (d : (List (Int × (List UInt8) × Unit)) × Int × Bool × Unit × Unit) : Option ((Int × Int × Int × Int × Int × (List (Int × Int × Unit)) × Int × (List (Int × Int × Int × Unit)) × Int × Int × Int × Int × (List Int) × Unit) × Int × Unit) :=
  let x1 : Bool := decide ((d.1.length : Int) < (w64 (d.2.1 + 1)))
  Option.bind (bif !x1 then
    let x2 : Bool := decide ((d.1.length : Int) > (w64 (d.2.1 + 1)))
    Option.bind (bif x2 then
      some (!d.2.2.1)
    else some false) fun (b3 : Bool) =>
    some b3
  else some true) fun (b4 : Bool) =>
  bif b4 then
    some ((0, 0, 0, 0, 0, [], 0, [], 0, 0, 0, 0, [], ()), 7, ())
  else
  chk (decide (0 ≤ (1 : Int) ∧ (1 : Int) ≤ (d.1.length : Int))) <|
  let s5 : List (Int × (List UInt8) × Unit) := d.1.drop (1 : Int).toNat
  (script_all (s5, ())).bind fun (r6 : (List Int) × Int × Unit) =>
  bif (r6.2.1 != 0) then
    some ((0, 0, 0, 0, 0, [], 0, [], 0, 0, 0, 0, [], ()), r6.2.1, ())
  else
  (script_Read_2 (r6.1, ())).bind fun (r7 : (Int × Int × Int × Int × Int × (List (Int × Int × Unit)) × Int × (List (Int × Int × Int × Unit)) × Int × Int × Int × Int × (List Int) × Unit) × Unit) =>
  some ((r7.1.1, r7.1.2.1, r7.1.2.2.1, r7.1.2.2.2.1, r7.1.2.2.2.2.1, r7.1.2.2.2.2.2.1, r7.1.2.2.2.2.2.2.1, r7.1.2.2.2.2.2.2.2.1, r7.1.2.2.2.2.2.2.2.2.1, r7.1.2.2.2.2.2.2.2.2.2.1, r7.1.2.2.2.2.2.2.2.2.2.2.1, r7.1.2.2.2.2.2.2.2.2.2.2.2.1, r7.1.2.2.2.2.2.2.2.2.2.2.2.2.1, ()), 0, ())
noncomputable def sig_script_counted_v1 : Sig := ⟨[(.slice (.pair (.int .i64) (.pair .str .unit))), (.int .i64), .bool, (.fn 30 .unit)], [.val (.pair (.int .i64) (.pair (.int .i64) (.pair (.int .i64) (.pair (.int .i64) (.pair (.int .i64) (.pair (.slice (.pair (.int .i64) (.pair (.int .i64) .unit))) (.pair (.int .i64) (.pair (.slice (.pair (.int .i64) (.pair (.int .i64) (.pair (.int .i64) .unit)))) (.pair (.int .i64) (.pair (.int .i64) (.pair (.int .i64) (.pair (.int .i64) (.pair (.slice (.int .i64)) .unit))))))))))))), .val (.int .i64)], script_counted_v1⟩
noncomputable def env_script_counted_v1 : Env := fun g => bif Nat.beq g 54 then [sig_script_all] else bif Nat.beq g 30 then [sig_script_Read_2] else []
def ann_script_counted_v1 : Ann := fun p => none
theorem envok_script_counted_v1 : EnvOK Tryz.prog (Laid Tryz.prog) env_script_counted_v1 := fun g s hs => by
  simp only [env_script_counted_v1] at hs
  cases hg : Nat.beq g 54 with
  | true =>
    rw [hg, cond_true] at hs
    obtain rfl := Nat.eq_of_beq_eq_true hg
    simp only [List.mem_cons, List.not_mem_nil, or_false] at hs
    rcases hs with rfl
    · exact ok_script_all
  | false =>
  rw [hg, cond_false] at hs
  cases hg : Nat.beq g 30 with
  | true =>
    rw [hg, cond_true] at hs
    obtain rfl := Nat.eq_of_beq_eq_true hg
    simp only [List.mem_cons, List.not_mem_nil, or_false] at hs
    rcases hs with rfl
    · exact ok_script_Read_2
  | false =>
  rw [hg, cond_false] at hs
  cases hs
theorem den_script_counted_v1 (d : ShD sig_script_counted_v1.ins) : sig_script_counted_v1.f d = funDen tt env_script_counted_v1 ann_script_counted_v1 Tryz.f27 sig_script_counted_v1.ins sig_script_counted_v1.outs d := by kernel_rfl
theorem ok_script_counted_v1 : SigOK Tryz.prog (Laid Tryz.prog) 27 sig_script_counted_v1 := sig_of hT hS envok_script_counted_v1 mixed ann_script_counted_v1 Tryz.func27 (by kernel_rfl) den_script_counted_v1

noncomputable def script_Read_3 (d : (List Int) × Unit) : Option ((Int × Int × Int × Int × Int × (List (Int × Int × Unit)) × Int × (List (Int × Int × Int × Unit)) × Int × Int × Int × Int × (List Int) × Unit) × Unit) :=
  (geti d.1 0).bind fun (e1 : Int) =>
  (geti d.1 1).bind fun (e2 : Int) =>
  (geti d.1 2).bind fun (e3 : Int) =>
  chk (decide (0 ≤ (3 : Int) ∧ (3 : Int) ≤ (d.1.length : Int))) <|
  let s4 : List Int := d.1.drop (3 : Int).toNat
  some ((5, 0, 0, 0, 0, [], 0, [], 0, e1, e2, e3, s4, ()), ())
noncomputable def sig_script_Read_3 : Sig := ⟨[(.slice (.int .i64))], [.val (.pair (.int .i64) (.pair (.int .i64) (.pair (.int .i64) (.pair (.int .i64) (.pair (.int .i64) (.pair (.slice (.pair (.int .i64) (.pair (.int .i64) .unit))) (.pair (.int .i64) (.pair (.slice (.pair (.int .i64) (.pair (.int .i64) (.pair (.int .i64) .unit)))) (.pair (.int .i64) (.pair (.int .i64) (.pair (.int .i64) (.pair (.int .i64) (.pair (.slice (.int .i64)) .unit)))))))))))))], script_Read_3⟩
noncomputable def env_script_Read_3 : Env := fun g => []
def ann_script_Read_3 : Ann := fun p => none
theorem envok_script_Read_3 : EnvOK Tryz.prog (Laid Tryz.prog) env_script_Read_3 := fun g s hs => by cases hs
theorem den_script_Read_3 (d : ShD sig_script_Read_3.ins) : sig_script_Read_3.f d = funDen tt env_script_Read_3 ann_script_Read_3 Tryz.f31 sig_script_Read_3.ins sig_script_Read_3.outs d := by kernel_rfl
theorem ok_script_Read_3 : SigOK Tryz.prog (Laid Tryz.prog) 31 sig_script_Read_3 := sig_of hT hS envok_script_Read_3 mixed ann_script_Read_3 Tryz.func31 (by kernel_rfl) den_script_Read_3

noncomputable def script_counted_v2 (d : (List (Int × (List UInt8) × Unit)) × Int × Bool × Unit × Unit) : Option ((Int × Int × Int × Int × Int × (List (Int × Int × Unit)) × Int × (List (Int × Int × Int × Unit)) × Int × Int × Int × Int × (List Int) × Unit) × Int × Unit) :=
  let x1 : Bool := decide ((d.1.length : Int) < (w64 (d.2.1 + 1)))
  Option.bind (bif !x1 then
    let x2 : Bool := decide ((d.1.length : Int) > (w64 (d.2.1 + 1)))
    Option.bind (bif x2 then
      some (!d.2.2.1)
    else some false) fun (b3 : Bool) =>
    some b3
  else some true) fun (b4 : Bool) =>
  bif b4 then
    some ((0, 0, 0, 0, 0, [], 0, [], 0, 0, 0, 0, [], ()), 7, ())
  else
  chk (decide (0 ≤ (1 : Int) ∧ (1 : Int) ≤ (d.1.length : Int))) <|
  let s5 : List (Int × (List UInt8) × Unit) := d.1.drop (1 : Int).toNat
  (script_all (s5, ())).bind fun (r6 : (List Int) × Int × Unit) =>
  bif (r6.2.1 != 0) then
    some ((0, 0, 0, 0, 0, [], 0, [], 0, 0, 0, 0, [], ()), r6.2.1, ())
  else
  (script_Read_3 (r6.1, ())).bind fun (r7 : (Int × Int × Int × Int × Int × (List (Int × Int × Unit)) × Int × (List (Int × Int × Int × Unit)) × Int × Int × Int × Int × (List Int) × Unit) × Unit) =>
  some ((r7.1.1, r7.1.2.1, r7.1.2.2.1, r7.1.2.2.2.1, r7.1.2.2.2.2.1, r7.1.2.2.2.2.2.1, r7.1.2.2.2.2.2.2.1, r7.1.2.2.2.2.2.2.2.1, r7.1.2.2.2.2.2.2.2.2.1, r7.1.2.2.2.2.2.2.2.2.2.1, r7.1.2.2.2.2.2.2.2.2.2.2.1, r7.1.2.2.2.2.2.2.2.2.2.2.2.1, r7.1.2.2.2.2.2.2.2.2.2.2.2.2.1, ()), 0, ())
noncomputable def sig_script_counted_v2 : Sig := ⟨[(.slice (.pair (.int .i64) (.pair .str .unit))), (.int .i64), .bool, (.fn 31 .unit)], [.val (.pair (.int .i64) (.pair (.int .i64) (.pair (.int .i64) (.pair (.int .i64) (.pair (.int .i64) (.pair (.slice (.pair (.int .i64) (.pair (.int .i64) .unit))) (.pair (.int .i64) (.pair (.slice (.pair (.int .i64) (.pair (.int .i64) (.pair (.int .i64) .unit)))) (.pair (.int .i64) (.pair (.int .i64) (.pair (.int .i64) (.pair (.int .i64) (.pair (.slice (.int .i64)) .unit))))))))))))), .val (.int .i64)], script_counted_v2⟩
noncomputable def env_script_counted_v2 : Env := fun g => bif Nat.beq g 54 then [sig_script_all] else bif Nat.beq g 31 then [sig_script_Read_3] else []
def ann_script_counted_v2 : Ann := fun p => none
theorem envok_script_counted_v2 : EnvOK Tryz.prog (Laid Tryz.prog) env_script_counted_v2 := fun g s hs => by
  simp only [env_script_counted_v2] at hs
  cases hg : Nat.beq g 54 with
  | true =>
    rw [hg, cond_true] at hs
    obtain rfl := Nat.eq_of_beq_eq_true hg
    simp only [List.mem_cons, List.not_mem_nil, or_false] at hs
    rcases hs with rfl
    · exact ok_script_all
  | false =>
  rw [hg, cond_false] at hs
  cases hg : Nat.beq g 31 with
  | true =>
    rw [hg, cond_true] at hs
    obtain rfl := Nat.eq_of_beq_eq_true hg
    simp only [List.mem_cons, List.not_mem_nil, or_false] at hs
    rcases hs with rfl
    · exact ok_script_Read_3
  | false =>
  rw [hg, cond_false] at hs
  cases hs
theorem den_script_counted_v2 (d : ShD sig_script_counted_v2.ins) : sig_script_counted_v2.f d = funDen tt env_script_counted_v2 ann_script_counted_v2 Tryz.f27 sig_script_counted_v2.ins sig_script_counted_v2.outs d := by kernel_rfl
theorem ok_script_counted_v2 : SigOK Tryz.prog (Laid Tryz.prog) 27 sig_script_counted_v2 := sig_of hT hS envok_script_counted_v2 mixed ann_script_counted_v2 Tryz.func27 (by kernel_rfl) den_script_counted_v2

noncomputable def script_Read_4 (d : (List Int) × Unit) : Option ((Int × Int × Int × Int × Int × (List (Int × Int × Unit)) × Int × (List (Int × Int × Int × Unit)) × Int × Int × Int × Int × (List Int) × Unit) × Unit) :=
  some ((6, 0, 0, 0, 0, [], 0, [], 0, 0, 0, 0, [], ()), ())
noncomputable def sig_script_Read_4 : Sig := ⟨[(.slice (.int .i64))], [.val (.pair (.int .i64) (.pair (.int .i64) (.pair (.int .i64) (.pair (.int .i64) (.pair (.int .i64) (.pair (.slice (.pair (.int .i64) (.pair (.int .i64) .unit))) (.pair (.int .i64) (.pair (.slice (.pair (.int .i64) (.pair (.int .i64) (.pair (.int .i64) .unit)))) (.pair (.int .i64) (.pair (.int .i64) (.pair (.int .i64) (.pair (.int .i64) (.pair (.slice (.int .i64)) .unit)))))))))))))], script_Read_4⟩
noncomputable def env_script_Read_4 : Env := fun g => []
def ann_script_Read_4 : Ann := fun p => none
theorem envok_script_Read_4 : EnvOK Tryz.prog (Laid Tryz.prog) env_script_Read_4 := fun g s hs => by cases hs
theorem den_script_Read_4 (d : ShD sig_script_Read_4.ins) : sig_script_Read_4.f d = funDen tt env_script_Read_4 ann_script_Read_4 Tryz.f32 sig_script_Read_4.ins sig_script_Read_4.outs d := by kernel_rfl
theorem ok_script_Read_4 : SigOK Tryz.prog (Laid Tryz.prog) 32 sig_script_Read_4 := sig_of hT hS envok_script_Read_4 mixed ann_script_Read_4 Tryz.func32 (by kernel_rfl) den_script_Read_4

noncomputable def script_counted_v3 (d : (List (Int × (List UInt8) × Unit)) × Int × Bool × Unit × Unit) : Option ((Int × Int × Int × Int × Int × (List (Int × Int × Unit)) × Int × (List (Int × Int × Int × Unit)) × Int × Int × Int × Int × (List Int) × Unit) × Int × Unit) :=
  let x1 : Bool := decide ((d.1.length : Int) < (w64 (d.2.1 + 1)))
  Option.bind (bif !x1 then
    let x2 : Bool := decide ((d.1.length : Int) > (w64 (d.2.1 + 1)))
    Option.bind (bif x2 then
      some (!d.2.2.1)
    else some false) fun (b3 : Bool) =>
    some b3
  else some true) fun (b4 : Bool) =>
  bif b4 then
    some ((0, 0, 0, 0, 0, [], 0, [], 0, 0, 0, 0, [], ()), 7, ())
  else
  chk (decide (0 ≤ (1 : Int) ∧ (1 : Int) ≤ (d.1.length : Int))) <|
  let s5 : List (Int × (List UInt8) × Unit) := d.1.drop (1 : Int).toNat
  (script_all (s5, ())).bind fun (r6 : (List Int) × Int × Unit) =>
  bif (r6.2.1 != 0) then
    some ((0, 0, 0, 0, 0, [], 0, [], 0, 0, 0, 0, [], ()), r6.2.1, ())
  else
  (script_Read_4 (r6.1, ())).bind fun (r7 : (Int × Int × Int × Int × Int × (List (Int × Int × Unit)) × Int × (List (Int × Int × Int × Unit)) × Int × Int × Int × Int × (List Int) × Unit) × Unit) =>
  some ((r7.1.1, r7.1.2.1, r7.1.2.2.1, r7.1.2.2.2.1, r7.1.2.2.2.2.1, r7.1.2.2.2.2.2.1, r7.1.2.2.2.2.2.2.1, r7.1.2.2.2.2.2.2.2.1, r7.1.2.2.2.2.2.2.2.2.1, r7.1.2.2.2.2.2.2.2.2.2.1, r7.1.2.2.2.2.2.2.2.2.2.2.1, r7.1.2.2.2.2.2.2.2.2.2.2.2.1, r7.1.2.2.2.2.2.2.2.2.2.2.2.2.1, ()), 0, ())
noncomputable def sig_script_counted_v3 : Sig := ⟨[(.slice (.pair (.int .i64) (.pair .str .unit))), (.int .i64), .bool, (.fn 32 .unit)], [.val (.pair (.int .i64) (.pair (.int .i64) (.pair (.int .i64) (.pair (.int .i64) (.pair (.int .i64) (.pair (.slice (.pair (.int .i64) (.pair (.int .i64) .unit))) (.pair (.int .i64) (.pair (.slice (.pair (.int .i64) (.pair (.int .i64) (.pair (.int .i64) .unit)))) (.pair (.int .i64) (.pair (.int .i64) (.pair (.int .i64) (.pair (.int .i64) (.pair (.slice (.int .i64)) .unit))))))))))))), .val (.int .i64)], script_counted_v3⟩
noncomputable def env_script_counted_v3 : Env := fun g => bif Nat.beq g 54 then [sig_script_all] else bif Nat.beq g 32 then [sig_script_Read_4] else []
def ann_script_counted_v3 : Ann := fun p => none
theorem envok_script_counted_v3 : EnvOK Tryz.prog (Laid Tryz.prog) env_script_counted_v3 := fun g s hs => by
  simp only [env_script_counted_v3] at hs
  cases hg : Nat.beq g 54 with
  | true =>
    rw [hg, cond_true] at hs
    obtain rfl := Nat.eq_of_beq_eq_true hg
    simp only [List.mem_cons, List.not_mem_nil, or_false] at hs
    rcases hs with rfl
    · exact ok_script_all
  | false =>
  rw [hg, cond_false] at hs
  cases hg : Nat.beq g 32 with
  | true =>
    rw [hg, cond_true] at hs
    obtain rfl := Nat.eq_of_beq_eq_true hg
    simp only [List.mem_cons, List.not_mem_nil, or_false] at hs
    rcases hs with rfl
    · exact ok_script_Read_4
  | false =>
  rw [hg, cond_false] at hs
  cases hs
theorem den_script_counted_v3 (d : ShD sig_script_counted_v3.ins) : sig_script_counted_v3.f d = funDen tt env_script_counted_v3 ann_script_counted_v3 Tryz.f27 sig_script_counted_v3.ins sig_script_counted_v3.outs d := by kernel_rfl
theorem ok_script_counted_v3 : SigOK Tryz.prog (Laid Tryz.prog) 27 sig_script_counted_v3 := sig_of hT hS envok_script_counted_v3 mixed ann_script_counted_v3 Tryz.func27 (by kernel_rfl) den_script_counted_v3

noncomputable def view_Kind (d : Int × Unit) : Option (Int × Bool × Unit) :=
  (sig_IndexByte.f (([82, 65, 87, 68] : List UInt8), d.1, ())).bind fun (r1 : Int × Unit) =>
  bif decide (r1.1 < 0) then
    some (0, false, ())
  else
  some (r1.1, true, ())
noncomputable def sig_view_Kind : Sig := ⟨[(.int .u8)], [.val (.int .i64), .val .bool], view_Kind⟩
noncomputable def env_view_Kind : Env := fun g => bif Nat.beq g 74 then [sig_IndexByte] else []
def ann_view_Kind : Ann := fun p => none
theorem envok_view_Kind : EnvOK Tryz.prog (Laid Tryz.prog) env_view_Kind := fun g s hs => by
  simp only [env_view_Kind] at hs
  cases hg : Nat.beq g 74 with
  | true =>
    rw [hg, cond_true] at hs
    obtain rfl := Nat.eq_of_beq_eq_true hg
    simp only [List.mem_cons, List.not_mem_nil, or_false] at hs
    rcases hs with rfl
    · exact okL_IndexByte
  | false =>
  rw [hg, cond_false] at hs
  cases hs
theorem den_view_Kind (d : ShD sig_view_Kind.ins) : sig_view_Kind.f d = funDen tt env_view_Kind ann_view_Kind Tryz.f55 sig_view_Kind.ins sig_view_Kind.outs d := by kernel_rfl
theorem ok_view_Kind : SigOK Tryz.prog (Laid Tryz.prog) 55 sig_view_Kind := sig_of hT hS envok_view_Kind mixed ann_view_Kind Tryz.func55 (by kernel_rfl) den_view_Kind

noncomputable def script_recorded_L253 (d : (List (Int × (List UInt8) × Unit)) × Unit) (d5 : ((Int × Unit) × ((Int × Int × Int × Int × Int × Unit × Int × Unit × Int × Int × Int × Int × Unit × Unit) × (Int × Int × Int × Int × Int × Unit × Int × Unit × Int × Int × Int × Int × Unit × Unit) × (List (Int × Int × Int × Unit)) × Unit))) : Option (((Int × Unit) × ((Int × Int × Int × Int × Int × Unit × Int × Unit × Int × Int × Int × Int × Unit × Unit) × (Int × Int × Int × Int × Int × Unit × Int × Unit × Int × Int × Int × Int × Unit × Unit) × (List (Int × Int × Int × Unit)) × Unit)) ⊕ ((Int × Int × Int × Int × Int × (List (Int × Int × Unit)) × Int × (List (Int × Int × Int × Unit)) × Int × Int × Int × Int × (List Int) × Unit) × Int × Unit)) :=
  bif decide (d5.1.1 < (d.1.length : Int)) then
    (geti d.1 d5.1.1).bind fun (e6 : Int × (List UInt8) × Unit) =>
    bif ((e6.2.1.length : Int) != 1) then
      some (.inr ((0, 0, 0, 0, 0, [], 0, [], 0, 0, 0, 0, [], ()), 2, ()))
    else
    (geti e6.2.1 0).bind fun (c7 : UInt8) =>
    (view_Kind ((c7.toNat : Int), ())).bind fun (r8 : Int × Bool × Unit) =>
    bif !r8.2.1 then
      some (.inr ((0, 0, 0, 0, 0, [], 0, [], 0, 0, 0, 0, [], ()), 2, ()))
    else
    (geti d.1 (w64 (d5.1.1 + 1))).bind fun (e9 : Int × (List UInt8) × Unit) =>
    (word_Span (e9.2.1, ())).bind fun (r10 : (Int × Int × Unit) × Int × Unit) =>
    bif (r10.2.1 != 0) then
      some (.inr ((0, 0, 0, 0, 0, [], 0, [], 0, 0, 0, 0, [], ()), r10.2.1, ()))
    else
    let a11 : List (Int × Int × Int × Unit) := ([(r8.1, r10.1.1, r10.1.2.1, ())] : List (Int × Int × Int × Unit))
    chk (decide (d5.2.2.2.1.length + a11.length ≤ LIM)) <|
    let a12 : List (Int × Int × Int × Unit) := d5.2.2.2.1 ++ a11
    some (.inl ((w64 (d5.1.1 + 2), ()), d5.2.1, (d5.2.2.1.1, d5.2.2.1.2.1, d5.2.2.1.2.2.1, d5.2.2.1.2.2.2.1, d5.2.2.1.2.2.2.2.1, d5.2.2.1.2.2.2.2.2.1, d5.2.2.1.2.2.2.2.2.2.1, (), d5.2.2.1.2.2.2.2.2.2.2.2), a12, ()))
  else
  some (.inr ((d5.2.2.1.1, d5.2.2.1.2.1, d5.2.2.1.2.2.1, d5.2.2.1.2.2.2.1, d5.2.2.1.2.2.2.2.1, [], d5.2.2.1.2.2.2.2.2.2.1, d5.2.2.2.1, d5.2.2.1.2.2.2.2.2.2.2.2.1, d5.2.2.1.2.2.2.2.2.2.2.2.2.1, d5.2.2.1.2.2.2.2.2.2.2.2.2.2.1, d5.2.2.1.2.2.2.2.2.2.2.2.2.2.2.1, [], ()), 0, ()))
noncomputable def script_recorded (d : (List (Int × (List UInt8) × Unit)) × Unit) : Option ((Int × Int × Int × Int × Int × (List (Int × Int × Unit)) × Int × (List (Int × Int × Int × Unit)) × Int × Int × Int × Int × (List Int) × Unit) × Int × Unit) :=
  Option.bind (bif !(decide ((d.1.length : Int) < 2)) then
    some (((d.1.length : Int).tmod 2) != 0)
  else some true) fun (b1 : Bool) =>
  bif b1 then
    some ((0, 0, 0, 0, 0, [], 0, [], 0, 0, 0, 0, [], ()), 7, ())
  else
  chk (decide (0 ≤ (1 : Int) ∧ (1 : Int) ≤ (2 : Int) ∧ (2 : Int) ≤ (d.1.length : Int))) <|
  let s2 : List (Int × (List UInt8) × Unit) := (d.1.take (2 : Int).toNat).drop (1 : Int).toNat
  (script_all (s2, ())).bind fun (r3 : (List Int) × Int × Unit) =>
  bif (r3.2.1 != 0) then
    some ((0, 0, 0, 0, 0, [], 0, [], 0, 0, 0, 0, [], ()), r3.2.1, ())
  else
  chk (decide (0 ≤ (0 : Int) ∧ (0 : Int) < (r3.1.length : Int))) <|
  (geti r3.1 0).bind fun (e4 : Int) =>
  iterW (ρ := (Int × Int × Int × Int × Int × (List (Int × Int × Unit)) × Int × (List (Int × Int × Int × Unit)) × Int × Int × Int × Int × (List Int) × Unit) × Int × Unit) (script_recorded_L253 d) ((2, ()), (0, 0, 0, 0, 0, (), 0, (), 0, 0, 0, 0, (), ()), (3, 0, 0, 0, 0, (), e4, (), 0, 0, 0, 0, (), ()), [], ())
noncomputable def sig_script_recorded : Sig := ⟨[(.slice (.pair (.int .i64) (.pair .str .unit)))], [.val (.pair (.int .i64) (.pair (.int .i64) (.pair (.int .i64) (.pair (.int .i64) (.pair (.int .i64) (.pair (.slice (.pair (.int .i64) (.pair (.int .i64) .unit))) (.pair (.int .i64) (.pair (.slice (.pair (.int .i64) (.pair (.int .i64) (.pair (.int .i64) .unit)))) (.pair (.int .i64) (.pair (.int .i64) (.pair (.int .i64) (.pair (.int .i64) (.pair (.slice (.int .i64)) .unit))))))))))))), .val (.int .i64)], script_recorded⟩
noncomputable def env_script_recorded : Env := fun g => bif Nat.beq g 54 then [sig_script_all] else bif Nat.beq g 55 then [sig_view_Kind] else bif Nat.beq g 56 then [sig_word_Span] else []
def ann_script_recorded : Ann := fun p => bif Nat.beq p 253 then some ⟨[(7, (.int .i64))], [(0, .box (.pair (.int .i64) (.pair (.int .i64) (.pair (.int .i64) (.pair (.int .i64) (.pair (.int .i64) (.pair .nil (.pair (.int .i64) (.pair .nil (.pair (.int .i64) (.pair (.int .i64) (.pair (.int .i64) (.pair (.int .i64) (.pair .nil .unit)))))))))))))), (22, .box (.pair (.int .i64) (.pair (.int .i64) (.pair (.int .i64) (.pair (.int .i64) (.pair (.int .i64) (.pair .nil (.pair (.int .i64) (.pair (.ref 25 (.pair (.int .i64) (.pair (.int .i64) (.pair (.int .i64) .unit)))) (.pair (.int .i64) (.pair (.int .i64) (.pair (.int .i64) (.pair (.int .i64) (.pair .nil .unit)))))))))))))), (25, .arr 50 (.pair (.int .i64) (.pair (.int .i64) (.pair (.int .i64) .unit))))], [0, 22], [], [3, 8, 9, 10, 11, 12, 37, 38, 39, 40, 41, 42, 43, 44, 45, 46, 47, 48, 49, 50, 51, 52, 53, 54, 55, 56, 57, 58, 59, 60, 61, 62, 63, 64, 65, 66, 67, 68, 69, 70, 71, 72, 73, 74, 75, 76, 77, 78, 79, 80, 81, 82, 83, 84, 85], 26⟩ else none
theorem envok_script_recorded : EnvOK Tryz.prog (Laid Tryz.prog) env_script_recorded := fun g s hs => by
  simp only [env_script_recorded] at hs
  cases hg : Nat.beq g 54 with
  | true =>
    rw [hg, cond_true] at hs
    obtain rfl := Nat.eq_of_beq_eq_true hg
    simp only [List.mem_cons, List.not_mem_nil, or_false] at hs
    rcases hs with rfl
    · exact ok_script_all
  | false =>
  rw [hg, cond_false] at hs
  cases hg : Nat.beq g 55 with
  | true =>
    rw [hg, cond_true] at hs
    obtain rfl := Nat.eq_of_beq_eq_true hg
    simp only [List.mem_cons, List.not_mem_nil, or_false] at hs
    rcases hs with rfl
    · exact ok_view_Kind
  | false =>
  rw [hg, cond_false] at hs
  cases hg : Nat.beq g 56 with
  | true =>
    rw [hg, cond_true] at hs
    obtain rfl := Nat.eq_of_beq_eq_true hg
    simp only [List.mem_cons, List.not_mem_nil, or_false] at hs
    rcases hs with rfl
    · exact ok_word_Span
  | false =>
  rw [hg, cond_false] at hs
  cases hs
theorem den_script_recorded (d : ShD sig_script_recorded.ins) : sig_script_recorded.f d = funDen tt env_script_recorded ann_script_recorded Tryz.f29 sig_script_recorded.ins sig_script_recorded.outs d := by kernel_rfl
theorem ok_script_recorded : SigOK Tryz.prog (Laid Tryz.prog) 29 sig_script_recorded := sig_of hT hS envok_script_recorded mixed ann_script_recorded Tryz.func29 (by kernel_rfl) den_script_recorded

noncomputable def script_Read (d : (List UInt8) × Unit) : Option ((Int × Int × Int × Int × Int × (List (Int × Int × Unit)) × Int × (List (Int × Int × Int × Unit)) × Int × Int × Int × Int × (List Int) × Unit) × Int × Unit) :=
  (word_Split (d.1, ())).bind fun (r1 : (List (Int × (List UInt8) × Unit)) × Int × Int × Unit) =>
  Option.bind (bif !(r1.2.2.1 != 0) then
    some ((r1.1.length : Int) == 0)
  else some true) fun (b2 : Bool) =>
  bif b2 then
    some ((0, 0, 0, 0, 0, [], 0, [], 0, 0, 0, 0, [], ()), 7, ())
  else
  chk (decide (0 ≤ (0 : Int) ∧ (0 : Int) < (r1.1.length : Int))) <|
  (geti r1.1 0).bind fun (e3 : Int × (List UInt8) × Unit) =>
  let x4 : Bool := (e3.2.1 == ([111, 114, 100, 101, 114] : List UInt8))
  bif x4 then
    (paper_Read (d.1, ())).bind fun (r5 : (Int × Int × Int × Int × (List (Int × Int × Unit)) × Unit) × Int × Unit) =>
    bif (r5.2.1 != 0) then
      some ((0, 0, 0, 0, 0, [], 0, [], 0, 0, 0, 0, [], ()), r5.2.1, ())
    else
    some ((1, r5.1.1, r5.1.2.1, r5.1.2.2.1, r5.1.2.2.2.1, r5.1.2.2.2.2.1, 0, [], 0, 0, 0, 0, [], ()), 0, ())
  else
  let x6 : Bool := (e3.2.1 == ([99, 97, 110, 99, 101, 108] : List UInt8))
  bif x6 then
    (script_counted (r1.1, 1, false, (), ())).bind fun (r7 : (Int × Int × Int × Int × Int × (List (Int × Int × Unit)) × Int × (List (Int × Int × Int × Unit)) × Int × Int × Int × Int × (List Int) × Unit) × Int × Unit) =>
    some ((r7.1.1, r7.1.2.1, r7.1.2.2.1, r7.1.2.2.2.1, r7.1.2.2.2.2.1, r7.1.2.2.2.2.2.1, r7.1.2.2.2.2.2.2.1, r7.1.2.2.2.2.2.2.2.1, r7.1.2.2.2.2.2.2.2.2.1, r7.1.2.2.2.2.2.2.2.2.2.1, r7.1.2.2.2.2.2.2.2.2.2.2.1, r7.1.2.2.2.2.2.2.2.2.2.2.2.1, r7.1.2.2.2.2.2.2.2.2.2.2.2.2.1, ()), r7.2.1, ())
  else
  let x8 : Bool := (e3.2.1 == ([114, 101, 99, 111, 114, 100] : List UInt8))
  bif x8 then
    (script_recorded (r1.1, ())).bind fun (r9 : (Int × Int × Int × Int × Int × (List (Int × Int × Unit)) × Int × (List (Int × Int × Int × Unit)) × Int × Int × Int × Int × (List Int) × Unit) × Int × Unit) =>
    some ((r9.1.1, r9.1.2.1, r9.1.2.2.1, r9.1.2.2.2.1, r9.1.2.2.2.2.1, r9.1.2.2.2.2.2.1, r9.1.2.2.2.2.2.2.1, r9.1.2.2.2.2.2.2.2.1, r9.1.2.2.2.2.2.2.2.2.1, r9.1.2.2.2.2.2.2.2.2.2.1, r9.1.2.2.2.2.2.2.2.2.2.2.1, r9.1.2.2.2.2.2.2.2.2.2.2.2.1, r9.1.2.2.2.2.2.2.2.2.2.2.2.2.1, ()), r9.2.1, ())
  else
  let x10 : Bool := (e3.2.1 == ([116, 105, 99, 107] : List UInt8))
  bif x10 then
    (script_counted_v1 (r1.1, 1, false, (), ())).bind fun (r11 : (Int × Int × Int × Int × Int × (List (Int × Int × Unit)) × Int × (List (Int × Int × Int × Unit)) × Int × Int × Int × Int × (List Int) × Unit) × Int × Unit) =>
    some ((r11.1.1, r11.1.2.1, r11.1.2.2.1, r11.1.2.2.2.1, r11.1.2.2.2.2.1, r11.1.2.2.2.2.2.1, r11.1.2.2.2.2.2.2.1, r11.1.2.2.2.2.2.2.2.1, r11.1.2.2.2.2.2.2.2.2.1, r11.1.2.2.2.2.2.2.2.2.2.1, r11.1.2.2.2.2.2.2.2.2.2.2.1, r11.1.2.2.2.2.2.2.2.2.2.2.2.1, r11.1.2.2.2.2.2.2.2.2.2.2.2.2.1, ()), r11.2.1, ())
  else
  let x12 : Bool := (e3.2.1 == ([114, 101, 112, 108, 97, 110] : List UInt8))
  bif x12 then
    (script_counted_v2 (r1.1, 3, true, (), ())).bind fun (r13 : (Int × Int × Int × Int × Int × (List (Int × Int × Unit)) × Int × (List (Int × Int × Int × Unit)) × Int × Int × Int × Int × (List Int) × Unit) × Int × Unit) =>
    some ((r13.1.1, r13.1.2.1, r13.1.2.2.1, r13.1.2.2.2.1, r13.1.2.2.2.2.1, r13.1.2.2.2.2.2.1, r13.1.2.2.2.2.2.2.1, r13.1.2.2.2.2.2.2.2.1, r13.1.2.2.2.2.2.2.2.2.1, r13.1.2.2.2.2.2.2.2.2.2.1, r13.1.2.2.2.2.2.2.2.2.2.2.1, r13.1.2.2.2.2.2.2.2.2.2.2.2.1, r13.1.2.2.2.2.2.2.2.2.2.2.2.2.1, ()), r13.2.1, ())
  else
  let x14 : Bool := (e3.2.1 == ([115, 104, 111, 119] : List UInt8))
  bif x14 then
    (script_counted_v3 (r1.1, 0, false, (), ())).bind fun (r15 : (Int × Int × Int × Int × Int × (List (Int × Int × Unit)) × Int × (List (Int × Int × Int × Unit)) × Int × Int × Int × Int × (List Int) × Unit) × Int × Unit) =>
    some ((r15.1.1, r15.1.2.1, r15.1.2.2.1, r15.1.2.2.2.1, r15.1.2.2.2.2.1, r15.1.2.2.2.2.2.1, r15.1.2.2.2.2.2.2.1, r15.1.2.2.2.2.2.2.2.1, r15.1.2.2.2.2.2.2.2.2.1, r15.1.2.2.2.2.2.2.2.2.2.1, r15.1.2.2.2.2.2.2.2.2.2.2.1, r15.1.2.2.2.2.2.2.2.2.2.2.2.1, r15.1.2.2.2.2.2.2.2.2.2.2.2.2.1, ()), r15.2.1, ())
  else
  some ((0, 0, 0, 0, 0, [], 0, [], 0, 0, 0, 0, [], ()), 7, ())
noncomputable def sig_script_Read : Sig := ⟨[.str], [.val (.pair (.int .i64) (.pair (.int .i64) (.pair (.int .i64) (.pair (.int .i64) (.pair (.int .i64) (.pair (.slice (.pair (.int .i64) (.pair (.int .i64) .unit))) (.pair (.int .i64) (.pair (.slice (.pair (.int .i64) (.pair (.int .i64) (.pair (.int .i64) .unit)))) (.pair (.int .i64) (.pair (.int .i64) (.pair (.int .i64) (.pair (.int .i64) (.pair (.slice (.int .i64)) .unit))))))))))))), .val (.int .i64)], script_Read⟩
noncomputable def env_script_Read : Env := fun g => bif Nat.beq g 25 then [sig_word_Split] else bif Nat.beq g 26 then [sig_paper_Read] else bif Nat.beq g 27 then [sig_script_counted, sig_script_counted_v1, sig_script_counted_v2, sig_script_counted_v3] else bif Nat.beq g 29 then [sig_script_recorded] else []
def ann_script_Read : Ann := fun p => none
theorem envok_script_Read : EnvOK Tryz.prog (Laid Tryz.prog) env_script_Read := fun g s hs => by
  simp only [env_script_Read] at hs
  cases hg : Nat.beq g 25 with
  | true =>
    rw [hg, cond_true] at hs
    obtain rfl := Nat.eq_of_beq_eq_true hg
    simp only [List.mem_cons, List.not_mem_nil, or_false] at hs
    rcases hs with rfl
    · exact ok_word_Split
  | false =>
  rw [hg, cond_false] at hs
  cases hg : Nat.beq g 26 with
  | true =>
    rw [hg, cond_true] at hs
    obtain rfl := Nat.eq_of_beq_eq_true hg
    simp only [List.mem_cons, List.not_mem_nil, or_false] at hs
    rcases hs with rfl
    · exact ok_paper_Read
  | false =>
  rw [hg, cond_false] at hs
  cases hg : Nat.beq g 27 with
  | true =>
    rw [hg, cond_true] at hs
    obtain rfl := Nat.eq_of_beq_eq_true hg
    simp only [List.mem_cons, List.not_mem_nil, or_false] at hs
    rcases hs with rfl | rfl | rfl | rfl
    · exact ok_script_counted
    · exact ok_script_counted_v1
    · exact ok_script_counted_v2
    · exact ok_script_counted_v3
  | false =>
  rw [hg, cond_false] at hs
  cases hg : Nat.beq g 29 with
  | true =>
    rw [hg, cond_true] at hs
    obtain rfl := Nat.eq_of_beq_eq_true hg
    simp only [List.mem_cons, List.not_mem_nil, or_false] at hs
    rcases hs with rfl
    · exact ok_script_recorded
  | false =>
  rw [hg, cond_false] at hs
  cases hs
theorem den_script_Read (d : ShD sig_script_Read.ins) : sig_script_Read.f d = funDen tt env_script_Read ann_script_Read Tryz.f10 sig_script_Read.ins sig_script_Read.outs d := by kernel_rfl
theorem ok_script_Read : SigOK Tryz.prog (Laid Tryz.prog) 10 sig_script_Read := sig_of hT hS envok_script_Read mixed ann_script_Read Tryz.func10 (by kernel_rfl) den_script_Read

noncomputable def haulierlaw42_alive (d : Unit) : Option (Bool × Unit) :=
  (script_Read (([114, 101, 99, 111, 114, 100, 32, 52, 32, 68, 32, 48, 45, 51, 48, 32, 87, 32, 51, 48, 45, 51, 53] : List UInt8), ())).bind fun (r1 : (Int × Int × Int × Int × Int × (List (Int × Int × Unit)) × Int × (List (Int × Int × Int × Unit)) × Int × Int × Int × Int × (List Int) × Unit) × Int × Unit) =>
  Option.bind (bif (r1.2.1 == 0) then
    some (r1.1.1 == 3)
  else some false) fun (b2 : Bool) =>
  Option.bind (bif b2 then
    some (r1.1.2.2.2.2.2.2.1 == 4)
  else some false) fun (b3 : Bool) =>
  Option.bind (bif b3 then
    let x4 : Bool := ((r1.1.2.2.2.2.2.2.2.1.length : Int) == 2)
    some x4
  else some false) fun (b5 : Bool) =>
  Option.bind (bif b5 then
    (geti r1.1.2.2.2.2.2.2.2.1 1).bind fun (e6 : Int × Int × Int × Unit) =>
    let x7 : Bool := (e6.1 == 2 && (e6.2.1 == 30 && (e6.2.2.1 == 35 && true)))
    some x7
  else some false) fun (b8 : Bool) =>
  let x9 : Bool := (bif (bif b8 then true else false) then true else false)
  let x10 : Bool := (bif (bif x9 then true else false) then true else false)
  let x11 : Bool := (bif (bif x10 then true else false) then true else false)
  some (x11, ())
noncomputable def sig_haulierlaw42_alive : Sig := ⟨[], [.val .bool], haulierlaw42_alive⟩
noncomputable def env_haulierlaw42_alive : Env := fun g => bif Nat.beq g 10 then [sig_script_Read] else []
def ann_haulierlaw42_alive : Ann := fun p => none
theorem envok_haulierlaw42_alive : EnvOK Tryz.prog (Laid Tryz.prog) env_haulierlaw42_alive := fun g s hs => by
  simp only [env_haulierlaw42_alive] at hs
  cases hg : Nat.beq g 10 with
  | true =>
    rw [hg, cond_true] at hs
    obtain rfl := Nat.eq_of_beq_eq_true hg
    simp only [List.mem_cons, List.not_mem_nil, or_false] at hs
    rcases hs with rfl
    · exact ok_script_Read
  | false =>
  rw [hg, cond_false] at hs
  cases hs
theorem den_haulierlaw42_alive (d : ShD sig_haulierlaw42_alive.ins) : sig_haulierlaw42_alive.f d = funDen tt env_haulierlaw42_alive ann_haulierlaw42_alive Tryz.f6 sig_haulierlaw42_alive.ins sig_haulierlaw42_alive.outs d := by kernel_rfl
theorem ok_haulierlaw42_alive : SigOK Tryz.prog (Laid Tryz.prog) 6 sig_haulierlaw42_alive := sig_of hT hS envok_haulierlaw42_alive mixed ann_haulierlaw42_alive Tryz.func6 (by kernel_rfl) den_haulierlaw42_alive

noncomputable def haulierlaw42_Own (d : (Int × Int × Int × Int × Int × (List (Int × Int × Unit)) × Int × (List (Int × Int × Int × Unit)) × Int × Int × Int × Int × (List Int) × Unit) × Unit) : Option ((Int × Int × Int × Int × Int × (List (Int × Int × Unit)) × Int × (List (Int × Int × Int × Unit)) × Int × Int × Int × Int × (List Int) × Unit) × Unit) :=
  some ((d.1.1, d.1.2.1, d.1.2.2.1, d.1.2.2.2.1, d.1.2.2.2.2.1, d.1.2.2.2.2.2.1, d.1.2.2.2.2.2.2.1, d.1.2.2.2.2.2.2.2.1, d.1.2.2.2.2.2.2.2.2.1, d.1.2.2.2.2.2.2.2.2.2.1, d.1.2.2.2.2.2.2.2.2.2.2.1, d.1.2.2.2.2.2.2.2.2.2.2.2.1, d.1.2.2.2.2.2.2.2.2.2.2.2.2.1, ()), ())
noncomputable def sig_haulierlaw42_Own : Sig := ⟨[(.pair (.int .i64) (.pair (.int .i64) (.pair (.int .i64) (.pair (.int .i64) (.pair (.int .i64) (.pair (.slice (.pair (.int .i64) (.pair (.int .i64) .unit))) (.pair (.int .i64) (.pair (.slice (.pair (.int .i64) (.pair (.int .i64) (.pair (.int .i64) .unit)))) (.pair (.int .i64) (.pair (.int .i64) (.pair (.int .i64) (.pair (.int .i64) (.pair (.slice (.int .i64)) .unit)))))))))))))], [.val (.pair (.int .i64) (.pair (.int .i64) (.pair (.int .i64) (.pair (.int .i64) (.pair (.int .i64) (.pair (.slice (.pair (.int .i64) (.pair (.int .i64) .unit))) (.pair (.int .i64) (.pair (.slice (.pair (.int .i64) (.pair (.int .i64) (.pair (.int .i64) .unit)))) (.pair (.int .i64) (.pair (.int .i64) (.pair (.int .i64) (.pair (.int .i64) (.pair (.slice (.int .i64)) .unit)))))))))))))], haulierlaw42_Own⟩
noncomputable def env_haulierlaw42_Own : Env := fun g => []
def ann_haulierlaw42_Own : Ann := fun p => none
theorem envok_haulierlaw42_Own : EnvOK Tryz.prog (Laid Tryz.prog) env_haulierlaw42_Own := fun g s hs => by cases hs
theorem den_haulierlaw42_Own (d : ShD sig_haulierlaw42_Own.ins) : sig_haulierlaw42_Own.f d = funDen tt env_haulierlaw42_Own ann_haulierlaw42_Own Tryz.f8 sig_haulierlaw42_Own.ins sig_haulierlaw42_Own.outs d := by kernel_rfl
theorem ok_haulierlaw42_Own : SigOK Tryz.prog (Laid Tryz.prog) 8 sig_haulierlaw42_Own := sig_of hT hS envok_haulierlaw42_Own mixed ann_haulierlaw42_Own Tryz.func8 (by kernel_rfl) den_haulierlaw42_Own

noncomputable def script_plain_1 (d : Int × Unit) : Option (Bool × Unit) :=
  Option.bind (bif !(decide (d.1 < 0)) then
    some (decide (d.1 > 1000000000))
  else some true) fun (b1 : Bool) =>
  some (b1, ())
noncomputable def sig_script_plain_1 : Sig := ⟨[(.int .i64)], [.val .bool], script_plain_1⟩
noncomputable def env_script_plain_1 : Env := fun g => []
def ann_script_plain_1 : Ann := fun p => none
theorem envok_script_plain_1 : EnvOK Tryz.prog (Laid Tryz.prog) env_script_plain_1 := fun g s hs => by cases hs
theorem den_script_plain_1 (d : ShD sig_script_plain_1.ins) : sig_script_plain_1.f d = funDen tt env_script_plain_1 ann_script_plain_1 Tryz.f45 sig_script_plain_1.ins sig_script_plain_1.outs d := by kernel_rfl
theorem ok_script_plain_1 : SigOK Tryz.prog (Laid Tryz.prog) 45 sig_script_plain_1 := sig_of hT hS envok_script_plain_1 mixed ann_script_plain_1 Tryz.func45 (by kernel_rfl) den_script_plain_1

noncomputable def slices_IndexFunc_int_int_L13 (d : (List Int) × Unit × Unit) (d1 : ((Int × Unit) × (Unit))) : Option (((Int × Unit) × (Unit)) ⊕ (Int × Unit)) :=
  bif decide (d1.1.1 < (d.1.length : Int)) then
    (geti d.1 d1.1.1).bind fun (e2 : Int) =>
    (script_plain_1 (e2, ())).bind fun (r3 : Bool × Unit) =>
    bif r3.1 then
      some (.inr (d1.1.1, ()))
    else
    some (.inl ((w64 (d1.1.1 + 1), ()), ()))
  else
  some (.inr (-1, ()))
noncomputable def slices_IndexFunc_int_int (d : (List Int) × Unit × Unit) : Option (Int × Unit) :=
  iterW (ρ := Int × Unit) (slices_IndexFunc_int_int_L13 d) ((0, ()), ())
noncomputable def sig_slices_IndexFunc_int_int : Sig := ⟨[(.slice (.int .i64)), (.fn 45 .unit)], [.val (.int .i64)], slices_IndexFunc_int_int⟩
noncomputable def env_slices_IndexFunc_int_int : Env := fun g => bif Nat.beq g 45 then [sig_script_plain_1] else []
def ann_slices_IndexFunc_int_int : Ann := fun p => bif Nat.beq p 13 then some ⟨[(8, (.int .i64))], [], [], [], [4, 5, 9, 10, 11, 12, 13, 14, 15, 16, 17, 18], 4⟩ else none
theorem envok_slices_IndexFunc_int_int : EnvOK Tryz.prog (Laid Tryz.prog) env_slices_IndexFunc_int_int := fun g s hs => by
  simp only [env_slices_IndexFunc_int_int] at hs
  cases hg : Nat.beq g 45 with
  | true =>
    rw [hg, cond_true] at hs
    obtain rfl := Nat.eq_of_beq_eq_true hg
    simp only [List.mem_cons, List.not_mem_nil, or_false] at hs
    rcases hs with rfl
    · exact ok_script_plain_1
  | false =>
  rw [hg, cond_false] at hs
  cases hs
theorem den_slices_IndexFunc_int_int (d : ShD sig_slices_IndexFunc_int_int.ins) : sig_slices_IndexFunc_int_int.f d = funDen tt env_slices_IndexFunc_int_int ann_slices_IndexFunc_int_int Tryz.f67 sig_slices_IndexFunc_int_int.ins sig_slices_IndexFunc_int_int.outs d := by kernel_rfl
theorem ok_slices_IndexFunc_int_int : SigOK Tryz.prog (Laid Tryz.prog) 67 sig_slices_IndexFunc_int_int := sig_of hT hS envok_slices_IndexFunc_int_int mixed ann_slices_IndexFunc_int_int Tryz.func67 (by kernel_rfl) den_slices_IndexFunc_int_int

noncomputable def slices_ContainsFunc_int_int (d : (List Int) × Unit × Unit) : Option (Bool × Unit) :=
  (slices_IndexFunc_int_int (d.1, d.2.1, ())).bind fun (r1 : Int × Unit) =>
  some (decide (r1.1 ≥ 0), ())
noncomputable def sig_slices_ContainsFunc_int_int : Sig := ⟨[(.slice (.int .i64)), (.fn 45 .unit)], [.val .bool], slices_ContainsFunc_int_int⟩
noncomputable def env_slices_ContainsFunc_int_int : Env := fun g => bif Nat.beq g 67 then [sig_slices_IndexFunc_int_int] else []
def ann_slices_ContainsFunc_int_int : Ann := fun p => none
theorem envok_slices_ContainsFunc_int_int : EnvOK Tryz.prog (Laid Tryz.prog) env_slices_ContainsFunc_int_int := fun g s hs => by
  simp only [env_slices_ContainsFunc_int_int] at hs
  cases hg : Nat.beq g 67 with
  | true =>
    rw [hg, cond_true] at hs
    obtain rfl := Nat.eq_of_beq_eq_true hg
    simp only [List.mem_cons, List.not_mem_nil, or_false] at hs
    rcases hs with rfl
    · exact ok_slices_IndexFunc_int_int
  | false =>
  rw [hg, cond_false] at hs
  cases hs
theorem den_slices_ContainsFunc_int_int (d : ShD sig_slices_ContainsFunc_int_int.ins) : sig_slices_ContainsFunc_int_int.f d = funDen tt env_slices_ContainsFunc_int_int ann_slices_ContainsFunc_int_int Tryz.f44 sig_slices_ContainsFunc_int_int.ins sig_slices_ContainsFunc_int_int.outs d := by kernel_rfl
theorem ok_slices_ContainsFunc_int_int : SigOK Tryz.prog (Laid Tryz.prog) 44 sig_slices_ContainsFunc_int_int := sig_of hT hS envok_slices_ContainsFunc_int_int mixed ann_slices_ContainsFunc_int_int Tryz.func44 (by kernel_rfl) den_slices_ContainsFunc_int_int

noncomputable def script_plain (d : (List Int) × Unit) : Option (Bool × Unit) :=
  (slices_ContainsFunc_int_int (d.1, (), ())).bind fun (r1 : Bool × Unit) =>
  some (!r1.1, ())
noncomputable def sig_script_plain : Sig := ⟨[(.slice (.int .i64))], [.val .bool], script_plain⟩
noncomputable def env_script_plain : Env := fun g => bif Nat.beq g 44 then [sig_slices_ContainsFunc_int_int] else []
def ann_script_plain : Ann := fun p => none
theorem envok_script_plain : EnvOK Tryz.prog (Laid Tryz.prog) env_script_plain := fun g s hs => by
  simp only [env_script_plain] at hs
  cases hg : Nat.beq g 44 with
  | true =>
    rw [hg, cond_true] at hs
    obtain rfl := Nat.eq_of_beq_eq_true hg
    simp only [List.mem_cons, List.not_mem_nil, or_false] at hs
    rcases hs with rfl
    · exact ok_slices_ContainsFunc_int_int
  | false =>
  rw [hg, cond_false] at hs
  cases hs
theorem den_script_plain (d : ShD sig_script_plain.ins) : sig_script_plain.f d = funDen tt env_script_plain ann_script_plain Tryz.f17 sig_script_plain.ins sig_script_plain.outs d := by kernel_rfl
theorem ok_script_plain : SigOK Tryz.prog (Laid Tryz.prog) 17 sig_script_plain := sig_of hT hS envok_script_plain mixed ann_script_plain Tryz.func17 (by kernel_rfl) den_script_plain

noncomputable def script_order_1 (d : (Int × Int × Unit) × Unit) : Option (Bool × Unit) :=
  Option.bind (bif !(decide (d.1.1 < 0)) then
    some (decide (d.1.2.1 > 40320))
  else some true) fun (b1 : Bool) =>
  Option.bind (bif !b1 then
    some (decide (d.1.1 ≥ d.1.2.1))
  else some true) fun (b2 : Bool) =>
  some (b2, ())
noncomputable def sig_script_order_1 : Sig := ⟨[(.pair (.int .i64) (.pair (.int .i64) .unit))], [.val .bool], script_order_1⟩
noncomputable def env_script_order_1 : Env := fun g => []
def ann_script_order_1 : Ann := fun p => none
theorem envok_script_order_1 : EnvOK Tryz.prog (Laid Tryz.prog) env_script_order_1 := fun g s hs => by cases hs
theorem den_script_order_1 (d : ShD sig_script_order_1.ins) : sig_script_order_1.f d = funDen tt env_script_order_1 ann_script_order_1 Tryz.f39 sig_script_order_1.ins sig_script_order_1.outs d := by kernel_rfl
theorem ok_script_order_1 : SigOK Tryz.prog (Laid Tryz.prog) 39 sig_script_order_1 := sig_of hT hS envok_script_order_1 mixed ann_script_order_1 Tryz.func39 (by kernel_rfl) den_script_order_1

noncomputable def slices_IndexFunc_api_Span_api_Span_L13 (d : (List (Int × Int × Unit)) × Unit × Unit) (d1 : ((Int × Unit) × (Unit))) : Option (((Int × Unit) × (Unit)) ⊕ (Int × Unit)) :=
  bif decide (d1.1.1 < (d.1.length : Int)) then
    (geti d.1 d1.1.1).bind fun (e2 : Int × Int × Unit) =>
    (script_order_1 ((e2.1, e2.2.1, ()), ())).bind fun (r3 : Bool × Unit) =>
    bif r3.1 then
      some (.inr (d1.1.1, ()))
    else
    some (.inl ((w64 (d1.1.1 + 1), ()), ()))
  else
  some (.inr (-1, ()))
noncomputable def slices_IndexFunc_api_Span_api_Span (d : (List (Int × Int × Unit)) × Unit × Unit) : Option (Int × Unit) :=
  iterW (ρ := Int × Unit) (slices_IndexFunc_api_Span_api_Span_L13 d) ((0, ()), ())
noncomputable def sig_slices_IndexFunc_api_Span_api_Span : Sig := ⟨[(.slice (.pair (.int .i64) (.pair (.int .i64) .unit))), (.fn 39 .unit)], [.val (.int .i64)], slices_IndexFunc_api_Span_api_Span⟩
noncomputable def env_slices_IndexFunc_api_Span_api_Span : Env := fun g => bif Nat.beq g 39 then [sig_script_order_1] else []
def ann_slices_IndexFunc_api_Span_api_Span : Ann := fun p => bif Nat.beq p 13 then some ⟨[(8, (.int .i64))], [], [], [], [4, 5, 9, 10, 11, 12, 13, 14, 15, 16, 17, 18], 4⟩ else none
theorem envok_slices_IndexFunc_api_Span_api_Span : EnvOK Tryz.prog (Laid Tryz.prog) env_slices_IndexFunc_api_Span_api_Span := fun g s hs => by
  simp only [env_slices_IndexFunc_api_Span_api_Span] at hs
  cases hg : Nat.beq g 39 with
  | true =>
    rw [hg, cond_true] at hs
    obtain rfl := Nat.eq_of_beq_eq_true hg
    simp only [List.mem_cons, List.not_mem_nil, or_false] at hs
    rcases hs with rfl
    · exact ok_script_order_1
  | false =>
  rw [hg, cond_false] at hs
  cases hs
theorem den_slices_IndexFunc_api_Span_api_Span (d : ShD sig_slices_IndexFunc_api_Span_api_Span.ins) : sig_slices_IndexFunc_api_Span_api_Span.f d = funDen tt env_slices_IndexFunc_api_Span_api_Span ann_slices_IndexFunc_api_Span_api_Span Tryz.f62 sig_slices_IndexFunc_api_Span_api_Span.ins sig_slices_IndexFunc_api_Span_api_Span.outs d := by kernel_rfl
theorem ok_slices_IndexFunc_api_Span_api_Span : SigOK Tryz.prog (Laid Tryz.prog) 62 sig_slices_IndexFunc_api_Span_api_Span := sig_of hT hS envok_slices_IndexFunc_api_Span_api_Span mixed ann_slices_IndexFunc_api_Span_api_Span Tryz.func62 (by kernel_rfl) den_slices_IndexFunc_api_Span_api_Span

noncomputable def slices_ContainsFunc_api_Span_api_Span (d : (List (Int × Int × Unit)) × Unit × Unit) : Option (Bool × Unit) :=
  (slices_IndexFunc_api_Span_api_Span (d.1, d.2.1, ())).bind fun (r1 : Int × Unit) =>
  some (decide (r1.1 ≥ 0), ())
noncomputable def sig_slices_ContainsFunc_api_Span_api_Span : Sig := ⟨[(.slice (.pair (.int .i64) (.pair (.int .i64) .unit))), (.fn 39 .unit)], [.val .bool], slices_ContainsFunc_api_Span_api_Span⟩
noncomputable def env_slices_ContainsFunc_api_Span_api_Span : Env := fun g => bif Nat.beq g 62 then [sig_slices_IndexFunc_api_Span_api_Span] else []
def ann_slices_ContainsFunc_api_Span_api_Span : Ann := fun p => none
theorem envok_slices_ContainsFunc_api_Span_api_Span : EnvOK Tryz.prog (Laid Tryz.prog) env_slices_ContainsFunc_api_Span_api_Span := fun g s hs => by
  simp only [env_slices_ContainsFunc_api_Span_api_Span] at hs
  cases hg : Nat.beq g 62 with
  | true =>
    rw [hg, cond_true] at hs
    obtain rfl := Nat.eq_of_beq_eq_true hg
    simp only [List.mem_cons, List.not_mem_nil, or_false] at hs
    rcases hs with rfl
    · exact ok_slices_IndexFunc_api_Span_api_Span
  | false =>
  rw [hg, cond_false] at hs
  cases hs
theorem den_slices_ContainsFunc_api_Span_api_Span (d : ShD sig_slices_ContainsFunc_api_Span_api_Span.ins) : sig_slices_ContainsFunc_api_Span_api_Span.f d = funDen tt env_slices_ContainsFunc_api_Span_api_Span ann_slices_ContainsFunc_api_Span_api_Span Tryz.f40 sig_slices_ContainsFunc_api_Span_api_Span.ins sig_slices_ContainsFunc_api_Span_api_Span.outs d := by kernel_rfl
theorem ok_slices_ContainsFunc_api_Span_api_Span : SigOK Tryz.prog (Laid Tryz.prog) 40 sig_slices_ContainsFunc_api_Span_api_Span := sig_of hT hS envok_slices_ContainsFunc_api_Span_api_Span mixed ann_slices_ContainsFunc_api_Span_api_Span Tryz.func40 (by kernel_rfl) den_slices_ContainsFunc_api_Span_api_Span

noncomputable def word_Print (d : Int × Unit) : Option ((List UInt8) × Unit) :=
  (sig_Itoa.f (d.1, ())).bind fun (r1 : (List UInt8) × Unit) =>
  some (r1.1, ())
noncomputable def sig_word_Print : Sig := ⟨[(.int .i64)], [.val .str], word_Print⟩
noncomputable def env_word_Print : Env := fun g => bif Nat.beq g 65 then [sig_Itoa] else []
def ann_word_Print : Ann := fun p => none
theorem envok_word_Print : EnvOK Tryz.prog (Laid Tryz.prog) env_word_Print := fun g s hs => by
  simp only [env_word_Print] at hs
  cases hg : Nat.beq g 65 with
  | true =>
    rw [hg, cond_true] at hs
    obtain rfl := Nat.eq_of_beq_eq_true hg
    simp only [List.mem_cons, List.not_mem_nil, or_false] at hs
    rcases hs with rfl
    · exact okL_Itoa
  | false =>
  rw [hg, cond_false] at hs
  cases hs
theorem den_word_Print (d : ShD sig_word_Print.ins) : sig_word_Print.f d = funDen tt env_word_Print ann_word_Print Tryz.f42 sig_word_Print.ins sig_word_Print.outs d := by kernel_rfl
theorem ok_word_Print : SigOK Tryz.prog (Laid Tryz.prog) 42 sig_word_Print := sig_of hT hS envok_word_Print mixed ann_word_Print Tryz.func42 (by kernel_rfl) den_word_Print

noncomputable def word_Join (d : (List (List UInt8)) × Unit) : Option ((List UInt8) × Unit) :=
  let a1 : List Int := ([32] : List Int)
  (sig_Join.f (d.1, bytesOf a1, ())).bind fun (r2 : (List UInt8) × Unit) =>
  some (r2.1, ())
noncomputable def sig_word_Join : Sig := ⟨[(.slice .str)], [.val .str], word_Join⟩
noncomputable def env_word_Join : Env := fun g => bif Nat.beq g 66 then [sig_Join] else []
def ann_word_Join : Ann := fun p => none
theorem envok_word_Join : EnvOK Tryz.prog (Laid Tryz.prog) env_word_Join := fun g s hs => by
  simp only [env_word_Join] at hs
  cases hg : Nat.beq g 66 with
  | true =>
    rw [hg, cond_true] at hs
    obtain rfl := Nat.eq_of_beq_eq_true hg
    simp only [List.mem_cons, List.not_mem_nil, or_false] at hs
    rcases hs with rfl
    · exact okL_Join
  | false =>
  rw [hg, cond_false] at hs
  cases hs
theorem den_word_Join (d : ShD sig_word_Join.ins) : sig_word_Join.f d = funDen tt env_word_Join ann_word_Join Tryz.f43 sig_word_Join.ins sig_word_Join.outs d := by kernel_rfl
theorem ok_word_Join : SigOK Tryz.prog (Laid Tryz.prog) 43 sig_word_Join := sig_of hT hS envok_word_Join mixed ann_word_Join Tryz.func43 (by kernel_rfl) den_word_Join

noncomputable def paper_numbers_L29 (d : (List UInt8) × (List Int) × Unit) (d2 : ((Unit × Int × Unit) × ((List (List UInt8)) × Unit))) : Option (((Unit × Int × Unit) × ((List (List UInt8)) × Unit)) ⊕ ((List UInt8) × Unit)) :=
  bif decide (d2.1.2.1 < (d.2.1.length : Int)) then
    (geti d.2.1 d2.1.2.1).bind fun (e3 : Int) =>
    (word_Print (e3, ())).bind fun (r4 : (List UInt8) × Unit) =>
    let a5 : List (List UInt8) := ([r4.1] : List (List UInt8))
    chk (decide (d2.2.1.length + a5.length ≤ LIM)) <|
    let a6 : List (List UInt8) := d2.2.1 ++ a5
    some (.inl (((), w64 (d2.1.2.1 + 1), ()), a6, ()))
  else
  Option.map Sum.inr (
    (word_Join (d2.2.1, ())).bind fun (r7 : (List UInt8) × Unit) =>
    some (r7.1, ()))
noncomputable def paper_numbers (d : (List UInt8) × (List Int) × Unit) : Option ((List UInt8) × Unit) :=
  let a1 : List (List UInt8) := ([d.1] : List (List UInt8))
  iterW (ρ := (List UInt8) × Unit) (paper_numbers_L29 d) (((), 0, ()), a1, ())
noncomputable def sig_paper_numbers : Sig := ⟨[.str, (.slice (.int .i64))], [.val .str], paper_numbers⟩
noncomputable def env_paper_numbers : Env := fun g => bif Nat.beq g 42 then [sig_word_Print] else bif Nat.beq g 43 then [sig_word_Join] else []
def ann_paper_numbers : Ann := fun p => bif Nat.beq p 6 then some ⟨[], [], [9], [], [], 0⟩ else bif Nat.beq p 29 then some ⟨[(5, (.ref 7 .str)), (12, (.int .i64))], [(7, .arr 9 .str)], [], [2], [7, 13, 14, 15, 16, 17, 18, 19, 20, 21], 8⟩ else none
theorem envok_paper_numbers : EnvOK Tryz.prog (Laid Tryz.prog) env_paper_numbers := fun g s hs => by
  simp only [env_paper_numbers] at hs
  cases hg : Nat.beq g 42 with
  | true =>
    rw [hg, cond_true] at hs
    obtain rfl := Nat.eq_of_beq_eq_true hg
    simp only [List.mem_cons, List.not_mem_nil, or_false] at hs
    rcases hs with rfl
    · exact ok_word_Print
  | false =>
  rw [hg, cond_false] at hs
  cases hg : Nat.beq g 43 with
  | true =>
    rw [hg, cond_true] at hs
    obtain rfl := Nat.eq_of_beq_eq_true hg
    simp only [List.mem_cons, List.not_mem_nil, or_false] at hs
    rcases hs with rfl
    · exact ok_word_Join
  | false =>
  rw [hg, cond_false] at hs
  cases hs
theorem den_paper_numbers (d : ShD sig_paper_numbers.ins) : sig_paper_numbers.f d = funDen tt env_paper_numbers ann_paper_numbers Tryz.f63 sig_paper_numbers.ins sig_paper_numbers.outs d := by kernel_rfl
theorem ok_paper_numbers : SigOK Tryz.prog (Laid Tryz.prog) 63 sig_paper_numbers := sig_of hT hS envok_paper_numbers mixed ann_paper_numbers Tryz.func63 (by kernel_rfl) den_paper_numbers

noncomputable def word_Told (d : (Int × Int × Unit) × Unit) : Option ((List UInt8) × Unit) :=
  (word_Print (d.1.1, ())).bind fun (r1 : (List UInt8) × Unit) =>
  chk (decide (r1.1.length + ([45] : List UInt8).length ≤ LIM)) <|
  let s2 : List UInt8 := r1.1 ++ ([45] : List UInt8)
  (word_Print (d.1.2.1, ())).bind fun (r3 : (List UInt8) × Unit) =>
  chk (decide (s2.length + r3.1.length ≤ LIM)) <|
  let s4 : List UInt8 := s2 ++ r3.1
  some (s4, ())
noncomputable def sig_word_Told : Sig := ⟨[(.pair (.int .i64) (.pair (.int .i64) .unit))], [.val .str], word_Told⟩
noncomputable def env_word_Told : Env := fun g => bif Nat.beq g 42 then [sig_word_Print] else []
def ann_word_Told : Ann := fun p => none
theorem envok_word_Told : EnvOK Tryz.prog (Laid Tryz.prog) env_word_Told := fun g s hs => by
  simp only [env_word_Told] at hs
  cases hg : Nat.beq g 42 with
  | true =>
    rw [hg, cond_true] at hs
    obtain rfl := Nat.eq_of_beq_eq_true hg
    simp only [List.mem_cons, List.not_mem_nil, or_false] at hs
    rcases hs with rfl
    · exact ok_word_Print
  | false =>
  rw [hg, cond_false] at hs
  cases hs
theorem den_word_Told (d : ShD sig_word_Told.ins) : sig_word_Told.f d = funDen tt env_word_Told ann_word_Told Tryz.f64 sig_word_Told.ins sig_word_Told.outs d := by kernel_rfl
theorem ok_word_Told : SigOK Tryz.prog (Laid Tryz.prog) 64 sig_word_Told := sig_of hT hS envok_word_Told mixed ann_word_Told Tryz.func64 (by kernel_rfl) den_word_Told

noncomputable def paper_Order_L29 (d : (Int × Int × Int × Int × (List (Int × Int × Unit)) × Unit) × Unit) (d4 : ((Unit × Int × Unit) × ((List (List UInt8)) × Unit))) : Option (((Unit × Int × Unit) × ((List (List UInt8)) × Unit)) ⊕ ((List UInt8) × Unit)) :=
  let x5 : Bool := decide (d4.1.2.1 < (d.1.2.2.2.2.1.length : Int))
  bif x5 then
    (geti d.1.2.2.2.2.1 d4.1.2.1).bind fun (e6 : Int × Int × Unit) =>
    (word_Told ((e6.1, e6.2.1, ()), ())).bind fun (r7 : (List UInt8) × Unit) =>
    let a8 : List (List UInt8) := ([r7.1] : List (List UInt8))
    chk (decide (d4.2.1.length + a8.length ≤ LIM)) <|
    let a9 : List (List UInt8) := d4.2.1 ++ a8
    some (.inl (((), w64 (d4.1.2.1 + 1), ()), a9, ()))
  else
  Option.map Sum.inr (
    (word_Join (d4.2.1, ())).bind fun (r10 : (List UInt8) × Unit) =>
    some (r10.1, ()))
noncomputable def paper_Order (d : (Int × Int × Int × Int × (List (Int × Int × Unit)) × Unit) × Unit) : Option ((List UInt8) × Unit) :=
  let a1 : List Int := ([d.1.1, d.1.2.1, d.1.2.2.1, d.1.2.2.2.1] : List Int)
  (paper_numbers (([111, 114, 100, 101, 114] : List UInt8), a1, ())).bind fun (r2 : (List UInt8) × Unit) =>
  let a3 : List (List UInt8) := ([r2.1] : List (List UInt8))
  iterW (ρ := (List UInt8) × Unit) (paper_Order_L29 d) (((), 0, ()), a3, ())
noncomputable def sig_paper_Order : Sig := ⟨[(.pair (.int .i64) (.pair (.int .i64) (.pair (.int .i64) (.pair (.int .i64) (.pair (.slice (.pair (.int .i64) (.pair (.int .i64) .unit))) .unit)))))], [.val .str], paper_Order⟩
noncomputable def env_paper_Order : Env := fun g => bif Nat.beq g 63 then [sig_paper_numbers] else bif Nat.beq g 64 then [sig_word_Told] else bif Nat.beq g 43 then [sig_word_Join] else []
def ann_paper_Order : Ann := fun p => bif Nat.beq p 6 then some ⟨[], [], [16], [], [], 0⟩ else bif Nat.beq p 29 then some ⟨[(3, (.ref 18 .str)), (20, (.int .i64))], [(18, .arr 9 .str)], [], [12], [5, 21, 22, 23, 24, 25, 26, 27, 28, 29], 19⟩ else none
theorem envok_paper_Order : EnvOK Tryz.prog (Laid Tryz.prog) env_paper_Order := fun g s hs => by
  simp only [env_paper_Order] at hs
  cases hg : Nat.beq g 63 with
  | true =>
    rw [hg, cond_true] at hs
    obtain rfl := Nat.eq_of_beq_eq_true hg
    simp only [List.mem_cons, List.not_mem_nil, or_false] at hs
    rcases hs with rfl
    · exact ok_paper_numbers
  | false =>
  rw [hg, cond_false] at hs
  cases hg : Nat.beq g 64 with
  | true =>
    rw [hg, cond_true] at hs
    obtain rfl := Nat.eq_of_beq_eq_true hg
    simp only [List.mem_cons, List.not_mem_nil, or_false] at hs
    rcases hs with rfl
    · exact ok_word_Told
  | false =>
  rw [hg, cond_false] at hs
  cases hg : Nat.beq g 43 with
  | true =>
    rw [hg, cond_true] at hs
    obtain rfl := Nat.eq_of_beq_eq_true hg
    simp only [List.mem_cons, List.not_mem_nil, or_false] at hs
    rcases hs with rfl
    · exact ok_word_Join
  | false =>
  rw [hg, cond_false] at hs
  cases hs
theorem den_paper_Order (d : ShD sig_paper_Order.ins) : sig_paper_Order.f d = funDen tt env_paper_Order ann_paper_Order Tryz.f41 sig_paper_Order.ins sig_paper_Order.outs d := by kernel_rfl
theorem ok_paper_Order : SigOK Tryz.prog (Laid Tryz.prog) 41 sig_paper_Order := sig_of hT hS envok_paper_Order mixed ann_paper_Order Tryz.func41 (by kernel_rfl) den_paper_Order

noncomputable def script_order (d : (Int × Int × Int × Int × (List (Int × Int × Unit)) × Unit) × Unit) : Option ((List UInt8) × Bool × Unit) :=
  let a1 : List Int := ([d.1.1, d.1.2.1, d.1.2.2.2.1] : List Int)
  (script_plain (a1, ())).bind fun (r2 : Bool × Unit) =>
  Option.bind (bif !(!r2.1) then
    some (decide (d.1.2.2.1 < (-1000000000)))
  else some true) fun (b3 : Bool) =>
  Option.bind (bif !b3 then
    some (decide (d.1.2.2.1 > 1000000000))
  else some true) fun (b4 : Bool) =>
  Option.bind (bif !b4 then
    (slices_ContainsFunc_api_Span_api_Span (d.1.2.2.2.2.1, (), ())).bind fun (r5 : Bool × Unit) =>
    some r5.1
  else some true) fun (b6 : Bool) =>
  bif b6 then
    some (([] : List UInt8), false, ())
  else
  (paper_Order ((d.1.1, d.1.2.1, d.1.2.2.1, d.1.2.2.2.1, d.1.2.2.2.2.1, ()), ())).bind fun (r7 : (List UInt8) × Unit) =>
  some (r7.1, true, ())
noncomputable def sig_script_order : Sig := ⟨[(.pair (.int .i64) (.pair (.int .i64) (.pair (.int .i64) (.pair (.int .i64) (.pair (.slice (.pair (.int .i64) (.pair (.int .i64) .unit))) .unit)))))], [.val .str, .val .bool], script_order⟩
noncomputable def env_script_order : Env := fun g => bif Nat.beq g 17 then [sig_script_plain] else bif Nat.beq g 40 then [sig_slices_ContainsFunc_api_Span_api_Span] else bif Nat.beq g 41 then [sig_paper_Order] else []
def ann_script_order : Ann := fun p => none
theorem envok_script_order : EnvOK Tryz.prog (Laid Tryz.prog) env_script_order := fun g s hs => by
  simp only [env_script_order] at hs
  cases hg : Nat.beq g 17 with
  | true =>
    rw [hg, cond_true] at hs
    obtain rfl := Nat.eq_of_beq_eq_true hg
    simp only [List.mem_cons, List.not_mem_nil, or_false] at hs
    rcases hs with rfl
    · exact ok_script_plain
  | false =>
  rw [hg, cond_false] at hs
  cases hg : Nat.beq g 40 with
  | true =>
    rw [hg, cond_true] at hs
    obtain rfl := Nat.eq_of_beq_eq_true hg
    simp only [List.mem_cons, List.not_mem_nil, or_false] at hs
    rcases hs with rfl
    · exact ok_slices_ContainsFunc_api_Span_api_Span
  | false =>
  rw [hg, cond_false] at hs
  cases hg : Nat.beq g 41 with
  | true =>
    rw [hg, cond_true] at hs
    obtain rfl := Nat.eq_of_beq_eq_true hg
    simp only [List.mem_cons, List.not_mem_nil, or_false] at hs
    rcases hs with rfl
    · exact ok_paper_Order
  | false =>
  rw [hg, cond_false] at hs
  cases hs
theorem den_script_order (d : ShD sig_script_order.ins) : sig_script_order.f d = funDen tt env_script_order ann_script_order Tryz.f15 sig_script_order.ins sig_script_order.outs d := by kernel_rfl
theorem ok_script_order : SigOK Tryz.prog (Laid Tryz.prog) 15 sig_script_order := sig_of hT hS envok_script_order mixed ann_script_order Tryz.func15 (by kernel_rfl) den_script_order

noncomputable def script_numbers_L29 (d : (List UInt8) × (List Int) × Unit) (d2 : ((Unit × Int × Unit) × ((List (List UInt8)) × Unit))) : Option (((Unit × Int × Unit) × ((List (List UInt8)) × Unit)) ⊕ ((List UInt8) × Unit)) :=
  bif decide (d2.1.2.1 < (d.2.1.length : Int)) then
    (geti d.2.1 d2.1.2.1).bind fun (e3 : Int) =>
    (word_Print (e3, ())).bind fun (r4 : (List UInt8) × Unit) =>
    let a5 : List (List UInt8) := ([r4.1] : List (List UInt8))
    chk (decide (d2.2.1.length + a5.length ≤ LIM)) <|
    let a6 : List (List UInt8) := d2.2.1 ++ a5
    some (.inl (((), w64 (d2.1.2.1 + 1), ()), a6, ()))
  else
  Option.map Sum.inr (
    (word_Join (d2.2.1, ())).bind fun (r7 : (List UInt8) × Unit) =>
    some (r7.1, ()))
noncomputable def script_numbers (d : (List UInt8) × (List Int) × Unit) : Option ((List UInt8) × Unit) :=
  let a1 : List (List UInt8) := ([d.1] : List (List UInt8))
  iterW (ρ := (List UInt8) × Unit) (script_numbers_L29 d) (((), 0, ()), a1, ())
noncomputable def sig_script_numbers : Sig := ⟨[.str, (.slice (.int .i64))], [.val .str], script_numbers⟩
noncomputable def env_script_numbers : Env := fun g => bif Nat.beq g 42 then [sig_word_Print] else bif Nat.beq g 43 then [sig_word_Join] else []
def ann_script_numbers : Ann := fun p => bif Nat.beq p 6 then some ⟨[], [], [9], [], [], 0⟩ else bif Nat.beq p 29 then some ⟨[(5, (.ref 7 .str)), (12, (.int .i64))], [(7, .arr 9 .str)], [], [2], [7, 13, 14, 15, 16, 17, 18, 19, 20, 21], 8⟩ else none
theorem envok_script_numbers : EnvOK Tryz.prog (Laid Tryz.prog) env_script_numbers := fun g s hs => by
  simp only [env_script_numbers] at hs
  cases hg : Nat.beq g 42 with
  | true =>
    rw [hg, cond_true] at hs
    obtain rfl := Nat.eq_of_beq_eq_true hg
    simp only [List.mem_cons, List.not_mem_nil, or_false] at hs
    rcases hs with rfl
    · exact ok_word_Print
  | false =>
  rw [hg, cond_false] at hs
  cases hg : Nat.beq g 43 with
  | true =>
    rw [hg, cond_true] at hs
    obtain rfl := Nat.eq_of_beq_eq_true hg
    simp only [List.mem_cons, List.not_mem_nil, or_false] at hs
    rcases hs with rfl
    · exact ok_word_Join
  | false =>
  rw [hg, cond_false] at hs
  cases hs
theorem den_script_numbers (d : ShD sig_script_numbers.ins) : sig_script_numbers.f d = funDen tt env_script_numbers ann_script_numbers Tryz.f16 sig_script_numbers.ins sig_script_numbers.outs d := by kernel_rfl
theorem ok_script_numbers : SigOK Tryz.prog (Laid Tryz.prog) 16 sig_script_numbers := sig_of hT hS envok_script_numbers mixed ann_script_numbers Tryz.func16 (by kernel_rfl) den_script_numbers

noncomputable def record_kind (d : Int × Unit) : Option (Bool × Unit) :=
  Option.bind (bif decide (d.1 ≥ 0) then
    some (decide (d.1 < 4))
  else some false) fun (b1 : Bool) =>
  some (b1, ())
noncomputable def sig_record_kind : Sig := ⟨[(.int .i64)], [.val .bool], record_kind⟩
noncomputable def env_record_kind : Env := fun g => []
def ann_record_kind : Ann := fun p => none
theorem envok_record_kind : EnvOK Tryz.prog (Laid Tryz.prog) env_record_kind := fun g s hs => by cases hs
theorem den_record_kind (d : ShD sig_record_kind.ins) : sig_record_kind.f d = funDen tt env_record_kind ann_record_kind Tryz.f90 sig_record_kind.ins sig_record_kind.outs d := by kernel_rfl
theorem ok_record_kind : SigOK Tryz.prog (Laid Tryz.prog) 90 sig_record_kind := sig_of hT hS envok_record_kind mixed ann_record_kind Tryz.func90 (by kernel_rfl) den_record_kind

noncomputable def record_in (d : Int × Unit) : Option (Bool × Unit) :=
  Option.bind (bif decide (d.1 ≥ 0) then
    some (decide (d.1 ≤ 40320))
  else some false) fun (b1 : Bool) =>
  some (b1, ())
noncomputable def sig_record_in : Sig := ⟨[(.int .i64)], [.val .bool], record_in⟩
noncomputable def env_record_in : Env := fun g => []
def ann_record_in : Ann := fun p => none
theorem envok_record_in : EnvOK Tryz.prog (Laid Tryz.prog) env_record_in := fun g s hs => by cases hs
theorem den_record_in (d : ShD sig_record_in.ins) : sig_record_in.f d = funDen tt env_record_in ann_record_in Tryz.f91 sig_record_in.ins sig_record_in.outs d := by kernel_rfl
theorem ok_record_in : SigOK Tryz.prog (Laid Tryz.prog) 91 sig_record_in := sig_of hT hS envok_record_in mixed ann_record_in Tryz.func91 (by kernel_rfl) den_record_in

noncomputable def record_fault (d : (Int × Int × Int × Unit) × Unit) : Option (Int × Unit) :=
  (record_kind (d.1.1, ())).bind fun (r1 : Bool × Unit) =>
  bif !r1.1 then
    some (2, ())
  else
  (record_in (d.1.2.1, ())).bind fun (r2 : Bool × Unit) =>
  Option.bind (bif !(!r2.1) then
    (record_in (d.1.2.2.1, ())).bind fun (r3 : Bool × Unit) =>
    some (!r3.1)
  else some true) fun (b4 : Bool) =>
  bif b4 then
    some (4, ())
  else
  bif decide (d.1.2.2.1 ≤ d.1.2.1) then
    some (3, ())
  else
  some (0, ())
noncomputable def sig_record_fault : Sig := ⟨[(.pair (.int .i64) (.pair (.int .i64) (.pair (.int .i64) .unit)))], [.val (.int .i64)], record_fault⟩
noncomputable def env_record_fault : Env := fun g => bif Nat.beq g 90 then [sig_record_kind] else bif Nat.beq g 91 then [sig_record_in] else []
def ann_record_fault : Ann := fun p => none
theorem envok_record_fault : EnvOK Tryz.prog (Laid Tryz.prog) env_record_fault := fun g s hs => by
  simp only [env_record_fault] at hs
  cases hg : Nat.beq g 90 with
  | true =>
    rw [hg, cond_true] at hs
    obtain rfl := Nat.eq_of_beq_eq_true hg
    simp only [List.mem_cons, List.not_mem_nil, or_false] at hs
    rcases hs with rfl
    · exact ok_record_kind
  | false =>
  rw [hg, cond_false] at hs
  cases hg : Nat.beq g 91 with
  | true =>
    rw [hg, cond_true] at hs
    obtain rfl := Nat.eq_of_beq_eq_true hg
    simp only [List.mem_cons, List.not_mem_nil, or_false] at hs
    rcases hs with rfl
    · exact ok_record_in
  | false =>
  rw [hg, cond_false] at hs
  cases hs
theorem den_record_fault (d : ShD sig_record_fault.ins) : sig_record_fault.f d = funDen tt env_record_fault ann_record_fault Tryz.f82 sig_record_fault.ins sig_record_fault.outs d := by kernel_rfl
theorem ok_record_fault : SigOK Tryz.prog (Laid Tryz.prog) 82 sig_record_fault := sig_of hT hS envok_record_fault mixed ann_record_fault Tryz.func82 (by kernel_rfl) den_record_fault

noncomputable def record_Check_L13 (d : (List (Int × Int × Int × Unit)) × Unit) (d1 : ((Int × Unit) × (Unit))) : Option (((Int × Unit) × (Unit)) ⊕ (Int × Int × Unit)) :=
  bif decide (d1.1.1 < (d.1.length : Int)) then
    (geti d.1 d1.1.1).bind fun (e2 : Int × Int × Int × Unit) =>
    (record_fault ((e2.1, e2.2.1, e2.2.2.1, ()), ())).bind fun (r3 : Int × Unit) =>
    bif (r3.1 != 0) then
      some (.inr (d1.1.1, r3.1, ()))
    else
    bif (d1.1.1 == 0) then
      some (.inl ((w64 (d1.1.1 + 1), ()), ()))
    else
    (geti d.1 (w64 (d1.1.1 - 1))).bind fun (e4 : Int × Int × Int × Unit) =>
    bif decide (e2.2.1 > e4.2.2.1) then
      some (.inr (d1.1.1, 5, ()))
    else
    bif decide (e2.2.1 < e4.2.2.1) then
      some (.inr (d1.1.1, 6, ()))
    else
    some (.inl ((w64 (d1.1.1 + 1), ()), ()))
  else
  some (.inr (0, 0, ()))
noncomputable def record_Check (d : (List (Int × Int × Int × Unit)) × Unit) : Option (Int × Int × Unit) :=
  iterW (ρ := Int × Int × Unit) (record_Check_L13 d) ((0, ()), ())
noncomputable def sig_record_Check : Sig := ⟨[(.slice (.pair (.int .i64) (.pair (.int .i64) (.pair (.int .i64) .unit))))], [.val (.int .i64), .val (.int .i64)], record_Check⟩
noncomputable def env_record_Check : Env := fun g => bif Nat.beq g 82 then [sig_record_fault] else []
def ann_record_Check : Ann := fun p => bif Nat.beq p 13 then some ⟨[(10, (.int .i64))], [], [], [], [2, 3, 4, 5, 6, 7, 11, 12, 13, 14, 15, 16, 17, 18, 19, 20, 21, 22, 23, 24, 25, 26, 27, 28, 29, 30, 31, 32, 33, 34, 35, 36, 37, 38, 39, 40, 41], 5⟩ else none
theorem envok_record_Check : EnvOK Tryz.prog (Laid Tryz.prog) env_record_Check := fun g s hs => by
  simp only [env_record_Check] at hs
  cases hg : Nat.beq g 82 with
  | true =>
    rw [hg, cond_true] at hs
    obtain rfl := Nat.eq_of_beq_eq_true hg
    simp only [List.mem_cons, List.not_mem_nil, or_false] at hs
    rcases hs with rfl
    · exact ok_record_fault
  | false =>
  rw [hg, cond_false] at hs
  cases hs
theorem den_record_Check (d : ShD sig_record_Check.ins) : sig_record_Check.f d = funDen tt env_record_Check ann_record_Check Tryz.f68 sig_record_Check.ins sig_record_Check.outs d := by kernel_rfl
theorem ok_record_Check : SigOK Tryz.prog (Laid Tryz.prog) 68 sig_record_Check := sig_of hT hS envok_record_Check mixed ann_record_Check Tryz.func68 (by kernel_rfl) den_record_Check

noncomputable def view_Letter (d : Int × Unit) : Option (Int × Bool × Unit) :=
  Option.bind (bif !(decide (d.1 < 0)) then
    some (decide (d.1 ≥ 4))
  else some true) fun (b1 : Bool) =>
  bif b1 then
    some (0, false, ())
  else
  (geti ([82, 65, 87, 68] : List UInt8) d.1).bind fun (c2 : UInt8) =>
  some ((c2.toNat : Int), true, ())
noncomputable def sig_view_Letter : Sig := ⟨[(.int .i64)], [.val (.int .u8), .val .bool], view_Letter⟩
noncomputable def env_view_Letter : Env := fun g => []
def ann_view_Letter : Ann := fun p => none
theorem envok_view_Letter : EnvOK Tryz.prog (Laid Tryz.prog) env_view_Letter := fun g s hs => by cases hs
theorem den_view_Letter (d : ShD sig_view_Letter.ins) : sig_view_Letter.f d = funDen tt env_view_Letter ann_view_Letter Tryz.f69 sig_view_Letter.ins sig_view_Letter.outs d := by kernel_rfl
theorem ok_view_Letter : SigOK Tryz.prog (Laid Tryz.prog) 69 sig_view_Letter := sig_of hT hS envok_view_Letter mixed ann_view_Letter Tryz.func69 (by kernel_rfl) den_view_Letter

noncomputable def tape_Line (d : (Int × Int × Int × Unit) × Unit) : Option ((List UInt8) × Int × Unit) :=
  let a1 : List (Int × Int × Int × Unit) := ([(d.1.1, d.1.2.1, d.1.2.2.1, ())] : List (Int × Int × Int × Unit))
  (record_Check (a1, ())).bind fun (r2 : Int × Int × Unit) =>
  bif (r2.2.1 != 0) then
    some (([] : List UInt8), r2.2.1, ())
  else
  (view_Letter (d.1.1, ())).bind fun (r3 : Int × Bool × Unit) =>
  (word_Told ((d.1.2.1, d.1.2.2.1, ()), ())).bind fun (r4 : (List UInt8) × Unit) =>
  let a5 : List (List UInt8) := ([bytesOf ([r3.1] : List Int), r4.1] : List (List UInt8))
  (word_Join (a5, ())).bind fun (r6 : (List UInt8) × Unit) =>
  some (r6.1, 0, ())
noncomputable def sig_tape_Line : Sig := ⟨[(.pair (.int .i64) (.pair (.int .i64) (.pair (.int .i64) .unit)))], [.val .str, .val (.int .i64)], tape_Line⟩
noncomputable def env_tape_Line : Env := fun g => bif Nat.beq g 68 then [sig_record_Check] else bif Nat.beq g 69 then [sig_view_Letter] else bif Nat.beq g 64 then [sig_word_Told] else bif Nat.beq g 43 then [sig_word_Join] else []
def ann_tape_Line : Ann := fun p => none
theorem envok_tape_Line : EnvOK Tryz.prog (Laid Tryz.prog) env_tape_Line := fun g s hs => by
  simp only [env_tape_Line] at hs
  cases hg : Nat.beq g 68 with
  | true =>
    rw [hg, cond_true] at hs
    obtain rfl := Nat.eq_of_beq_eq_true hg
    simp only [List.mem_cons, List.not_mem_nil, or_false] at hs
    rcases hs with rfl
    · exact ok_record_Check
  | false =>
  rw [hg, cond_false] at hs
  cases hg : Nat.beq g 69 with
  | true =>
    rw [hg, cond_true] at hs
    obtain rfl := Nat.eq_of_beq_eq_true hg
    simp only [List.mem_cons, List.not_mem_nil, or_false] at hs
    rcases hs with rfl
    · exact ok_view_Letter
  | false =>
  rw [hg, cond_false] at hs
  cases hg : Nat.beq g 64 with
  | true =>
    rw [hg, cond_true] at hs
    obtain rfl := Nat.eq_of_beq_eq_true hg
    simp only [List.mem_cons, List.not_mem_nil, or_false] at hs
    rcases hs with rfl
    · exact ok_word_Told
  | false =>
  rw [hg, cond_false] at hs
  cases hg : Nat.beq g 43 with
  | true =>
    rw [hg, cond_true] at hs
    obtain rfl := Nat.eq_of_beq_eq_true hg
    simp only [List.mem_cons, List.not_mem_nil, or_false] at hs
    rcases hs with rfl
    · exact ok_word_Join
  | false =>
  rw [hg, cond_false] at hs
  cases hs
theorem den_tape_Line (d : ShD sig_tape_Line.ins) : sig_tape_Line.f d = funDen tt env_tape_Line ann_tape_Line Tryz.f46 sig_tape_Line.ins sig_tape_Line.outs d := by kernel_rfl
theorem ok_tape_Line : SigOK Tryz.prog (Laid Tryz.prog) 46 sig_tape_Line := sig_of hT hS envok_tape_Line mixed ann_tape_Line Tryz.func46 (by kernel_rfl) den_tape_Line

noncomputable def script_record_L29 (d : (Int × Int × Int × Int × Int × (List (Int × Int × Unit)) × Int × (List (Int × Int × Int × Unit)) × Int × Int × Int × Int × (List Int) × Unit) × Unit) (d4 : ((Unit × Int × Unit) × ((List (List UInt8)) × Unit))) : Option (((Unit × Int × Unit) × ((List (List UInt8)) × Unit)) ⊕ (((Unit × Unit) × ((List (List UInt8)) × Unit)) ⊕ ((List UInt8) × Bool × Unit))) :=
  let x5 : Bool := decide (d4.1.2.1 < (d.1.2.2.2.2.2.2.2.1.length : Int))
  bif x5 then
    (geti d.1.2.2.2.2.2.2.2.1 d4.1.2.1).bind fun (e6 : Int × Int × Int × Unit) =>
    (tape_Line ((e6.1, e6.2.1, e6.2.2.1, ()), ())).bind fun (r7 : (List UInt8) × Int × Unit) =>
    bif (r7.2.1 != 0) then
      some (.inr (.inr (([] : List UInt8), false, ())))
    else
    let a8 : List (List UInt8) := ([r7.1] : List (List UInt8))
    chk (decide (d4.2.1.length + a8.length ≤ LIM)) <|
    let a9 : List (List UInt8) := d4.2.1 ++ a8
    some (.inl (((), w64 (d4.1.2.1 + 1), ()), a9, ()))
  else
  some (.inr (.inl (((), ()), d4.2.1, ())))
noncomputable def script_record (d : (Int × Int × Int × Int × Int × (List (Int × Int × Unit)) × Int × (List (Int × Int × Int × Unit)) × Int × Int × Int × Int × (List Int) × Unit) × Unit) : Option ((List UInt8) × Bool × Unit) :=
  let a1 : List Int := ([d.1.2.2.2.2.2.2.1] : List Int)
  (script_numbers (([114, 101, 99, 111, 114, 100] : List UInt8), a1, ())).bind fun (r2 : (List UInt8) × Unit) =>
  let a3 : List (List UInt8) := ([r2.1] : List (List UInt8))
  joinS (
    iterW (ρ := ((Unit × Unit) × ((List (List UInt8)) × Unit)) ⊕ ((List UInt8) × Bool × Unit)) (script_record_L29 d) (((), 0, ()), a3, ())) fun (d10 : ((Unit × Unit) × ((List (List UInt8)) × Unit))) =>
  (word_Join (d10.2.1, ())).bind fun (r11 : (List UInt8) × Unit) =>
  (script_plain (([d.1.2.2.2.2.2.2.1] : List Int), ())).bind fun (r12 : Bool × Unit) =>
  some (r11.1, r12.1, ())
noncomputable def sig_script_record : Sig := ⟨[(.pair (.int .i64) (.pair (.int .i64) (.pair (.int .i64) (.pair (.int .i64) (.pair (.int .i64) (.pair (.slice (.pair (.int .i64) (.pair (.int .i64) .unit))) (.pair (.int .i64) (.pair (.slice (.pair (.int .i64) (.pair (.int .i64) (.pair (.int .i64) .unit)))) (.pair (.int .i64) (.pair (.int .i64) (.pair (.int .i64) (.pair (.int .i64) (.pair (.slice (.int .i64)) .unit)))))))))))))], [.val .str, .val .bool], script_record⟩
noncomputable def env_script_record : Env := fun g => bif Nat.beq g 16 then [sig_script_numbers] else bif Nat.beq g 46 then [sig_tape_Line] else bif Nat.beq g 43 then [sig_word_Join] else bif Nat.beq g 17 then [sig_script_plain] else []
def ann_script_record : Ann := fun p => bif Nat.beq p 6 then some ⟨[], [], [13], [], [], 0⟩ else bif Nat.beq p 29 then some ⟨[(4, (.ref 13 .str)), (17, (.int .i64))], [(13, .arr 9 .str)], [], [7], [2, 3, 6, 7, 8, 18, 19, 20, 21, 22, 23, 24, 25, 26, 27, 28, 29, 30, 31, 32], 14⟩ else bif Nat.beq p 7 then some ⟨[(4, (.ref 9 .str))], [(9, .arr 9 .str)], [], [7], [2, 3, 6, 7, 8, 14, 15, 16, 17, 18, 19, 20, 21, 22, 23, 24, 25, 26, 27, 28, 29, 30, 31, 32], 10⟩ else none
theorem envok_script_record : EnvOK Tryz.prog (Laid Tryz.prog) env_script_record := fun g s hs => by
  simp only [env_script_record] at hs
  cases hg : Nat.beq g 16 with
  | true =>
    rw [hg, cond_true] at hs
    obtain rfl := Nat.eq_of_beq_eq_true hg
    simp only [List.mem_cons, List.not_mem_nil, or_false] at hs
    rcases hs with rfl
    · exact ok_script_numbers
  | false =>
  rw [hg, cond_false] at hs
  cases hg : Nat.beq g 46 with
  | true =>
    rw [hg, cond_true] at hs
    obtain rfl := Nat.eq_of_beq_eq_true hg
    simp only [List.mem_cons, List.not_mem_nil, or_false] at hs
    rcases hs with rfl
    · exact ok_tape_Line
  | false =>
  rw [hg, cond_false] at hs
  cases hg : Nat.beq g 43 with
  | true =>
    rw [hg, cond_true] at hs
    obtain rfl := Nat.eq_of_beq_eq_true hg
    simp only [List.mem_cons, List.not_mem_nil, or_false] at hs
    rcases hs with rfl
    · exact ok_word_Join
  | false =>
  rw [hg, cond_false] at hs
  cases hg : Nat.beq g 17 with
  | true =>
    rw [hg, cond_true] at hs
    obtain rfl := Nat.eq_of_beq_eq_true hg
    simp only [List.mem_cons, List.not_mem_nil, or_false] at hs
    rcases hs with rfl
    · exact ok_script_plain
  | false =>
  rw [hg, cond_false] at hs
  cases hs
theorem den_script_record (d : ShD sig_script_record.ins) : sig_script_record.f d = funDen tt env_script_record ann_script_record Tryz.f18 sig_script_record.ins sig_script_record.outs d := by kernel_rfl
theorem ok_script_record : SigOK Tryz.prog (Laid Tryz.prog) 18 sig_script_record := sig_of hT hS envok_script_record mixed ann_script_record Tryz.func18 (by kernel_rfl) den_script_record

noncomputable def slices_Grow_int_int (d : Unit × Int × Unit) : Option ((List Int) × Unit) :=
  bif decide (d.2.1 < 0) then
    none
  else
  bif decide ((w64 (d.2.1 - 0)) > 0) then
    chk (decide (0 ≤ (w64 (d.2.1 - 0)) ∧ (w64 (d.2.1 - 0)) ≤ (LIM : Int))) <|
    let a1 : List Int := zerosOf (.int .i64) (w64 (d.2.1 - 0))
    chk (decide (0 ≤ (0 : Int) ∧ (0 : Int) ≤ (a1.length : Int))) <|
    let a2 : List Int := a1.take (0 : Int).toNat
    some (a2, ())
  else
  some ([], ())
noncomputable def sig_slices_Grow_int_int : Sig := ⟨[.nil, (.int .i64)], [.own 3 (.int .i64)], slices_Grow_int_int⟩
noncomputable def env_slices_Grow_int_int : Env := fun g => []
def ann_slices_Grow_int_int : Ann := fun p => bif Nat.beq p 118 then some ⟨[], [], [25], [], [], 0⟩ else none
theorem envok_slices_Grow_int_int : EnvOK Tryz.prog (Laid Tryz.prog) env_slices_Grow_int_int := fun g s hs => by cases hs
theorem den_slices_Grow_int_int (d : ShD sig_slices_Grow_int_int.ins) : sig_slices_Grow_int_int.f d = funDen tt env_slices_Grow_int_int ann_slices_Grow_int_int Tryz.f47 sig_slices_Grow_int_int.ins sig_slices_Grow_int_int.outs d := by kernel_rfl
theorem ok_slices_Grow_int_int : SigOK Tryz.prog (Laid Tryz.prog) 47 sig_slices_Grow_int_int := sig_of hT hS envok_slices_Grow_int_int mixed ann_slices_Grow_int_int Tryz.func47 (by kernel_rfl) den_slices_Grow_int_int

noncomputable def slices_Concat_int_int_L29 (d : (List (List Int)) × Unit) (d1 : ((Int × Int × Unit) × (Unit))) : Option (((Int × Int × Unit) × (Unit)) ⊕ (((Int × Unit) × (Unit)) ⊕ ((List Int) × Unit))) :=
  bif decide (d1.1.2.1 < (d.1.length : Int)) then
    (geti d.1 d1.1.2.1).bind fun (e2 : List Int) =>
    let x3 : Bool := decide ((w64 (d1.1.1 + (e2.length : Int))) < 0)
    bif x3 then
      none
    else
    some (.inl ((w64 (d1.1.1 + (e2.length : Int)), w64 (d1.1.2.1 + 1), ()), ()))
  else
  some (.inr (.inl ((d1.1.1, ()), ())))
noncomputable def slices_Concat_int_int_L125 (d : (List (List Int)) × Unit) (d6 : ((Unit × Int × Unit) × ((List Int) × Unit))) : Option (((Unit × Int × Unit) × ((List Int) × Unit)) ⊕ ((List Int) × Unit)) :=
  bif decide (d6.1.2.1 < (d.1.length : Int)) then
    (geti d.1 d6.1.2.1).bind fun (e7 : List Int) =>
    chk (decide (d6.2.1.length + e7.length ≤ LIM)) <|
    let a8 : List Int := d6.2.1 ++ e7
    some (.inl (((), w64 (d6.1.2.1 + 1), ()), a8, ()))
  else
  some (.inr (d6.2.1, ()))
noncomputable def slices_Concat_int_int (d : (List (List Int)) × Unit) : Option ((List Int) × Unit) :=
  joinS (
    iterW (ρ := ((Int × Unit) × (Unit)) ⊕ ((List Int) × Unit)) (slices_Concat_int_int_L29 d) ((0, 0, ()), ())) fun (d4 : ((Int × Unit) × (Unit))) =>
  (slices_Grow_int_int ((), d4.1.1, ())).bind fun (r5 : (List Int) × Unit) =>
  iterW (ρ := (List Int) × Unit) (slices_Concat_int_int_L125 d) (((), 0, ()), r5.1, ())
noncomputable def sig_slices_Concat_int_int : Sig := ⟨[(.slice (.slice (.int .i64)))], [.own 3 (.int .i64)], slices_Concat_int_int⟩
noncomputable def env_slices_Concat_int_int : Env := fun g => bif Nat.beq g 47 then [sig_slices_Grow_int_int] else []
def ann_slices_Concat_int_int : Ann := fun p => bif Nat.beq p 29 then some ⟨[(3, (.int .i64)), (11, (.int .i64))], [], [], [], [5, 12, 13, 14, 15, 16, 17, 18, 19, 20, 21, 22], 5⟩ else bif Nat.beq p 7 then some ⟨[(3, (.int .i64))], [], [], [], [5, 9, 10, 11, 12, 13, 14, 15, 16, 17, 18, 19, 20, 21, 22], 2⟩ else bif Nat.beq p 125 then some ⟨[(6, (.ref 8 (.int .i64))), (27, (.int .i64))], [(8, .arr 3 (.int .i64))], [], [3], [8, 28, 29, 30, 31, 32, 33, 34], 9⟩ else none
theorem envok_slices_Concat_int_int : EnvOK Tryz.prog (Laid Tryz.prog) env_slices_Concat_int_int := fun g s hs => by
  simp only [env_slices_Concat_int_int] at hs
  cases hg : Nat.beq g 47 with
  | true =>
    rw [hg, cond_true] at hs
    obtain rfl := Nat.eq_of_beq_eq_true hg
    simp only [List.mem_cons, List.not_mem_nil, or_false] at hs
    rcases hs with rfl
    · exact ok_slices_Grow_int_int
  | false =>
  rw [hg, cond_false] at hs
  cases hs
theorem den_slices_Concat_int_int (d : ShD sig_slices_Concat_int_int.ins) : sig_slices_Concat_int_int.f d = funDen tt env_slices_Concat_int_int ann_slices_Concat_int_int Tryz.f19 sig_slices_Concat_int_int.ins sig_slices_Concat_int_int.outs d := by kernel_rfl
theorem ok_slices_Concat_int_int : SigOK Tryz.prog (Laid Tryz.prog) 19 sig_slices_Concat_int_int := sig_of hT hS envok_slices_Concat_int_int mixed ann_slices_Concat_int_int Tryz.func19 (by kernel_rfl) den_slices_Concat_int_int

noncomputable def script_Line (d : (Int × Int × Int × Int × Int × (List (Int × Int × Unit)) × Int × (List (Int × Int × Int × Unit)) × Int × Int × Int × Int × (List Int) × Unit) × Unit) : Option ((List UInt8) × Int × Unit) :=
  joinS (
    bif (d.1.1 == 1) then
      (script_order ((d.1.2.1, d.1.2.2.1, d.1.2.2.2.1, d.1.2.2.2.2.1, d.1.2.2.2.2.2.1, ()), ())).bind fun (r1 : (List UInt8) × Bool × Unit) =>
      some (.inl ((r1.1, r1.2.1, ()), ()))
    else
    bif (d.1.1 == 2) then
      (script_numbers (([99, 97, 110, 99, 101, 108] : List UInt8), ([d.1.2.2.2.2.2.2.1] : List Int), ())).bind fun (r2 : (List UInt8) × Unit) =>
      (script_plain (([d.1.2.2.2.2.2.2.1] : List Int), ())).bind fun (r3 : Bool × Unit) =>
      some (.inl ((r2.1, r3.1, ()), ()))
    else
    bif (d.1.1 == 3) then
      (script_record ((d.1.1, d.1.2.1, d.1.2.2.1, d.1.2.2.2.1, d.1.2.2.2.2.1, d.1.2.2.2.2.2.1, d.1.2.2.2.2.2.2.1, d.1.2.2.2.2.2.2.2.1, d.1.2.2.2.2.2.2.2.2.1, d.1.2.2.2.2.2.2.2.2.2.1, d.1.2.2.2.2.2.2.2.2.2.2.1, d.1.2.2.2.2.2.2.2.2.2.2.2.1, d.1.2.2.2.2.2.2.2.2.2.2.2.2.1, ()), ())).bind fun (r4 : (List UInt8) × Bool × Unit) =>
      some (.inl ((r4.1, r4.2.1, ()), ()))
    else
    bif (d.1.1 == 4) then
      (script_numbers (([116, 105, 99, 107] : List UInt8), ([d.1.2.2.2.2.2.2.2.2.1] : List Int), ())).bind fun (r5 : (List UInt8) × Unit) =>
      (script_plain (([d.1.2.2.2.2.2.2.2.2.1] : List Int), ())).bind fun (r6 : Bool × Unit) =>
      some (.inl ((r5.1, r6.1, ()), ()))
    else
    bif (d.1.1 == 5) then
      let a7 : List Int := ([d.1.2.2.2.2.2.2.2.2.2.1, d.1.2.2.2.2.2.2.2.2.2.2.1, d.1.2.2.2.2.2.2.2.2.2.2.2.1] : List Int)
      let a8 : List (List Int) := ([a7, d.1.2.2.2.2.2.2.2.2.2.2.2.2.1] : List (List Int))
      (slices_Concat_int_int (a8, ())).bind fun (r9 : (List Int) × Unit) =>
      (script_numbers (([114, 101, 112, 108, 97, 110] : List UInt8), r9.1, ())).bind fun (r10 : (List UInt8) × Unit) =>
      (script_plain (r9.1, ())).bind fun (r11 : Bool × Unit) =>
      some (.inl ((r10.1, r11.1, ()), ()))
    else
    bif (d.1.1 == 6) then
      some (.inl ((([115, 104, 111, 119] : List UInt8), true, ()), ()))
    else
    some (.inr (([] : List UInt8), 1, ()))) fun (d12 : (((List UInt8) × Bool × Unit) × (Unit))) =>
  bif !d12.1.2.1 then
    some (([] : List UInt8), 7, ())
  else
  some (d12.1.1, 0, ())
noncomputable def sig_script_Line : Sig := ⟨[(.pair (.int .i64) (.pair (.int .i64) (.pair (.int .i64) (.pair (.int .i64) (.pair (.int .i64) (.pair (.slice (.pair (.int .i64) (.pair (.int .i64) .unit))) (.pair (.int .i64) (.pair (.slice (.pair (.int .i64) (.pair (.int .i64) (.pair (.int .i64) .unit)))) (.pair (.int .i64) (.pair (.int .i64) (.pair (.int .i64) (.pair (.int .i64) (.pair (.slice (.int .i64)) .unit)))))))))))))], [.val .str, .val (.int .i64)], script_Line⟩
noncomputable def env_script_Line : Env := fun g => bif Nat.beq g 15 then [sig_script_order] else bif Nat.beq g 16 then [sig_script_numbers] else bif Nat.beq g 17 then [sig_script_plain] else bif Nat.beq g 18 then [sig_script_record] else bif Nat.beq g 19 then [sig_slices_Concat_int_int] else []
def ann_script_Line : Ann := fun p => bif Nat.beq p 15 then some ⟨[(4, .str), (5, .bool)], [], [], [], [2, 3, 6, 7, 8, 9, 10, 11, 12, 13, 14, 15, 16, 17, 18, 19, 20, 21, 22, 23, 24, 25, 26, 27, 28, 29, 30, 31, 32, 33, 34, 35, 36, 37, 38, 39, 40, 41, 42, 43, 44, 45, 46, 47, 48, 49, 50, 51, 52, 53, 54, 55, 56, 57, 58, 59, 60, 61, 62, 63, 64, 65, 66], 5⟩ else none
theorem envok_script_Line : EnvOK Tryz.prog (Laid Tryz.prog) env_script_Line := fun g s hs => by
  simp only [env_script_Line] at hs
  cases hg : Nat.beq g 15 with
  | true =>
    rw [hg, cond_true] at hs
    obtain rfl := Nat.eq_of_beq_eq_true hg
    simp only [List.mem_cons, List.not_mem_nil, or_false] at hs
    rcases hs with rfl
    · exact ok_script_order
  | false =>
  rw [hg, cond_false] at hs
  cases hg : Nat.beq g 16 with
  | true =>
    rw [hg, cond_true] at hs
    obtain rfl := Nat.eq_of_beq_eq_true hg
    simp only [List.mem_cons, List.not_mem_nil, or_false] at hs
    rcases hs with rfl
    · exact ok_script_numbers
  | false =>
  rw [hg, cond_false] at hs
  cases hg : Nat.beq g 17 with
  | true =>
    rw [hg, cond_true] at hs
    obtain rfl := Nat.eq_of_beq_eq_true hg
    simp only [List.mem_cons, List.not_mem_nil, or_false] at hs
    rcases hs with rfl
    · exact ok_script_plain
  | false =>
  rw [hg, cond_false] at hs
  cases hg : Nat.beq g 18 with
  | true =>
    rw [hg, cond_true] at hs
    obtain rfl := Nat.eq_of_beq_eq_true hg
    simp only [List.mem_cons, List.not_mem_nil, or_false] at hs
    rcases hs with rfl
    · exact ok_script_record
  | false =>
  rw [hg, cond_false] at hs
  cases hg : Nat.beq g 19 with
  | true =>
    rw [hg, cond_true] at hs
    obtain rfl := Nat.eq_of_beq_eq_true hg
    simp only [List.mem_cons, List.not_mem_nil, or_false] at hs
    rcases hs with rfl
    · exact ok_slices_Concat_int_int
  | false =>
  rw [hg, cond_false] at hs
  cases hs
theorem den_script_Line (d : ShD sig_script_Line.ins) : sig_script_Line.f d = funDen tt env_script_Line ann_script_Line Tryz.f7 sig_script_Line.ins sig_script_Line.outs d := by kernel_rfl
theorem ok_script_Line : SigOK Tryz.prog (Laid Tryz.prog) 7 sig_script_Line := sig_of hT hS envok_script_Line mixed ann_script_Line Tryz.func7 (by kernel_rfl) den_script_Line

noncomputable def haulierref42_all_L13 (d : (List Int) × Unit) (d1 : ((Int × Unit) × (Unit))) : Option (((Int × Unit) × (Unit)) ⊕ (Bool × Unit)) :=
  bif decide (d1.1.1 < (d.1.length : Int)) then
    (geti d.1 d1.1.1).bind fun (e2 : Int) =>
    Option.bind (bif !(decide (e2 < 0)) then
      (geti d.1 d1.1.1).bind fun (e3 : Int) =>
      some (decide (e3 > 1000000000))
    else some true) fun (b4 : Bool) =>
    bif b4 then
      some (.inr (false, ()))
    else
    some (.inl ((w64 (d1.1.1 + 1), ()), ()))
  else
  some (.inr (true, ()))
noncomputable def haulierref42_all (d : (List Int) × Unit) : Option (Bool × Unit) :=
  iterW (ρ := Bool × Unit) (haulierref42_all_L13 d) ((0, ()), ())
noncomputable def sig_haulierref42_all : Sig := ⟨[(.slice (.int .i64))], [.val .bool], haulierref42_all⟩
noncomputable def env_haulierref42_all : Env := fun g => []
def ann_haulierref42_all : Ann := fun p => bif Nat.beq p 13 then some ⟨[(3, (.int .i64))], [], [], [], [2, 4, 5, 6, 7, 8, 9, 10, 11, 12, 13, 14, 15, 16, 17, 18, 19, 20, 21], 2⟩ else none
theorem envok_haulierref42_all : EnvOK Tryz.prog (Laid Tryz.prog) env_haulierref42_all := fun g s hs => by cases hs
theorem den_haulierref42_all (d : ShD sig_haulierref42_all.ins) : sig_haulierref42_all.f d = funDen tt env_haulierref42_all ann_haulierref42_all Tryz.f49 sig_haulierref42_all.ins sig_haulierref42_all.outs d := by kernel_rfl
theorem ok_haulierref42_all : SigOK Tryz.prog (Laid Tryz.prog) 49 sig_haulierref42_all := sig_of hT hS envok_haulierref42_all mixed ann_haulierref42_all Tryz.func49 (by kernel_rfl) den_haulierref42_all

noncomputable def haulierref42_order_L13 (d : (Int × Int × Int × Int × (List (Int × Int × Unit)) × Unit) × Unit) (d1 : ((Int × Unit) × (Unit))) : Option (((Int × Unit) × (Unit)) ⊕ (((Unit) × (Unit)) ⊕ (Bool × Unit))) :=
  let x2 : Bool := decide (d1.1.1 < (d.1.2.2.2.2.1.length : Int))
  bif x2 then
    (geti d.1.2.2.2.2.1 d1.1.1).bind fun (e3 : Int × Int × Unit) =>
    Option.bind (bif !(decide (e3.1 < 0)) then
      (geti d.1.2.2.2.2.1 d1.1.1).bind fun (e4 : Int × Int × Unit) =>
      some (decide (e4.2.1 > 40320))
    else some true) fun (b5 : Bool) =>
    Option.bind (bif !b5 then
      (geti d.1.2.2.2.2.1 d1.1.1).bind fun (e6 : Int × Int × Unit) =>
      (geti d.1.2.2.2.2.1 d1.1.1).bind fun (e7 : Int × Int × Unit) =>
      some (decide (e6.1 ≥ e7.2.1))
    else some true) fun (b8 : Bool) =>
    bif b8 then
      some (.inr (.inr (false, ())))
    else
    some (.inl ((w64 (d1.1.1 + 1), ()), ()))
  else
  some (.inr (.inl ((), ())))
noncomputable def haulierref42_order (d : (Int × Int × Int × Int × (List (Int × Int × Unit)) × Unit) × Unit) : Option (Bool × Unit) :=
  joinS (
    iterW (ρ := ((Unit) × (Unit)) ⊕ (Bool × Unit)) (haulierref42_order_L13 d) ((0, ()), ())) fun (d9 : ((Unit) × (Unit))) =>
  let a10 : List Int := ([d.1.1, d.1.2.1, d.1.2.2.2.1] : List Int)
  (haulierref42_all (a10, ())).bind fun (r11 : Bool × Unit) =>
  Option.bind (bif r11.1 then
    some (decide (d.1.2.2.1 ≥ (-1000000000)))
  else some false) fun (b12 : Bool) =>
  Option.bind (bif b12 then
    some (decide (d.1.2.2.1 ≤ 1000000000))
  else some false) fun (b13 : Bool) =>
  some (b13, ())
noncomputable def sig_haulierref42_order : Sig := ⟨[(.pair (.int .i64) (.pair (.int .i64) (.pair (.int .i64) (.pair (.int .i64) (.pair (.slice (.pair (.int .i64) (.pair (.int .i64) .unit))) .unit)))))], [.val .bool], haulierref42_order⟩
noncomputable def env_haulierref42_order : Env := fun g => bif Nat.beq g 49 then [sig_haulierref42_all] else []
def ann_haulierref42_order : Ann := fun p => bif Nat.beq p 13 then some ⟨[(3, (.int .i64))], [], [], [], [2, 4, 5, 6, 7, 8, 9, 10, 11, 12, 13, 14, 15, 16, 17, 18, 19, 20, 21, 22, 23, 24, 25, 26, 27, 28, 29, 30, 31, 32, 33, 34, 35, 36, 37, 38, 39, 40, 41], 3⟩ else bif Nat.beq p 3 then some ⟨[], [], [], [], [2, 3, 4, 5, 6, 7, 8, 9, 10, 11, 12, 13, 14, 15, 16, 17, 18, 19, 20, 21, 22, 23, 24, 25, 26, 27, 28, 29, 30, 31, 32, 33, 34, 35, 36, 37, 38, 39, 40, 41], 2⟩ else none
theorem envok_haulierref42_order : EnvOK Tryz.prog (Laid Tryz.prog) env_haulierref42_order := fun g s hs => by
  simp only [env_haulierref42_order] at hs
  cases hg : Nat.beq g 49 with
  | true =>
    rw [hg, cond_true] at hs
    obtain rfl := Nat.eq_of_beq_eq_true hg
    simp only [List.mem_cons, List.not_mem_nil, or_false] at hs
    rcases hs with rfl
    · exact ok_haulierref42_all
  | false =>
  rw [hg, cond_false] at hs
  cases hs
theorem den_haulierref42_order (d : ShD sig_haulierref42_order.ins) : sig_haulierref42_order.f d = funDen tt env_haulierref42_order ann_haulierref42_order Tryz.f48 sig_haulierref42_order.ins sig_haulierref42_order.outs d := by kernel_rfl
theorem ok_haulierref42_order : SigOK Tryz.prog (Laid Tryz.prog) 48 sig_haulierref42_order := sig_of hT hS envok_haulierref42_order mixed ann_haulierref42_order Tryz.func48 (by kernel_rfl) den_haulierref42_order

noncomputable def haulierref08_Check_L13 (d : (List (Int × Int × Int × Unit)) × Unit) (d1 : ((Int × Unit) × (Unit))) : Option (((Int × Unit) × (Unit)) ⊕ (Int × Int × Unit)) :=
  bif decide (d1.1.1 < (d.1.length : Int)) then
    (geti d.1 d1.1.1).bind fun (e2 : Int × Int × Int × Unit) =>
    Option.bind (bif !(decide (e2.1 < 0)) then
      some (decide (e2.1 > 3))
    else some true) fun (b3 : Bool) =>
    bif b3 then
      some (.inr (d1.1.1, 2, ()))
    else
    Option.bind (bif !(decide (e2.2.1 < 0)) then
      some (decide (e2.2.1 > 40320))
    else some true) fun (b4 : Bool) =>
    Option.bind (bif !b4 then
      some (decide (e2.2.2.1 < 0))
    else some true) fun (b5 : Bool) =>
    Option.bind (bif !b5 then
      some (decide (e2.2.2.1 > 40320))
    else some true) fun (b6 : Bool) =>
    bif b6 then
      some (.inr (d1.1.1, 4, ()))
    else
    bif decide (e2.2.2.1 ≤ e2.2.1) then
      some (.inr (d1.1.1, 3, ()))
    else
    Option.bind (bif decide (d1.1.1 > 0) then
      (geti d.1 (w64 (d1.1.1 - 1))).bind fun (e7 : Int × Int × Int × Unit) =>
      some (decide (e2.2.1 > e7.2.2.1))
    else some false) fun (b8 : Bool) =>
    bif b8 then
      some (.inr (d1.1.1, 5, ()))
    else
    Option.bind (bif decide (d1.1.1 > 0) then
      (geti d.1 (w64 (d1.1.1 - 1))).bind fun (e9 : Int × Int × Int × Unit) =>
      some (decide (e2.2.1 < e9.2.2.1))
    else some false) fun (b10 : Bool) =>
    bif b10 then
      some (.inr (d1.1.1, 6, ()))
    else
    some (.inl ((w64 (d1.1.1 + 1), ()), ()))
  else
  some (.inr (0, 0, ()))
noncomputable def haulierref08_Check (d : (List (Int × Int × Int × Unit)) × Unit) : Option (Int × Int × Unit) :=
  iterW (ρ := Int × Int × Unit) (haulierref08_Check_L13 d) ((0, ()), ())
noncomputable def sig_haulierref08_Check : Sig := ⟨[(.slice (.pair (.int .i64) (.pair (.int .i64) (.pair (.int .i64) .unit))))], [.val (.int .i64), .val (.int .i64)], haulierref08_Check⟩
noncomputable def env_haulierref08_Check : Env := fun g => []
def ann_haulierref08_Check : Ann := fun p => bif Nat.beq p 13 then some ⟨[(4, (.int .i64))], [], [], [], [2, 3, 5, 6, 7, 8, 9, 10, 11, 12, 13, 14, 15, 16, 17, 18, 19, 20, 21, 22, 23, 24, 25, 26, 27, 28, 29, 30, 31, 32, 33, 34, 35, 36, 37, 38, 39, 40, 41, 42, 43, 44, 45, 46, 47, 48, 49, 50, 51, 52, 53, 54, 55, 56, 57, 58, 59, 60, 61, 62, 63, 64, 65, 66, 67, 68, 69, 70, 71, 72, 73, 74, 75, 76, 77], 3⟩ else none
theorem envok_haulierref08_Check : EnvOK Tryz.prog (Laid Tryz.prog) env_haulierref08_Check := fun g s hs => by cases hs
theorem den_haulierref08_Check (d : ShD sig_haulierref08_Check.ins) : sig_haulierref08_Check.f d = funDen tt env_haulierref08_Check ann_haulierref08_Check Tryz.f70 sig_haulierref08_Check.ins sig_haulierref08_Check.outs d := by kernel_rfl
theorem ok_haulierref08_Check : SigOK Tryz.prog (Laid Tryz.prog) 70 sig_haulierref08_Check := sig_of hT hS envok_haulierref08_Check mixed ann_haulierref08_Check Tryz.func70 (by kernel_rfl) den_haulierref08_Check

noncomputable def haulierref08_Right (d : (List (Int × Int × Int × Unit)) × Unit) : Option (Bool × Unit) :=
  (haulierref08_Check (d.1, ())).bind fun (r1 : Int × Int × Unit) =>
  some ((r1.2.1 == 0), ())
noncomputable def sig_haulierref08_Right : Sig := ⟨[(.slice (.pair (.int .i64) (.pair (.int .i64) (.pair (.int .i64) .unit))))], [.val .bool], haulierref08_Right⟩
noncomputable def env_haulierref08_Right : Env := fun g => bif Nat.beq g 70 then [sig_haulierref08_Check] else []
def ann_haulierref08_Right : Ann := fun p => none
theorem envok_haulierref08_Right : EnvOK Tryz.prog (Laid Tryz.prog) env_haulierref08_Right := fun g s hs => by
  simp only [env_haulierref08_Right] at hs
  cases hg : Nat.beq g 70 with
  | true =>
    rw [hg, cond_true] at hs
    obtain rfl := Nat.eq_of_beq_eq_true hg
    simp only [List.mem_cons, List.not_mem_nil, or_false] at hs
    rcases hs with rfl
    · exact ok_haulierref08_Check
  | false =>
  rw [hg, cond_false] at hs
  cases hs
theorem den_haulierref08_Right (d : ShD sig_haulierref08_Right.ins) : sig_haulierref08_Right.f d = funDen tt env_haulierref08_Right ann_haulierref08_Right Tryz.f50 sig_haulierref08_Right.ins sig_haulierref08_Right.outs d := by kernel_rfl
theorem ok_haulierref08_Right : SigOK Tryz.prog (Laid Tryz.prog) 50 sig_haulierref08_Right := sig_of hT hS envok_haulierref08_Right mixed ann_haulierref08_Right Tryz.func50 (by kernel_rfl) den_haulierref08_Right

noncomputable def haulierref42_Can_L3577 (d : (Int × Int × Int × Int × Int × (List (Int × Int × Unit)) × Int × (List (Int × Int × Int × Unit)) × Int × Int × Int × Int × (List Int) × Unit) × Unit) (d4 : ((Int × Unit) × (Unit))) : Option (((Int × Unit) × (Unit)) ⊕ (((Unit) × (Unit)) ⊕ (((Unit) × (Unit)) ⊕ (Bool × Unit)))) :=
  let x5 : Bool := decide (d4.1.1 < (d.1.2.2.2.2.2.2.2.1.length : Int))
  bif x5 then
    chk (decide (0 ≤ d4.1.1 ∧ d4.1.1 ≤ (w64 (d4.1.1 + 1)) ∧ (w64 (d4.1.1 + 1)) ≤ (d.1.2.2.2.2.2.2.2.1.length : Int))) <|
    let s6 : List (Int × Int × Int × Unit) := (d.1.2.2.2.2.2.2.2.1.take (w64 (d4.1.1 + 1)).toNat).drop d4.1.1.toNat
    (haulierref08_Right (s6, ())).bind fun (r7 : Bool × Unit) =>
    bif !r7.1 then
      some (.inr (.inr (.inr (false, ()))))
    else
    some (.inl ((w64 (d4.1.1 + 1), ()), ()))
  else
  some (.inr (.inl ((), ())))
noncomputable def haulierref42_Can (d : (Int × Int × Int × Int × Int × (List (Int × Int × Unit)) × Int × (List (Int × Int × Int × Unit)) × Int × Int × Int × Int × (List Int) × Unit) × Unit) : Option (Bool × Unit) :=
  joinS (
    bif (d.1.1 == 1) then
      (haulierref42_order ((d.1.2.1, d.1.2.2.1, d.1.2.2.2.1, d.1.2.2.2.2.1, d.1.2.2.2.2.2.1, ()), ())).bind fun (r1 : Bool × Unit) =>
      some (.inr (r1.1, ()))
    else
    bif (d.1.1 == 2) then
      let a2 : List Int := ([d.1.2.2.2.2.2.2.1] : List Int)
      (haulierref42_all (a2, ())).bind fun (r3 : Bool × Unit) =>
      some (.inr (r3.1, ()))
    else
    bif (d.1.1 == 3) then
      joinS (
        iterW (ρ := ((Unit) × (Unit)) ⊕ (((Unit) × (Unit)) ⊕ (Bool × Unit))) (haulierref42_Can_L3577 d) ((0, ()), ())) fun (d8 : ((Unit) × (Unit))) =>
      let a9 : List Int := ([d.1.2.2.2.2.2.2.1] : List Int)
      (haulierref42_all (a9, ())).bind fun (r10 : Bool × Unit) =>
      some (.inr (r10.1, ()))
    else
    bif (d.1.1 == 4) then
      let a11 : List Int := ([d.1.2.2.2.2.2.2.2.2.1] : List Int)
      (haulierref42_all (a11, ())).bind fun (r12 : Bool × Unit) =>
      some (.inr (r12.1, ()))
    else
    bif (d.1.1 == 5) then
      let a13 : List Int := ([d.1.2.2.2.2.2.2.2.2.2.1, d.1.2.2.2.2.2.2.2.2.2.2.1, d.1.2.2.2.2.2.2.2.2.2.2.2.1] : List Int)
      (haulierref42_all (a13, ())).bind fun (r14 : Bool × Unit) =>
      Option.bind (bif r14.1 then
        (haulierref42_all (d.1.2.2.2.2.2.2.2.2.2.2.2.2.1, ())).bind fun (r15 : Bool × Unit) =>
        some r15.1
      else some false) fun (b16 : Bool) =>
      some (.inr (b16, ()))
    else
    some (.inl ((), ()))) fun (d17 : ((Unit) × (Unit))) =>
  some ((d.1.1 == 6), ())
noncomputable def sig_haulierref42_Can : Sig := ⟨[(.pair (.int .i64) (.pair (.int .i64) (.pair (.int .i64) (.pair (.int .i64) (.pair (.int .i64) (.pair (.slice (.pair (.int .i64) (.pair (.int .i64) .unit))) (.pair (.int .i64) (.pair (.slice (.pair (.int .i64) (.pair (.int .i64) (.pair (.int .i64) .unit)))) (.pair (.int .i64) (.pair (.int .i64) (.pair (.int .i64) (.pair (.int .i64) (.pair (.slice (.int .i64)) .unit)))))))))))))], [.val .bool], haulierref42_Can⟩
noncomputable def env_haulierref42_Can : Env := fun g => bif Nat.beq g 48 then [sig_haulierref42_order] else bif Nat.beq g 49 then [sig_haulierref42_all] else bif Nat.beq g 50 then [sig_haulierref08_Right] else []
def ann_haulierref42_Can : Ann := fun p => bif Nat.beq p 3577 then some ⟨[(3, (.int .i64))], [], [], [], [2, 19, 20, 21, 22, 23, 24, 25, 26, 27, 28, 29, 30, 31, 32, 33], 11⟩ else bif Nat.beq p 894 then some ⟨[], [], [], [], [2, 3, 19, 20, 21, 22, 23, 24, 25, 26, 27, 28, 29, 30, 31, 32, 33], 10⟩ else bif Nat.beq p 3 then some ⟨[], [], [], [], [2, 3, 4, 5, 6, 7, 8, 9, 10, 11, 12, 13, 14, 15, 16, 17, 18, 19, 20, 21, 22, 23, 24, 25, 26, 27, 28, 29, 30, 31, 32, 33, 34, 35, 36, 37, 38, 39, 40, 41, 42, 43, 44, 45, 46, 47, 48, 49, 50, 51, 52, 53, 54, 55, 56, 57, 58, 59, 60, 61, 62], 2⟩ else none
theorem envok_haulierref42_Can : EnvOK Tryz.prog (Laid Tryz.prog) env_haulierref42_Can := fun g s hs => by
  simp only [env_haulierref42_Can] at hs
  cases hg : Nat.beq g 48 with
  | true =>
    rw [hg, cond_true] at hs
    obtain rfl := Nat.eq_of_beq_eq_true hg
    simp only [List.mem_cons, List.not_mem_nil, or_false] at hs
    rcases hs with rfl
    · exact ok_haulierref42_order
  | false =>
  rw [hg, cond_false] at hs
  cases hg : Nat.beq g 49 with
  | true =>
    rw [hg, cond_true] at hs
    obtain rfl := Nat.eq_of_beq_eq_true hg
    simp only [List.mem_cons, List.not_mem_nil, or_false] at hs
    rcases hs with rfl
    · exact ok_haulierref42_all
  | false =>
  rw [hg, cond_false] at hs
  cases hg : Nat.beq g 50 with
  | true =>
    rw [hg, cond_true] at hs
    obtain rfl := Nat.eq_of_beq_eq_true hg
    simp only [List.mem_cons, List.not_mem_nil, or_false] at hs
    rcases hs with rfl
    · exact ok_haulierref08_Right
  | false =>
  rw [hg, cond_false] at hs
  cases hs
theorem den_haulierref42_Can (d : ShD sig_haulierref42_Can.ins) : sig_haulierref42_Can.f d = funDen tt env_haulierref42_Can ann_haulierref42_Can Tryz.f20 sig_haulierref42_Can.ins sig_haulierref42_Can.outs d := by kernel_rfl
theorem ok_haulierref42_Can : SigOK Tryz.prog (Laid Tryz.prog) 20 sig_haulierref42_Can := sig_of hT hS envok_haulierref42_Can mixed ann_haulierref42_Can Tryz.func20 (by kernel_rfl) den_haulierref42_Can

noncomputable def haulierref06_Print_L61 (d1 : (((List UInt8) × Int × Int × Unit) × (Unit))) : Option ((((List UInt8) × Int × Int × Unit) × (Unit)) ⊕ ((((List UInt8) × Unit) × (Unit)) ⊕ ((List UInt8) × Unit))) :=
  bif decide (d1.1.2.2.1 < 20) then
    joinS (
      bif decide ((d1.1.2.1.tmod 10) < 0) then
        some (.inl ((w64 (0 - (d1.1.2.1.tmod 10)), ()), ()))
      else
      some (.inl ((d1.1.2.1.tmod 10, ()), ()))) fun (d2 : ((Int × Unit) × (Unit))) =>
    let a3 : List Int := ([IntKind.u8.wrap (w64 (48 + d2.1.1))] : List Int)
    chk (decide ((bytesOf a3).length + d1.1.1.length ≤ LIM)) <|
    let s4 : List UInt8 := (bytesOf a3) ++ d1.1.1
    bif ((w64 (d1.1.2.1.tdiv 10)) == 0) then
      some (.inr (.inl ((s4, ()), ())))
    else
    some (.inl ((s4, w64 (d1.1.2.1.tdiv 10), w64 (d1.1.2.2.1 + 1), ()), ()))
  else
  some (.inr (.inl ((d1.1.1, ()), ())))
noncomputable def haulierref06_Print (d : Int × Unit) : Option ((List UInt8) × Unit) :=
  joinS (
    iterW (ρ := (((List UInt8) × Unit) × (Unit)) ⊕ ((List UInt8) × Unit)) (haulierref06_Print_L61) ((([] : List UInt8), d.1, 0, ()), ())) fun (d5 : (((List UInt8) × Unit) × (Unit))) =>
  bif decide (d.1 < 0) then
    chk (decide (([45] : List UInt8).length + d5.1.1.length ≤ LIM)) <|
    let s6 : List UInt8 := ([45] : List UInt8) ++ d5.1.1
    some (s6, ())
  else
  some (d5.1.1, ())
noncomputable def sig_haulierref06_Print : Sig := ⟨[(.int .i64)], [.val .str], haulierref06_Print⟩
noncomputable def env_haulierref06_Print : Env := fun g => []
def ann_haulierref06_Print : Ann := fun p => bif Nat.beq p 61 then some ⟨[(3, .str), (4, (.int .i64)), (5, (.int .i64))], [], [], [], [6, 8, 9, 10, 11, 12, 13, 14, 15, 16, 17, 18, 19, 20, 21, 22, 23, 24, 25, 26, 27, 28], 5⟩ else bif Nat.beq p 981 then some ⟨[(6, (.int .i64))], [], [], [], [14, 15, 16, 17], 10⟩ else bif Nat.beq p 15 then some ⟨[(3, .str)], [], [], [], [4, 5, 6, 8, 9, 10, 11, 12, 13, 14, 15, 16, 17, 18, 19, 20, 21, 22, 23, 24, 25, 26, 27, 28], 4⟩ else none
theorem envok_haulierref06_Print : EnvOK Tryz.prog (Laid Tryz.prog) env_haulierref06_Print := fun g s hs => by cases hs
theorem den_haulierref06_Print (d : ShD sig_haulierref06_Print.ins) : sig_haulierref06_Print.f d = funDen tt env_haulierref06_Print ann_haulierref06_Print Tryz.f51 sig_haulierref06_Print.ins sig_haulierref06_Print.outs d := by kernel_rfl
theorem ok_haulierref06_Print : SigOK Tryz.prog (Laid Tryz.prog) 51 sig_haulierref06_Print := sig_of hT hS envok_haulierref06_Print mixed ann_haulierref06_Print Tryz.func51 (by kernel_rfl) den_haulierref06_Print

noncomputable def haulierref06_Told (d : (Int × Int × Unit) × Unit) : Option ((List UInt8) × Unit) :=
  (haulierref06_Print (d.1.1, ())).bind fun (r1 : (List UInt8) × Unit) =>
  chk (decide (r1.1.length + ([45] : List UInt8).length ≤ LIM)) <|
  let s2 : List UInt8 := r1.1 ++ ([45] : List UInt8)
  (haulierref06_Print (d.1.2.1, ())).bind fun (r3 : (List UInt8) × Unit) =>
  chk (decide (s2.length + r3.1.length ≤ LIM)) <|
  let s4 : List UInt8 := s2 ++ r3.1
  some (s4, ())
noncomputable def sig_haulierref06_Told : Sig := ⟨[(.pair (.int .i64) (.pair (.int .i64) .unit))], [.val .str], haulierref06_Told⟩
noncomputable def env_haulierref06_Told : Env := fun g => bif Nat.beq g 51 then [sig_haulierref06_Print] else []
def ann_haulierref06_Told : Ann := fun p => none
theorem envok_haulierref06_Told : EnvOK Tryz.prog (Laid Tryz.prog) env_haulierref06_Told := fun g s hs => by
  simp only [env_haulierref06_Told] at hs
  cases hg : Nat.beq g 51 with
  | true =>
    rw [hg, cond_true] at hs
    obtain rfl := Nat.eq_of_beq_eq_true hg
    simp only [List.mem_cons, List.not_mem_nil, or_false] at hs
    rcases hs with rfl
    · exact ok_haulierref06_Print
  | false =>
  rw [hg, cond_false] at hs
  cases hs
theorem den_haulierref06_Told (d : ShD sig_haulierref06_Told.ins) : sig_haulierref06_Told.f d = funDen tt env_haulierref06_Told ann_haulierref06_Told Tryz.f24 sig_haulierref06_Told.ins sig_haulierref06_Told.outs d := by kernel_rfl
theorem ok_haulierref06_Told : SigOK Tryz.prog (Laid Tryz.prog) 24 sig_haulierref06_Told := sig_of hT hS envok_haulierref06_Told mixed ann_haulierref06_Told Tryz.func24 (by kernel_rfl) den_haulierref06_Told

noncomputable def haulierref06_Join_L29 (d : (List (List UInt8)) × Unit) (d1 : (((List UInt8) × Int × Unit) × (Unit))) : Option ((((List UInt8) × Int × Unit) × (Unit)) ⊕ ((List UInt8) × Unit)) :=
  bif decide (d1.1.2.1 < (d.1.length : Int)) then
    joinS (
      bif decide (d1.1.2.1 > 0) then
        chk (decide (d1.1.1.length + ([32] : List UInt8).length ≤ LIM)) <|
        let s2 : List UInt8 := d1.1.1 ++ ([32] : List UInt8)
        some (.inl ((s2, ()), ()))
      else
      some (.inl ((d1.1.1, ()), ()))) fun (d3 : (((List UInt8) × Unit) × (Unit))) =>
    (geti d.1 d1.1.2.1).bind fun (e4 : List UInt8) =>
    chk (decide (d3.1.1.length + e4.length ≤ LIM)) <|
    let s5 : List UInt8 := d3.1.1 ++ e4
    some (.inl ((s5, w64 (d1.1.2.1 + 1), ()), ()))
  else
  some (.inr (d1.1.1, ()))
noncomputable def haulierref06_Join (d : (List (List UInt8)) × Unit) : Option ((List UInt8) × Unit) :=
  iterW (ρ := (List UInt8) × Unit) (haulierref06_Join_L29 d) ((([] : List UInt8), 0, ()), ())
noncomputable def sig_haulierref06_Join : Sig := ⟨[(.slice .str)], [.val .str], haulierref06_Join⟩
noncomputable def env_haulierref06_Join : Env := fun g => []
def ann_haulierref06_Join : Ann := fun p => bif Nat.beq p 29 then some ⟨[(3, .str), (4, (.int .i64))], [], [], [], [5, 6, 7, 8, 9, 10, 11, 12, 13, 14, 15, 16, 17, 18, 19, 20], 3⟩ else bif Nat.beq p 234 then some ⟨[(3, .str)], [], [], [], [11, 12, 13, 14], 7⟩ else none
theorem envok_haulierref06_Join : EnvOK Tryz.prog (Laid Tryz.prog) env_haulierref06_Join := fun g s hs => by cases hs
theorem den_haulierref06_Join (d : ShD sig_haulierref06_Join.ins) : sig_haulierref06_Join.f d = funDen tt env_haulierref06_Join ann_haulierref06_Join Tryz.f52 sig_haulierref06_Join.ins sig_haulierref06_Join.outs d := by kernel_rfl
theorem ok_haulierref06_Join : SigOK Tryz.prog (Laid Tryz.prog) 52 sig_haulierref06_Join := sig_of hT hS envok_haulierref06_Join mixed ann_haulierref06_Join Tryz.func52 (by kernel_rfl) den_haulierref06_Join

noncomputable def haulierref31_Order_L29 (d : (Int × Int × Int × Int × (List (Int × Int × Unit)) × Unit) × Unit) (d6 : ((Unit × Int × Unit) × ((List (List UInt8)) × Unit))) : Option (((Unit × Int × Unit) × ((List (List UInt8)) × Unit)) ⊕ ((List UInt8) × Unit)) :=
  let x7 : Bool := decide (d6.1.2.1 < (d.1.2.2.2.2.1.length : Int))
  bif x7 then
    (geti d.1.2.2.2.2.1 d6.1.2.1).bind fun (e8 : Int × Int × Unit) =>
    (haulierref06_Told ((e8.1, e8.2.1, ()), ())).bind fun (r9 : (List UInt8) × Unit) =>
    let a10 : List (List UInt8) := ([r9.1] : List (List UInt8))
    chk (decide (d6.2.1.length + a10.length ≤ LIM)) <|
    let a11 : List (List UInt8) := d6.2.1 ++ a10
    some (.inl (((), w64 (d6.1.2.1 + 1), ()), a11, ()))
  else
  Option.map Sum.inr (
    (haulierref06_Join (d6.2.1, ())).bind fun (r12 : (List UInt8) × Unit) =>
    some (r12.1, ()))
noncomputable def haulierref31_Order (d : (Int × Int × Int × Int × (List (Int × Int × Unit)) × Unit) × Unit) : Option ((List UInt8) × Unit) :=
  (haulierref06_Print (d.1.1, ())).bind fun (r1 : (List UInt8) × Unit) =>
  (haulierref06_Print (d.1.2.1, ())).bind fun (r2 : (List UInt8) × Unit) =>
  (haulierref06_Print (d.1.2.2.1, ())).bind fun (r3 : (List UInt8) × Unit) =>
  (haulierref06_Print (d.1.2.2.2.1, ())).bind fun (r4 : (List UInt8) × Unit) =>
  let a5 : List (List UInt8) := ([([111, 114, 100, 101, 114] : List UInt8), r1.1, r2.1, r3.1, r4.1] : List (List UInt8))
  iterW (ρ := (List UInt8) × Unit) (haulierref31_Order_L29 d) (((), 0, ()), a5, ())
noncomputable def sig_haulierref31_Order : Sig := ⟨[(.pair (.int .i64) (.pair (.int .i64) (.pair (.int .i64) (.pair (.int .i64) (.pair (.slice (.pair (.int .i64) (.pair (.int .i64) .unit))) .unit)))))], [.val .str], haulierref31_Order⟩
noncomputable def env_haulierref31_Order : Env := fun g => bif Nat.beq g 51 then [sig_haulierref06_Print] else bif Nat.beq g 24 then [sig_haulierref06_Told] else bif Nat.beq g 52 then [sig_haulierref06_Join] else []
def ann_haulierref31_Order : Ann := fun p => bif Nat.beq p 6 then some ⟨[], [], [17], [], [], 0⟩ else bif Nat.beq p 29 then some ⟨[(3, (.ref 6 .str)), (4, (.int .i64))], [(6, .arr 9 .str)], [], [3], [18, 19, 20, 21, 22, 23, 24, 25, 26, 27, 28, 29, 30, 31, 32, 33], 7⟩ else none
theorem envok_haulierref31_Order : EnvOK Tryz.prog (Laid Tryz.prog) env_haulierref31_Order := fun g s hs => by
  simp only [env_haulierref31_Order] at hs
  cases hg : Nat.beq g 51 with
  | true =>
    rw [hg, cond_true] at hs
    obtain rfl := Nat.eq_of_beq_eq_true hg
    simp only [List.mem_cons, List.not_mem_nil, or_false] at hs
    rcases hs with rfl
    · exact ok_haulierref06_Print
  | false =>
  rw [hg, cond_false] at hs
  cases hg : Nat.beq g 24 with
  | true =>
    rw [hg, cond_true] at hs
    obtain rfl := Nat.eq_of_beq_eq_true hg
    simp only [List.mem_cons, List.not_mem_nil, or_false] at hs
    rcases hs with rfl
    · exact ok_haulierref06_Told
  | false =>
  rw [hg, cond_false] at hs
  cases hg : Nat.beq g 52 with
  | true =>
    rw [hg, cond_true] at hs
    obtain rfl := Nat.eq_of_beq_eq_true hg
    simp only [List.mem_cons, List.not_mem_nil, or_false] at hs
    rcases hs with rfl
    · exact ok_haulierref06_Join
  | false =>
  rw [hg, cond_false] at hs
  cases hs
theorem den_haulierref31_Order (d : ShD sig_haulierref31_Order.ins) : sig_haulierref31_Order.f d = funDen tt env_haulierref31_Order ann_haulierref31_Order Tryz.f21 sig_haulierref31_Order.ins sig_haulierref31_Order.outs d := by kernel_rfl
theorem ok_haulierref31_Order : SigOK Tryz.prog (Laid Tryz.prog) 21 sig_haulierref31_Order := sig_of hT hS envok_haulierref31_Order mixed ann_haulierref31_Order Tryz.func21 (by kernel_rfl) den_haulierref31_Order

noncomputable def haulierref42_row_L29 (d : (List UInt8) × (List Int) × Unit) (d2 : ((Unit × Int × Unit) × ((List (List UInt8)) × Unit))) : Option (((Unit × Int × Unit) × ((List (List UInt8)) × Unit)) ⊕ ((List UInt8) × Unit)) :=
  bif decide (d2.1.2.1 < (d.2.1.length : Int)) then
    (geti d.2.1 d2.1.2.1).bind fun (e3 : Int) =>
    (haulierref06_Print (e3, ())).bind fun (r4 : (List UInt8) × Unit) =>
    let a5 : List (List UInt8) := ([r4.1] : List (List UInt8))
    chk (decide (d2.2.1.length + a5.length ≤ LIM)) <|
    let a6 : List (List UInt8) := d2.2.1 ++ a5
    some (.inl (((), w64 (d2.1.2.1 + 1), ()), a6, ()))
  else
  Option.map Sum.inr (
    (haulierref06_Join (d2.2.1, ())).bind fun (r7 : (List UInt8) × Unit) =>
    some (r7.1, ()))
noncomputable def haulierref42_row (d : (List UInt8) × (List Int) × Unit) : Option ((List UInt8) × Unit) :=
  let a1 : List (List UInt8) := ([d.1] : List (List UInt8))
  iterW (ρ := (List UInt8) × Unit) (haulierref42_row_L29 d) (((), 0, ()), a1, ())
noncomputable def sig_haulierref42_row : Sig := ⟨[.str, (.slice (.int .i64))], [.val .str], haulierref42_row⟩
noncomputable def env_haulierref42_row : Env := fun g => bif Nat.beq g 51 then [sig_haulierref06_Print] else bif Nat.beq g 52 then [sig_haulierref06_Join] else []
def ann_haulierref42_row : Ann := fun p => bif Nat.beq p 6 then some ⟨[], [], [8], [], [], 0⟩ else bif Nat.beq p 29 then some ⟨[(5, (.ref 5 .str)), (6, (.int .i64))], [(5, .arr 9 .str)], [], [2], [9, 10, 11, 12, 13, 14, 15, 16, 17, 18, 19, 20, 21, 22], 6⟩ else none
theorem envok_haulierref42_row : EnvOK Tryz.prog (Laid Tryz.prog) env_haulierref42_row := fun g s hs => by
  simp only [env_haulierref42_row] at hs
  cases hg : Nat.beq g 51 with
  | true =>
    rw [hg, cond_true] at hs
    obtain rfl := Nat.eq_of_beq_eq_true hg
    simp only [List.mem_cons, List.not_mem_nil, or_false] at hs
    rcases hs with rfl
    · exact ok_haulierref06_Print
  | false =>
  rw [hg, cond_false] at hs
  cases hg : Nat.beq g 52 with
  | true =>
    rw [hg, cond_true] at hs
    obtain rfl := Nat.eq_of_beq_eq_true hg
    simp only [List.mem_cons, List.not_mem_nil, or_false] at hs
    rcases hs with rfl
    · exact ok_haulierref06_Join
  | false =>
  rw [hg, cond_false] at hs
  cases hs
theorem den_haulierref42_row (d : ShD sig_haulierref42_row.ins) : sig_haulierref42_row.f d = funDen tt env_haulierref42_row ann_haulierref42_row Tryz.f22 sig_haulierref42_row.ins sig_haulierref42_row.outs d := by kernel_rfl
theorem ok_haulierref42_row : SigOK Tryz.prog (Laid Tryz.prog) 22 sig_haulierref42_row := sig_of hT hS envok_haulierref42_row mixed ann_haulierref42_row Tryz.func22 (by kernel_rfl) den_haulierref42_row

noncomputable def haulierref09_Text_L29 (d : (List Int) × Unit) (d1 : (((List UInt8) × Int × Unit) × (Unit))) : Option ((((List UInt8) × Int × Unit) × (Unit)) ⊕ ((List UInt8) × Unit)) :=
  bif decide (d1.1.2.1 < (d.1.length : Int)) then
    (geti d.1 d1.1.2.1).bind fun (e2 : Int) =>
    (geti d.1 d1.1.2.1).bind fun (e3 : Int) =>
    chk (decide (0 ≤ e2 ∧ e2 ≤ (w64 (e3 + 1)) ∧ (w64 (e3 + 1)) ≤ (([82, 65, 87, 68] : List UInt8).length : Int))) <|
    let s4 : List UInt8 := (([82, 65, 87, 68] : List UInt8).take (w64 (e3 + 1)).toNat).drop e2.toNat
    chk (decide (d1.1.1.length + s4.length ≤ LIM)) <|
    let s5 : List UInt8 := d1.1.1 ++ s4
    some (.inl ((s5, w64 (d1.1.2.1 + 1), ()), ()))
  else
  some (.inr (d1.1.1, ()))
noncomputable def haulierref09_Text (d : (List Int) × Unit) : Option ((List UInt8) × Unit) :=
  iterW (ρ := (List UInt8) × Unit) (haulierref09_Text_L29 d) ((([] : List UInt8), 0, ()), ())
noncomputable def sig_haulierref09_Text : Sig := ⟨[(.slice (.int .i64))], [.val .str], haulierref09_Text⟩
noncomputable def env_haulierref09_Text : Env := fun g => []
def ann_haulierref09_Text : Ann := fun p => bif Nat.beq p 29 then some ⟨[(3, .str), (4, (.int .i64))], [], [], [], [5, 6, 7, 8, 9, 10, 11, 12, 13, 14, 15, 16, 17, 18, 19, 20, 21, 22], 3⟩ else none
theorem envok_haulierref09_Text : EnvOK Tryz.prog (Laid Tryz.prog) env_haulierref09_Text := fun g s hs => by cases hs
theorem den_haulierref09_Text (d : ShD sig_haulierref09_Text.ins) : sig_haulierref09_Text.f d = funDen tt env_haulierref09_Text ann_haulierref09_Text Tryz.f23 sig_haulierref09_Text.ins sig_haulierref09_Text.outs d := by kernel_rfl
theorem ok_haulierref09_Text : SigOK Tryz.prog (Laid Tryz.prog) 23 sig_haulierref09_Text := sig_of hT hS envok_haulierref09_Text mixed ann_haulierref09_Text Tryz.func23 (by kernel_rfl) den_haulierref09_Text

noncomputable def haulierref42_Line_L31733 (d : (Int × Int × Int × Int × Int × (List (Int × Int × Unit)) × Int × (List (Int × Int × Int × Unit)) × Int × Int × Int × Int × (List Int) × Unit) × Unit) (d8 : (((List UInt8) × Int × Unit) × (Unit))) : Option ((((List UInt8) × Int × Unit) × (Unit)) ⊕ ((List UInt8) × Int × Unit)) :=
  let x9 : Bool := decide (d8.1.2.1 < (d.1.2.2.2.2.2.2.2.1.length : Int))
  bif x9 then
    (geti d.1.2.2.2.2.2.2.2.1 d8.1.2.1).bind fun (e10 : Int × Int × Int × Unit) =>
    chk (decide (d8.1.1.length + ([32] : List UInt8).length ≤ LIM)) <|
    let s11 : List UInt8 := d8.1.1 ++ ([32] : List UInt8)
    (haulierref09_Text (([e10.1] : List Int), ())).bind fun (r12 : (List UInt8) × Unit) =>
    chk (decide (s11.length + r12.1.length ≤ LIM)) <|
    let s13 : List UInt8 := s11 ++ r12.1
    chk (decide (s13.length + ([32] : List UInt8).length ≤ LIM)) <|
    let s14 : List UInt8 := s13 ++ ([32] : List UInt8)
    (haulierref06_Told ((e10.2.1, e10.2.2.1, ()), ())).bind fun (r15 : (List UInt8) × Unit) =>
    chk (decide (s14.length + r15.1.length ≤ LIM)) <|
    let s16 : List UInt8 := s14 ++ r15.1
    some (.inl ((s16, w64 (d8.1.2.1 + 1), ()), ()))
  else
  some (.inr (d8.1.1, 0, ()))
noncomputable def haulierref42_Line (d : (Int × Int × Int × Int × Int × (List (Int × Int × Unit)) × Int × (List (Int × Int × Int × Unit)) × Int × Int × Int × Int × (List Int) × Unit) × Unit) : Option ((List UInt8) × Int × Unit) :=
  Option.bind (bif !(decide (d.1.1 < 1)) then
    some (decide (d.1.1 > 6))
  else some true) fun (b1 : Bool) =>
  bif b1 then
    some (([] : List UInt8), 1, ())
  else
  (haulierref42_Can ((d.1.1, d.1.2.1, d.1.2.2.1, d.1.2.2.2.1, d.1.2.2.2.2.1, d.1.2.2.2.2.2.1, d.1.2.2.2.2.2.2.1, d.1.2.2.2.2.2.2.2.1, d.1.2.2.2.2.2.2.2.2.1, d.1.2.2.2.2.2.2.2.2.2.1, d.1.2.2.2.2.2.2.2.2.2.2.1, d.1.2.2.2.2.2.2.2.2.2.2.2.1, d.1.2.2.2.2.2.2.2.2.2.2.2.2.1, ()), ())).bind fun (r2 : Bool × Unit) =>
  bif !r2.1 then
    some (([] : List UInt8), 7, ())
  else
  bif (d.1.1 == 1) then
    (haulierref31_Order ((d.1.2.1, d.1.2.2.1, d.1.2.2.2.1, d.1.2.2.2.2.1, d.1.2.2.2.2.2.1, ()), ())).bind fun (r3 : (List UInt8) × Unit) =>
    some (r3.1, 0, ())
  else
  bif (d.1.1 == 2) then
    let a4 : List Int := ([d.1.2.2.2.2.2.2.1] : List Int)
    (haulierref42_row (([99, 97, 110, 99, 101, 108] : List UInt8), a4, ())).bind fun (r5 : (List UInt8) × Unit) =>
    some (r5.1, 0, ())
  else
  bif (d.1.1 == 3) then
    let a6 : List Int := ([d.1.2.2.2.2.2.2.1] : List Int)
    (haulierref42_row (([114, 101, 99, 111, 114, 100] : List UInt8), a6, ())).bind fun (r7 : (List UInt8) × Unit) =>
    iterW (ρ := (List UInt8) × Int × Unit) (haulierref42_Line_L31733 d) ((r7.1, 0, ()), ())
  else
  bif (d.1.1 == 4) then
    let a17 : List Int := ([d.1.2.2.2.2.2.2.2.2.1] : List Int)
    (haulierref42_row (([116, 105, 99, 107] : List UInt8), a17, ())).bind fun (r18 : (List UInt8) × Unit) =>
    some (r18.1, 0, ())
  else
  bif (d.1.1 == 5) then
    let a19 : List Int := ([d.1.2.2.2.2.2.2.2.2.2.1, d.1.2.2.2.2.2.2.2.2.2.2.1, d.1.2.2.2.2.2.2.2.2.2.2.2.1] : List Int)
    chk (decide (a19.length + d.1.2.2.2.2.2.2.2.2.2.2.2.2.1.length ≤ LIM)) <|
    let a20 : List Int := a19 ++ d.1.2.2.2.2.2.2.2.2.2.2.2.2.1
    (haulierref42_row (([114, 101, 112, 108, 97, 110] : List UInt8), a20, ())).bind fun (r21 : (List UInt8) × Unit) =>
    some (r21.1, 0, ())
  else
  some (([115, 104, 111, 119] : List UInt8), 0, ())
noncomputable def sig_haulierref42_Line : Sig := ⟨[(.pair (.int .i64) (.pair (.int .i64) (.pair (.int .i64) (.pair (.int .i64) (.pair (.int .i64) (.pair (.slice (.pair (.int .i64) (.pair (.int .i64) .unit))) (.pair (.int .i64) (.pair (.slice (.pair (.int .i64) (.pair (.int .i64) (.pair (.int .i64) .unit)))) (.pair (.int .i64) (.pair (.int .i64) (.pair (.int .i64) (.pair (.int .i64) (.pair (.slice (.int .i64)) .unit)))))))))))))], [.val .str, .val (.int .i64)], haulierref42_Line⟩
noncomputable def env_haulierref42_Line : Env := fun g => bif Nat.beq g 20 then [sig_haulierref42_Can] else bif Nat.beq g 21 then [sig_haulierref31_Order] else bif Nat.beq g 22 then [sig_haulierref42_row] else bif Nat.beq g 23 then [sig_haulierref09_Text] else bif Nat.beq g 24 then [sig_haulierref06_Told] else []
def ann_haulierref42_Line : Ann := fun p => bif Nat.beq p 31733 then some ⟨[(4, .str), (5, (.int .i64))], [], [], [], [6, 38, 39, 40, 41, 42, 43, 44, 45, 46, 47, 48, 49, 50, 51, 52, 53, 54, 55, 56, 57, 58, 59, 60, 61, 62, 63, 64], 25⟩ else bif Nat.beq p 126972 then some ⟨[], [], [83], [], [], 0⟩ else none
theorem envok_haulierref42_Line : EnvOK Tryz.prog (Laid Tryz.prog) env_haulierref42_Line := fun g s hs => by
  simp only [env_haulierref42_Line] at hs
  cases hg : Nat.beq g 20 with
  | true =>
    rw [hg, cond_true] at hs
    obtain rfl := Nat.eq_of_beq_eq_true hg
    simp only [List.mem_cons, List.not_mem_nil, or_false] at hs
    rcases hs with rfl
    · exact ok_haulierref42_Can
  | false =>
  rw [hg, cond_false] at hs
  cases hg : Nat.beq g 21 with
  | true =>
    rw [hg, cond_true] at hs
    obtain rfl := Nat.eq_of_beq_eq_true hg
    simp only [List.mem_cons, List.not_mem_nil, or_false] at hs
    rcases hs with rfl
    · exact ok_haulierref31_Order
  | false =>
  rw [hg, cond_false] at hs
  cases hg : Nat.beq g 22 with
  | true =>
    rw [hg, cond_true] at hs
    obtain rfl := Nat.eq_of_beq_eq_true hg
    simp only [List.mem_cons, List.not_mem_nil, or_false] at hs
    rcases hs with rfl
    · exact ok_haulierref42_row
  | false =>
  rw [hg, cond_false] at hs
  cases hg : Nat.beq g 23 with
  | true =>
    rw [hg, cond_true] at hs
    obtain rfl := Nat.eq_of_beq_eq_true hg
    simp only [List.mem_cons, List.not_mem_nil, or_false] at hs
    rcases hs with rfl
    · exact ok_haulierref09_Text
  | false =>
  rw [hg, cond_false] at hs
  cases hg : Nat.beq g 24 with
  | true =>
    rw [hg, cond_true] at hs
    obtain rfl := Nat.eq_of_beq_eq_true hg
    simp only [List.mem_cons, List.not_mem_nil, or_false] at hs
    rcases hs with rfl
    · exact ok_haulierref06_Told
  | false =>
  rw [hg, cond_false] at hs
  cases hs
theorem den_haulierref42_Line (d : ShD sig_haulierref42_Line.ins) : sig_haulierref42_Line.f d = funDen tt env_haulierref42_Line ann_haulierref42_Line Tryz.f9 sig_haulierref42_Line.ins sig_haulierref42_Line.outs d := by kernel_rfl
theorem ok_haulierref42_Line : SigOK Tryz.prog (Laid Tryz.prog) 9 sig_haulierref42_Line := sig_of hT hS envok_haulierref42_Line mixed ann_haulierref42_Line Tryz.func9 (by kernel_rfl) den_haulierref42_Line

noncomputable def haulierref06_Split_L29 (d : (List UInt8) × Unit) (d1 : ((Unit × Int × Unit) × ((List (Int × (List UInt8) × Unit)) × Unit))) : Option (((Unit × Int × Unit) × ((List (Int × (List UInt8) × Unit)) × Unit)) ⊕ (((Unit × Unit) × ((List (Int × (List UInt8) × Unit)) × Unit)) ⊕ ((List (Int × (List UInt8) × Unit)) × Int × Int × Unit))) :=
  bif decide (d1.1.2.1 < (d.1.length : Int)) then
    (geti d.1 d1.1.2.1).bind fun (c2 : UInt8) =>
    Option.bind (bif !(d1.1.2.1 == 0) then
      (geti d.1 (w64 (d1.1.2.1 - 1))).bind fun (c3 : UInt8) =>
      some ((c3.toNat : Int) == 32)
    else some true) fun (b4 : Bool) =>
    Option.bind (bif !(decide ((c2.toNat : Int) < 32)) then
      some (decide ((c2.toNat : Int) > 126))
    else some true) fun (b5 : Bool) =>
    Option.bind (bif !b5 then
      Option.bind (bif ((c2.toNat : Int) == 32) then
        some b4
      else some false) fun (b6 : Bool) =>
      some b6
    else some true) fun (b7 : Bool) =>
    bif b7 then
      some (.inr (.inr ([], d1.1.2.1, 7, ())))
    else
    bif ((c2.toNat : Int) == 32) then
      some (.inl (((), w64 (d1.1.2.1 + 1), ()), d1.2.1, ()))
    else
    joinS (
      bif b4 then
        let a8 : List (Int × (List UInt8) × Unit) := ([(d1.1.2.1, [], ())] : List (Int × (List UInt8) × Unit))
        chk (decide (d1.2.1.length + a8.length ≤ LIM)) <|
        let a9 : List (Int × (List UInt8) × Unit) := d1.2.1 ++ a8
        some (.inl (((), ()), a9, ()))
      else
      some (.inl (((), ()), d1.2.1, ()))) fun (d10 : ((Unit × Unit) × ((List (Int × (List UInt8) × Unit)) × Unit))) =>
    chk (decide (0 ≤ (w64 ((d10.2.1.length : Int) - 1)) ∧ (w64 ((d10.2.1.length : Int) - 1)) < (d10.2.1.length : Int))) <|
    (geti d10.2.1 (w64 ((d10.2.1.length : Int) - 1))).bind fun (e11 : Int × (List UInt8) × Unit) =>
    chk (decide (0 ≤ d1.1.2.1 ∧ d1.1.2.1 ≤ (w64 (d1.1.2.1 + 1)) ∧ (w64 (d1.1.2.1 + 1)) ≤ (d.1.length : Int))) <|
    let s12 : List UInt8 := (d.1.take (w64 (d1.1.2.1 + 1)).toNat).drop d1.1.2.1.toNat
    chk (decide (e11.2.1.length + s12.length ≤ LIM)) <|
    let s13 : List UInt8 := e11.2.1 ++ s12
    chk (decide (0 ≤ (w64 ((d10.2.1.length : Int) - 1)) ∧ (w64 ((d10.2.1.length : Int) - 1)) < (d10.2.1.length : Int))) <|
    (geti d10.2.1 (w64 ((d10.2.1.length : Int) - 1))).bind fun (e14 : Int × (List UInt8) × Unit) =>
    let a15 : List (Int × (List UInt8) × Unit) := d10.2.1.set (w64 ((d10.2.1.length : Int) - 1)).toNat (e14.1, s13, e14.2.2)
    some (.inl (((), w64 (d1.1.2.1 + 1), ()), a15, ()))
  else
  some (.inr (.inl (((), ()), d1.2.1, ())))
noncomputable def haulierref06_Split (d : (List UInt8) × Unit) : Option ((List (Int × (List UInt8) × Unit)) × Int × Int × Unit) :=
  joinS (
    iterW (ρ := ((Unit × Unit) × ((List (Int × (List UInt8) × Unit)) × Unit)) ⊕ ((List (Int × (List UInt8) × Unit)) × Int × Int × Unit)) (haulierref06_Split_L29 d) (((), 0, ()), [], ())) fun (d16 : ((Unit × Unit) × ((List (Int × (List UInt8) × Unit)) × Unit))) =>
  Option.bind (bif decide ((d.1.length : Int) > 0) then
    (geti d.1 (w64 ((d.1.length : Int) - 1))).bind fun (c17 : UInt8) =>
    some ((c17.toNat : Int) == 32)
  else some false) fun (b18 : Bool) =>
  bif b18 then
    some ([], (d.1.length : Int), 7, ())
  else
  some (d16.2.1, 0, 0, ())
noncomputable def sig_haulierref06_Split : Sig := ⟨[.str], [.own 103 (.pair (.int .i64) (.pair .str .unit)), .val (.int .i64), .val (.int .i64)], haulierref06_Split⟩
noncomputable def env_haulierref06_Split : Env := fun g => []
def ann_haulierref06_Split : Ann := fun p => bif Nat.beq p 29 then some ⟨[(5, (.ref 5 (.pair (.int .i64) (.pair .str .unit)))), (6, (.int .i64))], [(5, .arr 103 (.pair (.int .i64) (.pair .str .unit)))], [], [], [2, 3, 4, 7, 8, 9, 10, 11, 12, 13, 14, 15, 16, 17, 18, 19, 20, 21, 22, 23, 24, 25, 26, 27, 28, 29, 30, 31, 32, 33, 34, 35, 36, 37, 38, 39, 40, 41, 42, 43, 44, 45, 46, 47, 48, 49, 50, 51, 52, 53, 54, 55, 56, 57, 58, 59, 60, 61, 62, 63, 64, 65, 66, 67], 6⟩ else bif Nat.beq p 3759 then some ⟨[(5, (.ref 27 (.pair (.int .i64) (.pair .str .unit))))], [(27, .arr 103 (.pair (.int .i64) (.pair .str .unit)))], [], [5], [43, 44, 45, 46, 47, 48], 28⟩ else bif Nat.beq p 7 then some ⟨[(5, (.ref 4 (.pair (.int .i64) (.pair .str .unit))))], [(4, .arr 103 (.pair (.int .i64) (.pair .str .unit)))], [], [], [2, 3, 4, 6, 7, 8, 9, 10, 11, 12, 13, 14, 15, 16, 17, 18, 19, 20, 21, 22, 23, 24, 25, 26, 27, 28, 29, 30, 31, 32, 33, 34, 35, 36, 37, 38, 39, 40, 41, 42, 43, 44, 45, 46, 47, 48, 49, 50, 51, 52, 53, 54, 55, 56, 57, 58, 59, 60, 61, 62, 63, 64, 65, 66, 67], 5⟩ else none
theorem envok_haulierref06_Split : EnvOK Tryz.prog (Laid Tryz.prog) env_haulierref06_Split := fun g s hs => by cases hs
theorem den_haulierref06_Split (d : ShD sig_haulierref06_Split.ins) : sig_haulierref06_Split.f d = funDen tt env_haulierref06_Split ann_haulierref06_Split Tryz.f57 sig_haulierref06_Split.ins sig_haulierref06_Split.outs d := by kernel_rfl
theorem ok_haulierref06_Split : SigOK Tryz.prog (Laid Tryz.prog) 57 sig_haulierref06_Split := sig_of hT hS envok_haulierref06_Split mixed ann_haulierref06_Split Tryz.func57 (by kernel_rfl) den_haulierref06_Split

noncomputable def haulierref31_Words_L125 (r1 : (List (Int × (List UInt8) × Unit)) × Int × Int × Unit) (d3 : ((Unit × Int × Unit) × ((List (List UInt8)) × Unit))) : Option (((Unit × Int × Unit) × ((List (List UInt8)) × Unit)) ⊕ ((List (List UInt8)) × Bool × Unit)) :=
  bif decide (d3.1.2.1 < (r1.1.length : Int)) then
    chk (decide (0 ≤ d3.1.2.1 ∧ d3.1.2.1 < (r1.1.length : Int))) <|
    (geti r1.1 d3.1.2.1).bind fun (e4 : Int × (List UInt8) × Unit) =>
    let a5 : List (List UInt8) := ([e4.2.1] : List (List UInt8))
    chk (decide (d3.2.1.length + a5.length ≤ LIM)) <|
    let a6 : List (List UInt8) := d3.2.1 ++ a5
    some (.inl (((), w64 (d3.1.2.1 + 1), ()), a6, ()))
  else
  some (.inr (d3.2.1, true, ()))
noncomputable def haulierref31_Words (d : (List UInt8) × Unit) : Option ((List (List UInt8)) × Bool × Unit) :=
  (haulierref06_Split (d.1, ())).bind fun (r1 : (List (Int × (List UInt8) × Unit)) × Int × Int × Unit) =>
  Option.bind (bif !(r1.2.2.1 != 0) then
    some ((r1.1.length : Int) == 0)
  else some true) fun (b2 : Bool) =>
  bif b2 then
    some ([], false, ())
  else
  iterW (ρ := (List (List UInt8)) × Bool × Unit) (haulierref31_Words_L125 r1) (((), 0, ()), [], ())
noncomputable def sig_haulierref31_Words : Sig := ⟨[.str], [.own 9 .str, .val .bool], haulierref31_Words⟩
noncomputable def env_haulierref31_Words : Env := fun g => bif Nat.beq g 57 then [sig_haulierref06_Split] else []
def ann_haulierref31_Words : Ann := fun p => bif Nat.beq p 125 then some ⟨[(7, (.ref 19 .str)), (8, (.int .i64))], [(19, .arr 9 .str)], [], [], [22, 23, 24, 25, 26, 27, 28, 29, 30, 31, 32, 33, 34, 35], 20⟩ else none
theorem envok_haulierref31_Words : EnvOK Tryz.prog (Laid Tryz.prog) env_haulierref31_Words := fun g s hs => by
  simp only [env_haulierref31_Words] at hs
  cases hg : Nat.beq g 57 with
  | true =>
    rw [hg, cond_true] at hs
    obtain rfl := Nat.eq_of_beq_eq_true hg
    simp only [List.mem_cons, List.not_mem_nil, or_false] at hs
    rcases hs with rfl
    · exact ok_haulierref06_Split
  | false =>
  rw [hg, cond_false] at hs
  cases hs
theorem den_haulierref31_Words (d : ShD sig_haulierref31_Words.ins) : sig_haulierref31_Words.f d = funDen tt env_haulierref31_Words ann_haulierref31_Words Tryz.f33 sig_haulierref31_Words.ins sig_haulierref31_Words.outs d := by kernel_rfl
theorem ok_haulierref31_Words : SigOK Tryz.prog (Laid Tryz.prog) 33 sig_haulierref31_Words := sig_of hT hS envok_haulierref31_Words mixed ann_haulierref31_Words Tryz.func33 (by kernel_rfl) den_haulierref31_Words

noncomputable def haulierref06_Text_L13 (d : (List UInt8) × Unit) (d1 : ((Int × Unit) × (Unit))) : Option (((Int × Unit) × (Unit)) ⊕ (((Unit) × (Unit)) ⊕ (Bool × Unit))) :=
  bif decide (d1.1.1 < (d.1.length : Int)) then
    (geti d.1 d1.1.1).bind fun (c2 : UInt8) =>
    Option.bind (bif !(decide ((c2.toNat : Int) < 48)) then
      (geti d.1 d1.1.1).bind fun (c3 : UInt8) =>
      some (decide ((c3.toNat : Int) > 57))
    else some true) fun (b4 : Bool) =>
    bif b4 then
      some (.inr (.inr (false, ())))
    else
    some (.inl ((w64 (d1.1.1 + 1), ()), ()))
  else
  some (.inr (.inl ((), ())))
noncomputable def haulierref06_Text (d : (List UInt8) × Unit) : Option (Bool × Unit) :=
  joinS (
    iterW (ρ := ((Unit) × (Unit)) ⊕ (Bool × Unit)) (haulierref06_Text_L13 d) ((0, ()), ())) fun (d5 : ((Unit) × (Unit))) =>
  Option.bind (bif !((d.1.length : Int) == 1) then
    Option.bind (bif decide ((d.1.length : Int) > 1) then
      (geti d.1 0).bind fun (c6 : UInt8) =>
      some ((c6.toNat : Int) != 48)
    else some false) fun (b7 : Bool) =>
    some b7
  else some true) fun (b8 : Bool) =>
  some (b8, ())
noncomputable def sig_haulierref06_Text : Sig := ⟨[.str], [.val .bool], haulierref06_Text⟩
noncomputable def env_haulierref06_Text : Env := fun g => []
def ann_haulierref06_Text : Ann := fun p => bif Nat.beq p 13 then some ⟨[(3, (.int .i64))], [], [], [], [2, 4, 5, 6, 7, 8, 9, 10, 11, 12, 13, 14, 15, 16, 17, 18, 19], 2⟩ else bif Nat.beq p 3 then some ⟨[], [], [], [], [2, 3, 4, 5, 6, 7, 8, 9, 10, 11, 12, 13, 14, 15, 16, 17, 18, 19], 1⟩ else none
theorem envok_haulierref06_Text : EnvOK Tryz.prog (Laid Tryz.prog) env_haulierref06_Text := fun g s hs => by cases hs
theorem den_haulierref06_Text (d : ShD sig_haulierref06_Text.ins) : sig_haulierref06_Text.f d = funDen tt env_haulierref06_Text ann_haulierref06_Text Tryz.f77 sig_haulierref06_Text.ins sig_haulierref06_Text.outs d := by kernel_rfl
theorem ok_haulierref06_Text : SigOK Tryz.prog (Laid Tryz.prog) 77 sig_haulierref06_Text := sig_of hT hS envok_haulierref06_Text mixed ann_haulierref06_Text Tryz.func77 (by kernel_rfl) den_haulierref06_Text

noncomputable def haulierref06_Number_L61 (d : (List UInt8) × Int × Unit) (d2 : ((Int × Int × Unit) × (Unit))) : Option (((Int × Int × Unit) × (Unit)) ⊕ (((Int × Unit) × (Unit)) ⊕ (Int × Int × Unit))) :=
  bif decide (d2.1.2.1 < (d.1.length : Int)) then
    (geti d.1 d2.1.2.1).bind fun (c3 : UInt8) =>
    let x4 : Int := w64 (9223372036854775807 - (w64 ((w64 (c3.toNat : Int)) - 48)))
    bif decide (d2.1.1 > (w64 (x4.tdiv 10))) then
      some (.inr (.inr (0, 4, ())))
    else
    let x5 : Int := w64 ((w64 (10 * d2.1.1)) + (w64 ((w64 (c3.toNat : Int)) - 48)))
    some (.inl ((x5, w64 (d2.1.2.1 + 1), ()), ()))
  else
  some (.inr (.inl ((d2.1.1, ()), ())))
noncomputable def haulierref06_Number (d : (List UInt8) × Int × Unit) : Option (Int × Int × Unit) :=
  (haulierref06_Text (d.1, ())).bind fun (r1 : Bool × Unit) =>
  bif !r1.1 then
    some (0, 7, ())
  else
  joinS (
    iterW (ρ := ((Int × Unit) × (Unit)) ⊕ (Int × Int × Unit)) (haulierref06_Number_L61 d) ((0, 0, ()), ())) fun (d6 : ((Int × Unit) × (Unit))) =>
  bif decide (d6.1.1 > d.2.1) then
    some (0, 4, ())
  else
  some (d6.1.1, 0, ())
noncomputable def sig_haulierref06_Number : Sig := ⟨[.str, (.int .i64)], [.val (.int .i64), .val (.int .i64)], haulierref06_Number⟩
noncomputable def env_haulierref06_Number : Env := fun g => bif Nat.beq g 77 then [sig_haulierref06_Text] else []
def ann_haulierref06_Number : Ann := fun p => bif Nat.beq p 61 then some ⟨[(6, (.int .i64)), (7, (.int .i64))], [], [], [], [4, 5, 8, 12, 13, 14, 15, 16, 17, 18, 19, 20, 21, 22, 23, 24, 25, 26, 27, 28, 29, 30, 31], 7⟩ else bif Nat.beq p 15 then some ⟨[(6, (.int .i64))], [], [], [], [4, 5, 7, 8, 12, 13, 14, 15, 16, 17, 18, 19, 20, 21, 22, 23, 24, 25, 26, 27, 28, 29, 30, 31], 6⟩ else none
theorem envok_haulierref06_Number : EnvOK Tryz.prog (Laid Tryz.prog) env_haulierref06_Number := fun g s hs => by
  simp only [env_haulierref06_Number] at hs
  cases hg : Nat.beq g 77 with
  | true =>
    rw [hg, cond_true] at hs
    obtain rfl := Nat.eq_of_beq_eq_true hg
    simp only [List.mem_cons, List.not_mem_nil, or_false] at hs
    rcases hs with rfl
    · exact ok_haulierref06_Text
  | false =>
  rw [hg, cond_false] at hs
  cases hs
theorem den_haulierref06_Number (d : ShD sig_haulierref06_Number.ins) : sig_haulierref06_Number.f d = funDen tt env_haulierref06_Number ann_haulierref06_Number Tryz.f59 sig_haulierref06_Number.ins sig_haulierref06_Number.outs d := by kernel_rfl
theorem ok_haulierref06_Number : SigOK Tryz.prog (Laid Tryz.prog) 59 sig_haulierref06_Number := sig_of hT hS envok_haulierref06_Number mixed ann_haulierref06_Number Tryz.func59 (by kernel_rfl) den_haulierref06_Number

noncomputable def haulierref31_Numbers_L29 (d : (List (List UInt8)) × Int × Unit) (d1 : ((Unit × Int × Unit) × ((List Int) × Unit))) : Option (((Unit × Int × Unit) × ((List Int) × Unit)) ⊕ ((List Int) × Int × Unit)) :=
  bif decide (d1.1.2.1 < (d.1.length : Int)) then
    (geti d.1 d1.1.2.1).bind fun (e2 : List UInt8) =>
    joinS (
      Option.bind (bif (d1.1.2.1 == d.2.1) then
        some (decide ((e2.length : Int) > 0))
      else some false) fun (b3 : Bool) =>
      Option.bind (bif b3 then
        (geti e2 0).bind fun (c4 : UInt8) =>
        some ((c4.toNat : Int) == 45)
      else some false) fun (b5 : Bool) =>
      bif b5 then
        chk (decide (0 ≤ (1 : Int) ∧ (1 : Int) ≤ (e2.length : Int))) <|
        let s6 : List UInt8 := e2.drop (1 : Int).toNat
        some (.inl ((s6, -1, ()), ()))
      else
      some (.inl ((e2, 1, ()), ()))) fun (d7 : (((List UInt8) × Int × Unit) × (Unit))) =>
    (haulierref06_Number (d7.1.1, 1000000000, ())).bind fun (r8 : Int × Int × Unit) =>
    joinS (
      Option.bind (bif (r8.2.1 == 0) then
        some (decide (d7.1.2.1 < 0))
      else some false) fun (b9 : Bool) =>
      Option.bind (bif b9 then
        some (r8.1 == 0)
      else some false) fun (b10 : Bool) =>
      bif b10 then
        some (.inl ((7, ()), ()))
      else
      some (.inl ((r8.2.1, ()), ()))) fun (d11 : ((Int × Unit) × (Unit))) =>
    bif (d11.1.1 != 0) then
      some (.inr ([], d11.1.1, ()))
    else
    let a12 : List Int := ([w64 (d7.1.2.1 * r8.1)] : List Int)
    chk (decide (d1.2.1.length + a12.length ≤ LIM)) <|
    let a13 : List Int := d1.2.1 ++ a12
    some (.inl (((), w64 (d1.1.2.1 + 1), ()), a13, ()))
  else
  some (.inr (d1.2.1, 0, ()))
noncomputable def haulierref31_Numbers (d : (List (List UInt8)) × Int × Unit) : Option ((List Int) × Int × Unit) :=
  iterW (ρ := (List Int) × Int × Unit) (haulierref31_Numbers_L29 d) (((), 0, ()), [], ())
noncomputable def sig_haulierref31_Numbers : Sig := ⟨[(.slice .str), (.int .i64)], [.own 3 (.int .i64), .val (.int .i64)], haulierref31_Numbers⟩
noncomputable def env_haulierref31_Numbers : Env := fun g => bif Nat.beq g 59 then [sig_haulierref06_Number] else []
def ann_haulierref31_Numbers : Ann := fun p => bif Nat.beq p 29 then some ⟨[(6, (.ref 4 (.int .i64))), (7, (.int .i64))], [(4, .arr 3 (.int .i64))], [], [], [4, 5, 8, 9, 10, 11, 12, 13, 14, 15, 16, 17, 18, 19, 20, 21, 22, 23, 24, 25, 26, 27, 28, 29, 30, 31, 32, 33, 34, 35, 36, 37, 38, 39, 40, 41, 42, 43, 44, 45, 46, 47, 48, 49, 50, 51, 52, 53, 54, 55, 56, 57, 58, 59, 60], 5⟩ else bif Nat.beq p 939 then some ⟨[(8, .str), (9, (.int .i64))], [], [], [], [22, 23, 24, 25, 26, 27, 28, 29, 30, 31, 32, 33, 34, 35, 36], 15⟩ else bif Nat.beq p 3759 then some ⟨[(11, (.int .i64))], [], [], [], [42, 43, 44, 45, 46, 47, 48, 49, 50, 51], 23⟩ else none
theorem envok_haulierref31_Numbers : EnvOK Tryz.prog (Laid Tryz.prog) env_haulierref31_Numbers := fun g s hs => by
  simp only [env_haulierref31_Numbers] at hs
  cases hg : Nat.beq g 59 with
  | true =>
    rw [hg, cond_true] at hs
    obtain rfl := Nat.eq_of_beq_eq_true hg
    simp only [List.mem_cons, List.not_mem_nil, or_false] at hs
    rcases hs with rfl
    · exact ok_haulierref06_Number
  | false =>
  rw [hg, cond_false] at hs
  cases hs
theorem den_haulierref31_Numbers (d : ShD sig_haulierref31_Numbers.ins) : sig_haulierref31_Numbers.f d = funDen tt env_haulierref31_Numbers ann_haulierref31_Numbers Tryz.f36 sig_haulierref31_Numbers.ins sig_haulierref31_Numbers.outs d := by kernel_rfl
theorem ok_haulierref31_Numbers : SigOK Tryz.prog (Laid Tryz.prog) 36 sig_haulierref31_Numbers := sig_of hT hS envok_haulierref31_Numbers mixed ann_haulierref31_Numbers Tryz.func36 (by kernel_rfl) den_haulierref31_Numbers

noncomputable def haulierref06_Span_L29 (d : (List UInt8) × Unit) (d1 : ((Int × Int × Unit) × ((Int × Int × Unit) × Unit))) : Option (((Int × Int × Unit) × ((Int × Int × Unit) × Unit)) ⊕ (((Int × Unit) × ((Int × Int × Unit) × Unit)) ⊕ ((Int × Int × Unit) × Int × Unit))) :=
  bif decide (d1.1.2.1 < (d.1.length : Int)) then
    (geti d.1 d1.1.2.1).bind fun (c2 : UInt8) =>
    bif ((c2.toNat : Int) == 45) then
      bif decide (d1.1.1 ≥ 0) then
        some (.inr (.inr ((0, 0, ()), 7, ())))
      else
      some (.inl ((d1.1.2.1, w64 (d1.1.2.1 + 1), ()), d1.2.1, ()))
    else
    some (.inl ((d1.1.1, w64 (d1.1.2.1 + 1), ()), d1.2.1, ()))
  else
  some (.inr (.inl ((d1.1.1, ()), d1.2.1, ())))
noncomputable def haulierref06_Span (d : (List UInt8) × Unit) : Option ((Int × Int × Unit) × Int × Unit) :=
  joinS (
    iterW (ρ := ((Int × Unit) × ((Int × Int × Unit) × Unit)) ⊕ ((Int × Int × Unit) × Int × Unit)) (haulierref06_Span_L29 d) ((-1, 0, ()), (0, 0, ()), ())) fun (d3 : ((Int × Unit) × ((Int × Int × Unit) × Unit))) =>
  Option.bind (bif !(decide (d3.1.1 < 0)) then
    chk (decide (0 ≤ d3.1.1 ∧ d3.1.1 ≤ (d.1.length : Int))) <|
    let s4 : List UInt8 := d.1.take d3.1.1.toNat
    (haulierref06_Text (s4, ())).bind fun (r5 : Bool × Unit) =>
    some (!r5.1)
  else some true) fun (b6 : Bool) =>
  Option.bind (bif !b6 then
    chk (decide (0 ≤ (w64 (d3.1.1 + 1)) ∧ (w64 (d3.1.1 + 1)) ≤ (d.1.length : Int))) <|
    let s7 : List UInt8 := d.1.drop (w64 (d3.1.1 + 1)).toNat
    (haulierref06_Text (s7, ())).bind fun (r8 : Bool × Unit) =>
    some (!r8.1)
  else some true) fun (b9 : Bool) =>
  bif b9 then
    some ((0, 0, ()), 7, ())
  else
  chk (decide (0 ≤ d3.1.1 ∧ d3.1.1 ≤ (d.1.length : Int))) <|
  let s10 : List UInt8 := d.1.take d3.1.1.toNat
  (haulierref06_Number (s10, 40320, ())).bind fun (r11 : Int × Int × Unit) =>
  chk (decide (0 ≤ (w64 (d3.1.1 + 1)) ∧ (w64 (d3.1.1 + 1)) ≤ (d.1.length : Int))) <|
  let s12 : List UInt8 := d.1.drop (w64 (d3.1.1 + 1)).toNat
  (haulierref06_Number (s12, 40320, ())).bind fun (r13 : Int × Int × Unit) =>
  Option.bind (bif !(r11.2.1 != 0) then
    some (r13.2.1 != 0)
  else some true) fun (b14 : Bool) =>
  bif b14 then
    some ((0, 0, ()), 4, ())
  else
  bif decide (r11.1 ≥ r13.1) then
    some ((0, 0, ()), 3, ())
  else
  some ((r11.1, r13.1, ()), 0, ())
noncomputable def sig_haulierref06_Span : Sig := ⟨[.str], [.val (.pair (.int .i64) (.pair (.int .i64) .unit)), .val (.int .i64)], haulierref06_Span⟩
noncomputable def env_haulierref06_Span : Env := fun g => bif Nat.beq g 77 then [sig_haulierref06_Text] else bif Nat.beq g 59 then [sig_haulierref06_Number] else []
def ann_haulierref06_Span : Ann := fun p => bif Nat.beq p 29 then some ⟨[(4, (.int .i64)), (5, (.int .i64))], [(0, .box (.pair (.int .i64) (.pair (.int .i64) .unit)))], [0], [], [3, 10, 11, 12, 13, 14, 15, 16, 17, 18, 19, 20, 21, 22, 23], 4⟩ else bif Nat.beq p 7 then some ⟨[(4, (.int .i64))], [(0, .box (.pair (.int .i64) (.pair (.int .i64) .unit)))], [0], [], [3, 5, 10, 11, 12, 13, 14, 15, 16, 17, 18, 19, 20, 21, 22, 23], 3⟩ else none
theorem envok_haulierref06_Span : EnvOK Tryz.prog (Laid Tryz.prog) env_haulierref06_Span := fun g s hs => by
  simp only [env_haulierref06_Span] at hs
  cases hg : Nat.beq g 77 with
  | true =>
    rw [hg, cond_true] at hs
    obtain rfl := Nat.eq_of_beq_eq_true hg
    simp only [List.mem_cons, List.not_mem_nil, or_false] at hs
    rcases hs with rfl
    · exact ok_haulierref06_Text
  | false =>
  rw [hg, cond_false] at hs
  cases hg : Nat.beq g 59 with
  | true =>
    rw [hg, cond_true] at hs
    obtain rfl := Nat.eq_of_beq_eq_true hg
    simp only [List.mem_cons, List.not_mem_nil, or_false] at hs
    rcases hs with rfl
    · exact ok_haulierref06_Number
  | false =>
  rw [hg, cond_false] at hs
  cases hs
theorem den_haulierref06_Span (d : ShD sig_haulierref06_Span.ins) : sig_haulierref06_Span.f d = funDen tt env_haulierref06_Span ann_haulierref06_Span Tryz.f61 sig_haulierref06_Span.ins sig_haulierref06_Span.outs d := by kernel_rfl
theorem ok_haulierref06_Span : SigOK Tryz.prog (Laid Tryz.prog) 61 sig_haulierref06_Span := sig_of hT hS envok_haulierref06_Span mixed ann_haulierref06_Span Tryz.func61 (by kernel_rfl) den_haulierref06_Span

noncomputable def haulierref31_order_L253 (d : (List (List UInt8)) × Unit) (d10 : ((Int × Unit) × ((Int × Int × Int × Int × Unit × Unit) × (Int × Int × Int × Int × Unit × Unit) × (List (Int × Int × Unit)) × Unit))) : Option (((Int × Unit) × ((Int × Int × Int × Int × Unit × Unit) × (Int × Int × Int × Int × Unit × Unit) × (List (Int × Int × Unit)) × Unit)) ⊕ ((Int × Int × Int × Int × (List (Int × Int × Unit)) × Unit) × Int × Unit)) :=
  bif decide (d10.1.1 < (d.1.length : Int)) then
    (geti d.1 d10.1.1).bind fun (e11 : List UInt8) =>
    (haulierref06_Span (e11, ())).bind fun (r12 : (Int × Int × Unit) × Int × Unit) =>
    bif (r12.2.1 != 0) then
      some (.inr ((0, 0, 0, 0, [], ()), r12.2.1, ()))
    else
    let a13 : List (Int × Int × Unit) := ([(r12.1.1, r12.1.2.1, ())] : List (Int × Int × Unit))
    chk (decide (d10.2.2.2.1.length + a13.length ≤ LIM)) <|
    let a14 : List (Int × Int × Unit) := d10.2.2.2.1 ++ a13
    some (.inl ((w64 (d10.1.1 + 1), ()), d10.2.1, (d10.2.2.1.1, d10.2.2.1.2.1, d10.2.2.1.2.2.1, d10.2.2.1.2.2.2.1, (), d10.2.2.1.2.2.2.2.2), a14, ()))
  else
  some (.inr ((d10.2.2.1.1, d10.2.2.1.2.1, d10.2.2.1.2.2.1, d10.2.2.1.2.2.2.1, d10.2.2.2.1, ()), 0, ()))
noncomputable def haulierref31_order (d : (List (List UInt8)) × Unit) : Option ((Int × Int × Int × Int × (List (Int × Int × Unit)) × Unit) × Int × Unit) :=
  Option.bind (bif !(decide ((d.1.length : Int) < 5)) then
    (geti d.1 0).bind fun (e1 : List UInt8) =>
    let x2 : Bool := !(e1 == ([111, 114, 100, 101, 114] : List UInt8))
    some x2
  else some true) fun (b3 : Bool) =>
  bif b3 then
    some ((0, 0, 0, 0, [], ()), 7, ())
  else
  chk (decide (0 ≤ (1 : Int) ∧ (1 : Int) ≤ (5 : Int) ∧ (5 : Int) ≤ (d.1.length : Int))) <|
  let s4 : List (List UInt8) := (d.1.take (5 : Int).toNat).drop (1 : Int).toNat
  (haulierref31_Numbers (s4, 2, ())).bind fun (r5 : (List Int) × Int × Unit) =>
  bif (r5.2.1 != 0) then
    some ((0, 0, 0, 0, [], ()), r5.2.1, ())
  else
  chk (decide (0 ≤ (0 : Int) ∧ (0 : Int) < (r5.1.length : Int))) <|
  (geti r5.1 0).bind fun (e6 : Int) =>
  chk (decide (0 ≤ (1 : Int) ∧ (1 : Int) < (r5.1.length : Int))) <|
  (geti r5.1 1).bind fun (e7 : Int) =>
  chk (decide (0 ≤ (2 : Int) ∧ (2 : Int) < (r5.1.length : Int))) <|
  (geti r5.1 2).bind fun (e8 : Int) =>
  chk (decide (0 ≤ (3 : Int) ∧ (3 : Int) < (r5.1.length : Int))) <|
  (geti r5.1 3).bind fun (e9 : Int) =>
  iterW (ρ := (Int × Int × Int × Int × (List (Int × Int × Unit)) × Unit) × Int × Unit) (haulierref31_order_L253 d) ((5, ()), (0, 0, 0, 0, (), ()), (e6, e7, e8, e9, (), ()), [], ())
noncomputable def sig_haulierref31_order : Sig := ⟨[(.slice .str)], [.val (.pair (.int .i64) (.pair (.int .i64) (.pair (.int .i64) (.pair (.int .i64) (.pair (.slice (.pair (.int .i64) (.pair (.int .i64) .unit))) .unit))))), .val (.int .i64)], haulierref31_order⟩
noncomputable def env_haulierref31_order : Env := fun g => bif Nat.beq g 36 then [sig_haulierref31_Numbers] else bif Nat.beq g 61 then [sig_haulierref06_Span] else []
def ann_haulierref31_order : Ann := fun p => bif Nat.beq p 253 then some ⟨[(7, (.int .i64))], [(0, .box (.pair (.int .i64) (.pair (.int .i64) (.pair (.int .i64) (.pair (.int .i64) (.pair .nil .unit)))))), (18, .box (.pair (.int .i64) (.pair (.int .i64) (.pair (.int .i64) (.pair (.int .i64) (.pair (.ref 21 (.pair (.int .i64) (.pair (.int .i64) .unit))) .unit)))))), (21, .arr 62 (.pair (.int .i64) (.pair (.int .i64) .unit)))], [0, 18], [], [3, 8, 9, 43, 44, 45, 46, 47, 48, 49, 50, 51, 52, 53, 54, 55, 56, 57, 58, 59, 60, 61, 62, 63, 64, 65, 66], 22⟩ else none
theorem envok_haulierref31_order : EnvOK Tryz.prog (Laid Tryz.prog) env_haulierref31_order := fun g s hs => by
  simp only [env_haulierref31_order] at hs
  cases hg : Nat.beq g 36 with
  | true =>
    rw [hg, cond_true] at hs
    obtain rfl := Nat.eq_of_beq_eq_true hg
    simp only [List.mem_cons, List.not_mem_nil, or_false] at hs
    rcases hs with rfl
    · exact ok_haulierref31_Numbers
  | false =>
  rw [hg, cond_false] at hs
  cases hg : Nat.beq g 61 with
  | true =>
    rw [hg, cond_true] at hs
    obtain rfl := Nat.eq_of_beq_eq_true hg
    simp only [List.mem_cons, List.not_mem_nil, or_false] at hs
    rcases hs with rfl
    · exact ok_haulierref06_Span
  | false =>
  rw [hg, cond_false] at hs
  cases hs
theorem den_haulierref31_order (d : ShD sig_haulierref31_order.ins) : sig_haulierref31_order.f d = funDen tt env_haulierref31_order ann_haulierref31_order Tryz.f58 sig_haulierref31_order.ins sig_haulierref31_order.outs d := by kernel_rfl
theorem ok_haulierref31_order : SigOK Tryz.prog (Laid Tryz.prog) 58 sig_haulierref31_order := sig_of hT hS envok_haulierref31_order mixed ann_haulierref31_order Tryz.func58 (by kernel_rfl) den_haulierref31_order

noncomputable def haulierref31_Read (d : (List UInt8) × Unit) : Option ((Int × Int × Int × Int × (List (Int × Int × Unit)) × Unit) × Int × Unit) :=
  (haulierref31_Words (d.1, ())).bind fun (r1 : (List (List UInt8)) × Bool × Unit) =>
  bif !r1.2.1 then
    some ((0, 0, 0, 0, [], ()), 7, ())
  else
  (haulierref31_order (r1.1, ())).bind fun (r2 : (Int × Int × Int × Int × (List (Int × Int × Unit)) × Unit) × Int × Unit) =>
  some ((r2.1.1, r2.1.2.1, r2.1.2.2.1, r2.1.2.2.2.1, r2.1.2.2.2.2.1, ()), r2.2.1, ())
noncomputable def sig_haulierref31_Read : Sig := ⟨[.str], [.val (.pair (.int .i64) (.pair (.int .i64) (.pair (.int .i64) (.pair (.int .i64) (.pair (.slice (.pair (.int .i64) (.pair (.int .i64) .unit))) .unit))))), .val (.int .i64)], haulierref31_Read⟩
noncomputable def env_haulierref31_Read : Env := fun g => bif Nat.beq g 33 then [sig_haulierref31_Words] else bif Nat.beq g 58 then [sig_haulierref31_order] else []
def ann_haulierref31_Read : Ann := fun p => none
theorem envok_haulierref31_Read : EnvOK Tryz.prog (Laid Tryz.prog) env_haulierref31_Read := fun g s hs => by
  simp only [env_haulierref31_Read] at hs
  cases hg : Nat.beq g 33 with
  | true =>
    rw [hg, cond_true] at hs
    obtain rfl := Nat.eq_of_beq_eq_true hg
    simp only [List.mem_cons, List.not_mem_nil, or_false] at hs
    rcases hs with rfl
    · exact ok_haulierref31_Words
  | false =>
  rw [hg, cond_false] at hs
  cases hg : Nat.beq g 58 with
  | true =>
    rw [hg, cond_true] at hs
    obtain rfl := Nat.eq_of_beq_eq_true hg
    simp only [List.mem_cons, List.not_mem_nil, or_false] at hs
    rcases hs with rfl
    · exact ok_haulierref31_order
  | false =>
  rw [hg, cond_false] at hs
  cases hs
theorem den_haulierref31_Read (d : ShD sig_haulierref31_Read.ins) : sig_haulierref31_Read.f d = funDen tt env_haulierref31_Read ann_haulierref31_Read Tryz.f34 sig_haulierref31_Read.ins sig_haulierref31_Read.outs d := by kernel_rfl
theorem ok_haulierref31_Read : SigOK Tryz.prog (Laid Tryz.prog) 34 sig_haulierref31_Read := sig_of hT hS envok_haulierref31_Read mixed ann_haulierref31_Read Tryz.func34 (by kernel_rfl) den_haulierref31_Read

noncomputable def haulierref09_Kind (d : Int × Unit) : Option (Int × Bool × Unit) :=
  (geti ([82, 65, 87, 68] : List UInt8) 0).bind fun (c1 : UInt8) =>
  bif ((c1.toNat : Int) == d.1) then
    some (0, true, ())
  else
  (geti ([82, 65, 87, 68] : List UInt8) 1).bind fun (c2 : UInt8) =>
  bif ((c2.toNat : Int) == d.1) then
    some (1, true, ())
  else
  (geti ([82, 65, 87, 68] : List UInt8) 2).bind fun (c3 : UInt8) =>
  bif ((c3.toNat : Int) == d.1) then
    some (2, true, ())
  else
  (geti ([82, 65, 87, 68] : List UInt8) 3).bind fun (c4 : UInt8) =>
  bif ((c4.toNat : Int) == d.1) then
    some (3, true, ())
  else
  some (0, false, ())
noncomputable def sig_haulierref09_Kind : Sig := ⟨[(.int .u8)], [.val (.int .i64), .val .bool], haulierref09_Kind⟩
noncomputable def env_haulierref09_Kind : Env := fun g => []
def ann_haulierref09_Kind : Ann := fun p => none
theorem envok_haulierref09_Kind : EnvOK Tryz.prog (Laid Tryz.prog) env_haulierref09_Kind := fun g s hs => by cases hs
theorem den_haulierref09_Kind (d : ShD sig_haulierref09_Kind.ins) : sig_haulierref09_Kind.f d = funDen tt env_haulierref09_Kind ann_haulierref09_Kind Tryz.f60 sig_haulierref09_Kind.ins sig_haulierref09_Kind.outs d := by kernel_rfl
theorem ok_haulierref09_Kind : SigOK Tryz.prog (Laid Tryz.prog) 60 sig_haulierref09_Kind := sig_of hT hS envok_haulierref09_Kind mixed ann_haulierref09_Kind Tryz.func60 (by kernel_rfl) den_haulierref09_Kind

noncomputable def haulierref42_record_L253 (d : (List (List UInt8)) × Unit) (d4 : ((Int × Unit) × ((Int × Int × Int × Int × Int × Unit × Int × Unit × Int × Int × Int × Int × Unit × Unit) × (Int × Int × Int × Int × Int × Unit × Int × Unit × Int × Int × Int × Int × Unit × Unit) × (List (Int × Int × Int × Unit)) × Unit))) : Option (((Int × Unit) × ((Int × Int × Int × Int × Int × Unit × Int × Unit × Int × Int × Int × Int × Unit × Unit) × (Int × Int × Int × Int × Int × Unit × Int × Unit × Int × Int × Int × Int × Unit × Unit) × (List (Int × Int × Int × Unit)) × Unit)) ⊕ ((Int × Int × Int × Int × Int × (List (Int × Int × Unit)) × Int × (List (Int × Int × Int × Unit)) × Int × Int × Int × Int × (List Int) × Unit) × Int × Unit)) :=
  bif decide (d4.1.1 < (d.1.length : Int)) then
    joinS (
      (geti d.1 d4.1.1).bind fun (e5 : List UInt8) =>
      bif ((e5.length : Int) == 1) then
        (geti d.1 d4.1.1).bind fun (e6 : List UInt8) =>
        (geti e6 0).bind fun (c7 : UInt8) =>
        (haulierref09_Kind ((c7.toNat : Int), ())).bind fun (r8 : Int × Bool × Unit) =>
        some (.inl ((r8.1, r8.2.1, ()), ()))
      else
      some (.inl ((0, false, ()), ()))) fun (d9 : ((Int × Bool × Unit) × (Unit))) =>
    bif !d9.1.2.1 then
      some (.inr ((0, 0, 0, 0, 0, [], 0, [], 0, 0, 0, 0, [], ()), 2, ()))
    else
    (geti d.1 (w64 (d4.1.1 + 1))).bind fun (e10 : List UInt8) =>
    (haulierref06_Span (e10, ())).bind fun (r11 : (Int × Int × Unit) × Int × Unit) =>
    bif (r11.2.1 != 0) then
      some (.inr ((0, 0, 0, 0, 0, [], 0, [], 0, 0, 0, 0, [], ()), r11.2.1, ()))
    else
    let a12 : List (Int × Int × Int × Unit) := ([(d9.1.1, r11.1.1, r11.1.2.1, ())] : List (Int × Int × Int × Unit))
    chk (decide (d4.2.2.2.1.length + a12.length ≤ LIM)) <|
    let a13 : List (Int × Int × Int × Unit) := d4.2.2.2.1 ++ a12
    some (.inl ((w64 (d4.1.1 + 2), ()), d4.2.1, (d4.2.2.1.1, d4.2.2.1.2.1, d4.2.2.1.2.2.1, d4.2.2.1.2.2.2.1, d4.2.2.1.2.2.2.2.1, d4.2.2.1.2.2.2.2.2.1, d4.2.2.1.2.2.2.2.2.2.1, (), d4.2.2.1.2.2.2.2.2.2.2.2), a13, ()))
  else
  some (.inr ((d4.2.2.1.1, d4.2.2.1.2.1, d4.2.2.1.2.2.1, d4.2.2.1.2.2.2.1, d4.2.2.1.2.2.2.2.1, [], d4.2.2.1.2.2.2.2.2.2.1, d4.2.2.2.1, d4.2.2.1.2.2.2.2.2.2.2.2.1, d4.2.2.1.2.2.2.2.2.2.2.2.2.1, d4.2.2.1.2.2.2.2.2.2.2.2.2.2.1, d4.2.2.1.2.2.2.2.2.2.2.2.2.2.2.1, [], ()), 0, ()))
noncomputable def haulierref42_record (d : (List (List UInt8)) × Unit) : Option ((Int × Int × Int × Int × Int × (List (Int × Int × Unit)) × Int × (List (Int × Int × Int × Unit)) × Int × Int × Int × Int × (List Int) × Unit) × Int × Unit) :=
  Option.bind (bif !(decide ((d.1.length : Int) < 2)) then
    some (((d.1.length : Int).tmod 2) != 0)
  else some true) fun (b1 : Bool) =>
  bif b1 then
    some ((0, 0, 0, 0, 0, [], 0, [], 0, 0, 0, 0, [], ()), 7, ())
  else
  (geti d.1 1).bind fun (e2 : List UInt8) =>
  (haulierref06_Number (e2, 1000000000, ())).bind fun (r3 : Int × Int × Unit) =>
  bif (r3.2.1 != 0) then
    some ((0, 0, 0, 0, 0, [], 0, [], 0, 0, 0, 0, [], ()), r3.2.1, ())
  else
  iterW (ρ := (Int × Int × Int × Int × Int × (List (Int × Int × Unit)) × Int × (List (Int × Int × Int × Unit)) × Int × Int × Int × Int × (List Int) × Unit) × Int × Unit) (haulierref42_record_L253 d) ((2, ()), (0, 0, 0, 0, 0, (), 0, (), 0, 0, 0, 0, (), ()), (3, 0, 0, 0, 0, (), r3.1, (), 0, 0, 0, 0, (), ()), [], ())
noncomputable def sig_haulierref42_record : Sig := ⟨[(.slice .str)], [.val (.pair (.int .i64) (.pair (.int .i64) (.pair (.int .i64) (.pair (.int .i64) (.pair (.int .i64) (.pair (.slice (.pair (.int .i64) (.pair (.int .i64) .unit))) (.pair (.int .i64) (.pair (.slice (.pair (.int .i64) (.pair (.int .i64) (.pair (.int .i64) .unit)))) (.pair (.int .i64) (.pair (.int .i64) (.pair (.int .i64) (.pair (.int .i64) (.pair (.slice (.int .i64)) .unit))))))))))))), .val (.int .i64)], haulierref42_record⟩
noncomputable def env_haulierref42_record : Env := fun g => bif Nat.beq g 59 then [sig_haulierref06_Number] else bif Nat.beq g 60 then [sig_haulierref09_Kind] else bif Nat.beq g 61 then [sig_haulierref06_Span] else []
def ann_haulierref42_record : Ann := fun p => bif Nat.beq p 253 then some ⟨[(7, (.int .i64))], [(0, .box (.pair (.int .i64) (.pair (.int .i64) (.pair (.int .i64) (.pair (.int .i64) (.pair (.int .i64) (.pair .nil (.pair (.int .i64) (.pair .nil (.pair (.int .i64) (.pair (.int .i64) (.pair (.int .i64) (.pair (.int .i64) (.pair .nil .unit)))))))))))))), (21, .box (.pair (.int .i64) (.pair (.int .i64) (.pair (.int .i64) (.pair (.int .i64) (.pair (.int .i64) (.pair .nil (.pair (.int .i64) (.pair (.ref 24 (.pair (.int .i64) (.pair (.int .i64) (.pair (.int .i64) .unit)))) (.pair (.int .i64) (.pair (.int .i64) (.pair (.int .i64) (.pair (.int .i64) (.pair .nil .unit)))))))))))))), (24, .arr 50 (.pair (.int .i64) (.pair (.int .i64) (.pair (.int .i64) .unit))))], [0, 21], [], [3, 8, 9, 10, 11, 35, 36, 37, 38, 39, 40, 41, 42, 43, 44, 45, 46, 47, 48, 49, 50, 51, 52, 53, 54, 55, 56, 57, 58, 59, 60, 61, 62, 63, 64, 65, 66, 67, 68, 69, 70, 71, 72, 73, 74, 75, 76, 77, 78, 79, 80, 81, 82], 25⟩ else bif Nat.beq p 4053 then some ⟨[(8, (.int .i64)), (9, .bool)], [], [], [], [41, 42, 43, 44, 45, 46, 47, 48, 49, 50, 51, 52, 53, 54, 55], 31⟩ else none
theorem envok_haulierref42_record : EnvOK Tryz.prog (Laid Tryz.prog) env_haulierref42_record := fun g s hs => by
  simp only [env_haulierref42_record] at hs
  cases hg : Nat.beq g 59 with
  | true =>
    rw [hg, cond_true] at hs
    obtain rfl := Nat.eq_of_beq_eq_true hg
    simp only [List.mem_cons, List.not_mem_nil, or_false] at hs
    rcases hs with rfl
    · exact ok_haulierref06_Number
  | false =>
  rw [hg, cond_false] at hs
  cases hg : Nat.beq g 60 with
  | true =>
    rw [hg, cond_true] at hs
    obtain rfl := Nat.eq_of_beq_eq_true hg
    simp only [List.mem_cons, List.not_mem_nil, or_false] at hs
    rcases hs with rfl
    · exact ok_haulierref09_Kind
  | false =>
  rw [hg, cond_false] at hs
  cases hg : Nat.beq g 61 with
  | true =>
    rw [hg, cond_true] at hs
    obtain rfl := Nat.eq_of_beq_eq_true hg
    simp only [List.mem_cons, List.not_mem_nil, or_false] at hs
    rcases hs with rfl
    · exact ok_haulierref06_Span
  | false =>
  rw [hg, cond_false] at hs
  cases hs
theorem den_haulierref42_record (d : ShD sig_haulierref42_record.ins) : sig_haulierref42_record.f d = funDen tt env_haulierref42_record ann_haulierref42_record Tryz.f35 sig_haulierref42_record.ins sig_haulierref42_record.outs d := by kernel_rfl
theorem ok_haulierref42_record : SigOK Tryz.prog (Laid Tryz.prog) 35 sig_haulierref42_record := sig_of hT hS envok_haulierref42_record mixed ann_haulierref42_record Tryz.func35 (by kernel_rfl) den_haulierref42_record

noncomputable def haulierref42_Read (d : (List UInt8) × Unit) : Option ((Int × Int × Int × Int × Int × (List (Int × Int × Unit)) × Int × (List (Int × Int × Int × Unit)) × Int × Int × Int × Int × (List Int) × Unit) × Int × Unit) :=
  (haulierref31_Words (d.1, ())).bind fun (r1 : (List (List UInt8)) × Bool × Unit) =>
  bif !r1.2.1 then
    some ((0, 0, 0, 0, 0, [], 0, [], 0, 0, 0, 0, [], ()), 7, ())
  else
  chk (decide (0 ≤ (0 : Int) ∧ (0 : Int) < (r1.1.length : Int))) <|
  (geti r1.1 0).bind fun (e2 : List UInt8) =>
  let x3 : Bool := (e2 == ([111, 114, 100, 101, 114] : List UInt8))
  bif x3 then
    (haulierref31_Read (d.1, ())).bind fun (r4 : (Int × Int × Int × Int × (List (Int × Int × Unit)) × Unit) × Int × Unit) =>
    bif (r4.2.1 != 0) then
      some ((0, 0, 0, 0, 0, [], 0, [], 0, 0, 0, 0, [], ()), r4.2.1, ())
    else
    some ((1, r4.1.1, r4.1.2.1, r4.1.2.2.1, r4.1.2.2.2.1, r4.1.2.2.2.2.1, 0, [], 0, 0, 0, 0, [], ()), 0, ())
  else
  chk (decide (0 ≤ (0 : Int) ∧ (0 : Int) < (r1.1.length : Int))) <|
  (geti r1.1 0).bind fun (e5 : List UInt8) =>
  let x6 : Bool := (e5 == ([114, 101, 99, 111, 114, 100] : List UInt8))
  bif x6 then
    (haulierref42_record (r1.1, ())).bind fun (r7 : (Int × Int × Int × Int × Int × (List (Int × Int × Unit)) × Int × (List (Int × Int × Int × Unit)) × Int × Int × Int × Int × (List Int) × Unit) × Int × Unit) =>
    some ((r7.1.1, r7.1.2.1, r7.1.2.2.1, r7.1.2.2.2.1, r7.1.2.2.2.2.1, r7.1.2.2.2.2.2.1, r7.1.2.2.2.2.2.2.1, r7.1.2.2.2.2.2.2.2.1, r7.1.2.2.2.2.2.2.2.2.1, r7.1.2.2.2.2.2.2.2.2.2.1, r7.1.2.2.2.2.2.2.2.2.2.2.1, r7.1.2.2.2.2.2.2.2.2.2.2.2.1, r7.1.2.2.2.2.2.2.2.2.2.2.2.2.1, ()), r7.2.1, ())
  else
  chk (decide (0 ≤ (0 : Int) ∧ (0 : Int) < (r1.1.length : Int))) <|
  (geti r1.1 0).bind fun (e8 : List UInt8) =>
  let x9 : Bool := (e8 == ([115, 104, 111, 119] : List UInt8))
  Option.bind (bif x9 then
    some ((r1.1.length : Int) == 1)
  else some false) fun (b10 : Bool) =>
  bif b10 then
    some ((6, 0, 0, 0, 0, [], 0, [], 0, 0, 0, 0, [], ()), 0, ())
  else
  chk (decide (0 ≤ (0 : Int) ∧ (0 : Int) < (r1.1.length : Int))) <|
  (geti r1.1 0).bind fun (e11 : List UInt8) =>
  let x12 : Bool := (e11 == ([99, 97, 110, 99, 101, 108] : List UInt8))
  Option.bind (bif x12 then
    some ((r1.1.length : Int) == 2)
  else some false) fun (b13 : Bool) =>
  Option.bind (bif !b13 then
    chk (decide (0 ≤ (0 : Int) ∧ (0 : Int) < (r1.1.length : Int))) <|
    (geti r1.1 0).bind fun (e14 : List UInt8) =>
    let x15 : Bool := (e14 == ([116, 105, 99, 107] : List UInt8))
    Option.bind (bif x15 then
      some ((r1.1.length : Int) == 2)
    else some false) fun (b16 : Bool) =>
    some b16
  else some true) fun (b17 : Bool) =>
  Option.bind (bif !b17 then
    chk (decide (0 ≤ (0 : Int) ∧ (0 : Int) < (r1.1.length : Int))) <|
    (geti r1.1 0).bind fun (e18 : List UInt8) =>
    let x19 : Bool := (e18 == ([114, 101, 112, 108, 97, 110] : List UInt8))
    Option.bind (bif x19 then
      some (decide ((r1.1.length : Int) ≥ 4))
    else some false) fun (b20 : Bool) =>
    some b20
  else some true) fun (b21 : Bool) =>
  bif !b21 then
    some ((0, 0, 0, 0, 0, [], 0, [], 0, 0, 0, 0, [], ()), 7, ())
  else
  chk (decide (0 ≤ (1 : Int) ∧ (1 : Int) ≤ (r1.1.length : Int))) <|
  let s22 : List (List UInt8) := r1.1.drop (1 : Int).toNat
  (haulierref31_Numbers (s22, -1, ())).bind fun (r23 : (List Int) × Int × Unit) =>
  bif (r23.2.1 != 0) then
    some ((0, 0, 0, 0, 0, [], 0, [], 0, 0, 0, 0, [], ()), r23.2.1, ())
  else
  (geti r1.1 0).bind fun (e24 : List UInt8) =>
  let x25 : Bool := (e24 == ([99, 97, 110, 99, 101, 108] : List UInt8))
  bif x25 then
    chk (decide (0 ≤ (0 : Int) ∧ (0 : Int) < (r23.1.length : Int))) <|
    (geti r23.1 0).bind fun (e26 : Int) =>
    some ((2, 0, 0, 0, 0, [], e26, [], 0, 0, 0, 0, [], ()), 0, ())
  else
  let x27 : Bool := (e24 == ([116, 105, 99, 107] : List UInt8))
  bif x27 then
    chk (decide (0 ≤ (0 : Int) ∧ (0 : Int) < (r23.1.length : Int))) <|
    (geti r23.1 0).bind fun (e28 : Int) =>
    some ((4, 0, 0, 0, 0, [], 0, [], e28, 0, 0, 0, [], ()), 0, ())
  else
  (geti r23.1 0).bind fun (e29 : Int) =>
  (geti r23.1 1).bind fun (e30 : Int) =>
  (geti r23.1 2).bind fun (e31 : Int) =>
  chk (decide (0 ≤ (3 : Int) ∧ (3 : Int) ≤ (r23.1.length : Int))) <|
  let s32 : List Int := r23.1.drop (3 : Int).toNat
  some ((5, 0, 0, 0, 0, [], 0, [], 0, e29, e30, e31, s32, ()), 0, ())
noncomputable def sig_haulierref42_Read : Sig := ⟨[.str], [.val (.pair (.int .i64) (.pair (.int .i64) (.pair (.int .i64) (.pair (.int .i64) (.pair (.int .i64) (.pair (.slice (.pair (.int .i64) (.pair (.int .i64) .unit))) (.pair (.int .i64) (.pair (.slice (.pair (.int .i64) (.pair (.int .i64) (.pair (.int .i64) .unit)))) (.pair (.int .i64) (.pair (.int .i64) (.pair (.int .i64) (.pair (.int .i64) (.pair (.slice (.int .i64)) .unit))))))))))))), .val (.int .i64)], haulierref42_Read⟩
noncomputable def env_haulierref42_Read : Env := fun g => bif Nat.beq g 33 then [sig_haulierref31_Words] else bif Nat.beq g 34 then [sig_haulierref31_Read] else bif Nat.beq g 35 then [sig_haulierref42_record] else bif Nat.beq g 36 then [sig_haulierref31_Numbers] else []
def ann_haulierref42_Read : Ann := fun p => bif Nat.beq p 4094 then some ⟨[], [], [], [39], [], 0⟩ else none
theorem envok_haulierref42_Read : EnvOK Tryz.prog (Laid Tryz.prog) env_haulierref42_Read := fun g s hs => by
  simp only [env_haulierref42_Read] at hs
  cases hg : Nat.beq g 33 with
  | true =>
    rw [hg, cond_true] at hs
    obtain rfl := Nat.eq_of_beq_eq_true hg
    simp only [List.mem_cons, List.not_mem_nil, or_false] at hs
    rcases hs with rfl
    · exact ok_haulierref31_Words
  | false =>
  rw [hg, cond_false] at hs
  cases hg : Nat.beq g 34 with
  | true =>
    rw [hg, cond_true] at hs
    obtain rfl := Nat.eq_of_beq_eq_true hg
    simp only [List.mem_cons, List.not_mem_nil, or_false] at hs
    rcases hs with rfl
    · exact ok_haulierref31_Read
  | false =>
  rw [hg, cond_false] at hs
  cases hg : Nat.beq g 35 with
  | true =>
    rw [hg, cond_true] at hs
    obtain rfl := Nat.eq_of_beq_eq_true hg
    simp only [List.mem_cons, List.not_mem_nil, or_false] at hs
    rcases hs with rfl
    · exact ok_haulierref42_record
  | false =>
  rw [hg, cond_false] at hs
  cases hg : Nat.beq g 36 with
  | true =>
    rw [hg, cond_true] at hs
    obtain rfl := Nat.eq_of_beq_eq_true hg
    simp only [List.mem_cons, List.not_mem_nil, or_false] at hs
    rcases hs with rfl
    · exact ok_haulierref31_Numbers
  | false =>
  rw [hg, cond_false] at hs
  cases hs
theorem den_haulierref42_Read (d : ShD sig_haulierref42_Read.ins) : sig_haulierref42_Read.f d = funDen tt env_haulierref42_Read ann_haulierref42_Read Tryz.f11 sig_haulierref42_Read.ins sig_haulierref42_Read.outs d := by kernel_rfl
theorem ok_haulierref42_Read : SigOK Tryz.prog (Laid Tryz.prog) 11 sig_haulierref42_Read := sig_of hT hS envok_haulierref42_Read mixed ann_haulierref42_Read Tryz.func11 (by kernel_rfl) den_haulierref42_Read

noncomputable def haulierlaw42_Told (d : (Int × Int × Int × Int × Int × (List (Int × Int × Unit)) × Int × (List (Int × Int × Int × Unit)) × Int × Int × Int × Int × (List Int) × Unit) × Unit) : Option ((Int × Int × Int × Int × Int × (List (Int × Int × Unit)) × Int × (List (Int × Int × Int × Unit)) × Int × Int × Int × Int × (List Int) × Unit) × Unit) :=
  some ((d.1.1, d.1.2.1, d.1.2.2.1, d.1.2.2.2.1, d.1.2.2.2.2.1, d.1.2.2.2.2.2.1, d.1.2.2.2.2.2.2.1, d.1.2.2.2.2.2.2.2.1, d.1.2.2.2.2.2.2.2.2.1, d.1.2.2.2.2.2.2.2.2.2.1, d.1.2.2.2.2.2.2.2.2.2.2.1, d.1.2.2.2.2.2.2.2.2.2.2.2.1, d.1.2.2.2.2.2.2.2.2.2.2.2.2.1, ()), ())
noncomputable def sig_haulierlaw42_Told : Sig := ⟨[(.pair (.int .i64) (.pair (.int .i64) (.pair (.int .i64) (.pair (.int .i64) (.pair (.int .i64) (.pair (.slice (.pair (.int .i64) (.pair (.int .i64) .unit))) (.pair (.int .i64) (.pair (.slice (.pair (.int .i64) (.pair (.int .i64) (.pair (.int .i64) .unit)))) (.pair (.int .i64) (.pair (.int .i64) (.pair (.int .i64) (.pair (.int .i64) (.pair (.slice (.int .i64)) .unit)))))))))))))], [.val (.pair (.int .i64) (.pair (.int .i64) (.pair (.int .i64) (.pair (.int .i64) (.pair (.int .i64) (.pair (.slice (.pair (.int .i64) (.pair (.int .i64) .unit))) (.pair (.int .i64) (.pair (.slice (.pair (.int .i64) (.pair (.int .i64) (.pair (.int .i64) .unit)))) (.pair (.int .i64) (.pair (.int .i64) (.pair (.int .i64) (.pair (.int .i64) (.pair (.slice (.int .i64)) .unit)))))))))))))], haulierlaw42_Told⟩
noncomputable def env_haulierlaw42_Told : Env := fun g => []
def ann_haulierlaw42_Told : Ann := fun p => none
theorem envok_haulierlaw42_Told : EnvOK Tryz.prog (Laid Tryz.prog) env_haulierlaw42_Told := fun g s hs => by cases hs
theorem den_haulierlaw42_Told (d : ShD sig_haulierlaw42_Told.ins) : sig_haulierlaw42_Told.f d = funDen tt env_haulierlaw42_Told ann_haulierlaw42_Told Tryz.f13 sig_haulierlaw42_Told.ins sig_haulierlaw42_Told.outs d := by kernel_rfl
theorem ok_haulierlaw42_Told : SigOK Tryz.prog (Laid Tryz.prog) 13 sig_haulierlaw42_Told := sig_of hT hS envok_haulierlaw42_Told mixed ann_haulierlaw42_Told Tryz.func13 (by kernel_rfl) den_haulierlaw42_Told

noncomputable def haulierref08_Same_L29 (d : (List (Int × Int × Int × Unit)) × (List (Int × Int × Int × Unit)) × Unit) (d2 : ((Int × Unit) × (Unit))) : Option (((Int × Unit) × (Unit)) ⊕ (Bool × Unit)) :=
  bif decide (d2.1.1 < (d.1.length : Int)) then
    (geti d.1 d2.1.1).bind fun (e3 : Int × Int × Int × Unit) =>
    (geti d.2.1 d2.1.1).bind fun (e4 : Int × Int × Int × Unit) =>
    let x5 : Bool := !(e3.1 == e4.1 && (e3.2.1 == e4.2.1 && (e3.2.2.1 == e4.2.2.1 && true)))
    bif x5 then
      some (.inr (false, ()))
    else
    some (.inl ((w64 (d2.1.1 + 1), ()), ()))
  else
  some (.inr (true, ()))
noncomputable def haulierref08_Same (d : (List (Int × Int × Int × Unit)) × (List (Int × Int × Int × Unit)) × Unit) : Option (Bool × Unit) :=
  let x1 : Bool := ((d.1.length : Int) != (d.2.1.length : Int))
  bif x1 then
    some (false, ())
  else
  iterW (ρ := Bool × Unit) (haulierref08_Same_L29 d) ((0, ()), ())
noncomputable def sig_haulierref08_Same : Sig := ⟨[(.slice (.pair (.int .i64) (.pair (.int .i64) (.pair (.int .i64) .unit)))), (.slice (.pair (.int .i64) (.pair (.int .i64) (.pair (.int .i64) .unit))))], [.val .bool], haulierref08_Same⟩
noncomputable def env_haulierref08_Same : Env := fun g => []
def ann_haulierref08_Same : Ann := fun p => bif Nat.beq p 29 then some ⟨[(5, (.int .i64))], [], [], [], [4, 11, 12, 13, 14, 15, 16, 17, 18, 19, 20, 21, 22, 23, 24, 25], 7⟩ else none
theorem envok_haulierref08_Same : EnvOK Tryz.prog (Laid Tryz.prog) env_haulierref08_Same := fun g s hs => by cases hs
theorem den_haulierref08_Same (d : ShD sig_haulierref08_Same.ins) : sig_haulierref08_Same.f d = funDen tt env_haulierref08_Same ann_haulierref08_Same Tryz.f37 sig_haulierref08_Same.ins sig_haulierref08_Same.outs d := by kernel_rfl
theorem ok_haulierref08_Same : SigOK Tryz.prog (Laid Tryz.prog) 37 sig_haulierref08_Same := sig_of hT hS envok_haulierref08_Same mixed ann_haulierref08_Same Tryz.func37 (by kernel_rfl) den_haulierref08_Same

noncomputable def haulierref42_same_L29 (d : (List Int) × (List Int) × Unit) (d2 : ((Int × Unit) × (Unit))) : Option (((Int × Unit) × (Unit)) ⊕ (Bool × Unit)) :=
  bif decide (d2.1.1 < (d.1.length : Int)) then
    (geti d.1 d2.1.1).bind fun (e3 : Int) =>
    (geti d.2.1 d2.1.1).bind fun (e4 : Int) =>
    bif (e3 != e4) then
      some (.inr (false, ()))
    else
    some (.inl ((w64 (d2.1.1 + 1), ()), ()))
  else
  some (.inr (true, ()))
noncomputable def haulierref42_same (d : (List Int) × (List Int) × Unit) : Option (Bool × Unit) :=
  let x1 : Bool := ((d.1.length : Int) != (d.2.1.length : Int))
  bif x1 then
    some (false, ())
  else
  iterW (ρ := Bool × Unit) (haulierref42_same_L29 d) ((0, ()), ())
noncomputable def sig_haulierref42_same : Sig := ⟨[(.slice (.int .i64)), (.slice (.int .i64))], [.val .bool], haulierref42_same⟩
noncomputable def env_haulierref42_same : Env := fun g => []
def ann_haulierref42_same : Ann := fun p => bif Nat.beq p 29 then some ⟨[(5, (.int .i64))], [], [], [], [4, 11, 12, 13, 14, 15, 16, 17, 18, 19, 20, 21, 22, 23, 24, 25], 7⟩ else none
theorem envok_haulierref42_same : EnvOK Tryz.prog (Laid Tryz.prog) env_haulierref42_same := fun g s hs => by cases hs
theorem den_haulierref42_same (d : ShD sig_haulierref42_same.ins) : sig_haulierref42_same.f d = funDen tt env_haulierref42_same ann_haulierref42_same Tryz.f38 sig_haulierref42_same.ins sig_haulierref42_same.outs d := by kernel_rfl
theorem ok_haulierref42_same : SigOK Tryz.prog (Laid Tryz.prog) 38 sig_haulierref42_same := sig_of hT hS envok_haulierref42_same mixed ann_haulierref42_same Tryz.func38 (by kernel_rfl) den_haulierref42_same

noncomputable def haulierref42_Same (d : (Int × Int × Int × Int × Int × (List (Int × Int × Unit)) × Int × (List (Int × Int × Int × Unit)) × Int × Int × Int × Int × (List Int) × Unit) × (Int × Int × Int × Int × Int × (List (Int × Int × Unit)) × Int × (List (Int × Int × Int × Unit)) × Int × Int × Int × Int × (List Int) × Unit) × Unit) : Option (Bool × Unit) :=
  Option.bind (bif !(d.1.1 != d.2.1.1) then
    (haulierref31_Order ((d.1.2.1, d.1.2.2.1, d.1.2.2.2.1, d.1.2.2.2.2.1, d.1.2.2.2.2.2.1, ()), ())).bind fun (r1 : (List UInt8) × Unit) =>
    (haulierref31_Order ((d.2.1.2.1, d.2.1.2.2.1, d.2.1.2.2.2.1, d.2.1.2.2.2.2.1, d.2.1.2.2.2.2.2.1, ()), ())).bind fun (r2 : (List UInt8) × Unit) =>
    some (!(r1.1 == r2.1))
  else some true) fun (b3 : Bool) =>
  Option.bind (bif !b3 then
    let x4 : Bool := (d.1.2.2.2.2.2.2.1 != d.2.1.2.2.2.2.2.2.1)
    some x4
  else some true) fun (b5 : Bool) =>
  Option.bind (bif !b5 then
    let x6 : Bool := (d.1.2.2.2.2.2.2.2.2.1 != d.2.1.2.2.2.2.2.2.2.2.1)
    some x6
  else some true) fun (b7 : Bool) =>
  Option.bind (bif !b7 then
    (haulierref08_Same (d.1.2.2.2.2.2.2.2.1, d.2.1.2.2.2.2.2.2.2.1, ())).bind fun (r8 : Bool × Unit) =>
    some (!r8.1)
  else some true) fun (b9 : Bool) =>
  bif b9 then
    some (false, ())
  else
  let x10 : Bool := (d.1.2.2.2.2.2.2.2.2.2.1 == d.2.1.2.2.2.2.2.2.2.2.2.1)
  Option.bind (bif x10 then
    let x11 : Bool := (d.1.2.2.2.2.2.2.2.2.2.2.1 == d.2.1.2.2.2.2.2.2.2.2.2.2.1)
    some x11
  else some false) fun (b12 : Bool) =>
  Option.bind (bif b12 then
    let x13 : Bool := (d.1.2.2.2.2.2.2.2.2.2.2.2.1 == d.2.1.2.2.2.2.2.2.2.2.2.2.2.1)
    some x13
  else some false) fun (b14 : Bool) =>
  Option.bind (bif b14 then
    (haulierref42_same (d.1.2.2.2.2.2.2.2.2.2.2.2.2.1, d.2.1.2.2.2.2.2.2.2.2.2.2.2.2.1, ())).bind fun (r15 : Bool × Unit) =>
    some r15.1
  else some false) fun (b16 : Bool) =>
  some (b16, ())
noncomputable def sig_haulierref42_Same : Sig := ⟨[(.pair (.int .i64) (.pair (.int .i64) (.pair (.int .i64) (.pair (.int .i64) (.pair (.int .i64) (.pair (.slice (.pair (.int .i64) (.pair (.int .i64) .unit))) (.pair (.int .i64) (.pair (.slice (.pair (.int .i64) (.pair (.int .i64) (.pair (.int .i64) .unit)))) (.pair (.int .i64) (.pair (.int .i64) (.pair (.int .i64) (.pair (.int .i64) (.pair (.slice (.int .i64)) .unit))))))))))))), (.pair (.int .i64) (.pair (.int .i64) (.pair (.int .i64) (.pair (.int .i64) (.pair (.int .i64) (.pair (.slice (.pair (.int .i64) (.pair (.int .i64) .unit))) (.pair (.int .i64) (.pair (.slice (.pair (.int .i64) (.pair (.int .i64) (.pair (.int .i64) .unit)))) (.pair (.int .i64) (.pair (.int .i64) (.pair (.int .i64) (.pair (.int .i64) (.pair (.slice (.int .i64)) .unit)))))))))))))], [.val .bool], haulierref42_Same⟩
noncomputable def env_haulierref42_Same : Env := fun g => bif Nat.beq g 21 then [sig_haulierref31_Order] else bif Nat.beq g 37 then [sig_haulierref08_Same] else bif Nat.beq g 38 then [sig_haulierref42_same] else []
def ann_haulierref42_Same : Ann := fun p => none
theorem envok_haulierref42_Same : EnvOK Tryz.prog (Laid Tryz.prog) env_haulierref42_Same := fun g s hs => by
  simp only [env_haulierref42_Same] at hs
  cases hg : Nat.beq g 21 with
  | true =>
    rw [hg, cond_true] at hs
    obtain rfl := Nat.eq_of_beq_eq_true hg
    simp only [List.mem_cons, List.not_mem_nil, or_false] at hs
    rcases hs with rfl
    · exact ok_haulierref31_Order
  | false =>
  rw [hg, cond_false] at hs
  cases hg : Nat.beq g 37 with
  | true =>
    rw [hg, cond_true] at hs
    obtain rfl := Nat.eq_of_beq_eq_true hg
    simp only [List.mem_cons, List.not_mem_nil, or_false] at hs
    rcases hs with rfl
    · exact ok_haulierref08_Same
  | false =>
  rw [hg, cond_false] at hs
  cases hg : Nat.beq g 38 with
  | true =>
    rw [hg, cond_true] at hs
    obtain rfl := Nat.eq_of_beq_eq_true hg
    simp only [List.mem_cons, List.not_mem_nil, or_false] at hs
    rcases hs with rfl
    · exact ok_haulierref42_same
  | false =>
  rw [hg, cond_false] at hs
  cases hs
theorem den_haulierref42_Same (d : ShD sig_haulierref42_Same.ins) : sig_haulierref42_Same.f d = funDen tt env_haulierref42_Same ann_haulierref42_Same Tryz.f12 sig_haulierref42_Same.ins sig_haulierref42_Same.outs d := by kernel_rfl
theorem ok_haulierref42_Same : SigOK Tryz.prog (Laid Tryz.prog) 12 sig_haulierref42_Same := sig_of hT hS envok_haulierref42_Same mixed ann_haulierref42_Same Tryz.func12 (by kernel_rfl) den_haulierref42_Same

noncomputable def haulierlaw42_ScriptLines (d : (Int × Int × Int × Int × Int × (List (Int × Int × Unit)) × Int × (List (Int × Int × Int × Unit)) × Int × Int × Int × Int × (List Int) × Unit) × (List UInt8) × Unit) : Option (Bool × Unit) :=
  (haulierlaw42_Few ((d.1.1, d.1.2.1, d.1.2.2.1, d.1.2.2.2.1, d.1.2.2.2.2.1, d.1.2.2.2.2.2.1, d.1.2.2.2.2.2.2.1, d.1.2.2.2.2.2.2.2.1, d.1.2.2.2.2.2.2.2.2.1, d.1.2.2.2.2.2.2.2.2.2.1, d.1.2.2.2.2.2.2.2.2.2.2.1, d.1.2.2.2.2.2.2.2.2.2.2.2.1, d.1.2.2.2.2.2.2.2.2.2.2.2.2.1, ()), ())).bind fun (r1 : Bool × Unit) =>
  Option.bind (bif !(!r1.1) then
    some (decide ((d.2.1.length : Int) > 600))
  else some true) fun (b2 : Bool) =>
  bif b2 then
    (haulierlaw42_alive ()).bind fun (r3 : Bool × Unit) =>
    some (r3.1, ())
  else
  (haulierlaw42_Own ((d.1.1, d.1.2.1, d.1.2.2.1, d.1.2.2.2.1, d.1.2.2.2.2.1, d.1.2.2.2.2.2.1, d.1.2.2.2.2.2.2.1, d.1.2.2.2.2.2.2.2.1, d.1.2.2.2.2.2.2.2.2.1, d.1.2.2.2.2.2.2.2.2.2.1, d.1.2.2.2.2.2.2.2.2.2.2.1, d.1.2.2.2.2.2.2.2.2.2.2.2.1, d.1.2.2.2.2.2.2.2.2.2.2.2.2.1, ()), ())).bind fun (r4 : (Int × Int × Int × Int × Int × (List (Int × Int × Unit)) × Int × (List (Int × Int × Int × Unit)) × Int × Int × Int × Int × (List Int) × Unit) × Unit) =>
  (script_Line (r4.1, ())).bind fun (r5 : (List UInt8) × Int × Unit) =>
  (haulierref42_Line ((d.1.1, d.1.2.1, d.1.2.2.1, d.1.2.2.2.1, d.1.2.2.2.2.1, d.1.2.2.2.2.2.1, d.1.2.2.2.2.2.2.1, d.1.2.2.2.2.2.2.2.1, d.1.2.2.2.2.2.2.2.2.1, d.1.2.2.2.2.2.2.2.2.2.1, d.1.2.2.2.2.2.2.2.2.2.2.1, d.1.2.2.2.2.2.2.2.2.2.2.2.1, d.1.2.2.2.2.2.2.2.2.2.2.2.2.1, ()), ())).bind fun (r6 : (List UInt8) × Int × Unit) =>
  (script_Read (d.2.1, ())).bind fun (r7 : (Int × Int × Int × Int × Int × (List (Int × Int × Unit)) × Int × (List (Int × Int × Int × Unit)) × Int × Int × Int × Int × (List Int) × Unit) × Int × Unit) =>
  (haulierref42_Read (d.2.1, ())).bind fun (r8 : (Int × Int × Int × Int × Int × (List (Int × Int × Unit)) × Int × (List (Int × Int × Int × Unit)) × Int × Int × Int × Int × (List Int) × Unit) × Int × Unit) =>
  Option.bind (bif (r5.1 == r6.1) then
    some (r5.2.1 == r6.2.1)
  else some false) fun (b9 : Bool) =>
  Option.bind (bif b9 then
    (haulierlaw42_Told ((r7.1.1, r7.1.2.1, r7.1.2.2.1, r7.1.2.2.2.1, r7.1.2.2.2.2.1, r7.1.2.2.2.2.2.1, r7.1.2.2.2.2.2.2.1, r7.1.2.2.2.2.2.2.2.1, r7.1.2.2.2.2.2.2.2.2.1, r7.1.2.2.2.2.2.2.2.2.2.1, r7.1.2.2.2.2.2.2.2.2.2.2.1, r7.1.2.2.2.2.2.2.2.2.2.2.2.1, r7.1.2.2.2.2.2.2.2.2.2.2.2.2.1, ()), ())).bind fun (r10 : (Int × Int × Int × Int × Int × (List (Int × Int × Unit)) × Int × (List (Int × Int × Int × Unit)) × Int × Int × Int × Int × (List Int) × Unit) × Unit) =>
    (haulierref42_Same (r10.1, (r8.1.1, r8.1.2.1, r8.1.2.2.1, r8.1.2.2.2.1, r8.1.2.2.2.2.1, r8.1.2.2.2.2.2.1, r8.1.2.2.2.2.2.2.1, r8.1.2.2.2.2.2.2.2.1, r8.1.2.2.2.2.2.2.2.2.1, r8.1.2.2.2.2.2.2.2.2.2.1, r8.1.2.2.2.2.2.2.2.2.2.2.1, r8.1.2.2.2.2.2.2.2.2.2.2.2.1, r8.1.2.2.2.2.2.2.2.2.2.2.2.2.1, ()), ())).bind fun (r11 : Bool × Unit) =>
    some r11.1
  else some false) fun (b12 : Bool) =>
  Option.bind (bif b12 then
    some (r7.2.1 == r8.2.1)
  else some false) fun (b13 : Bool) =>
  Option.bind (bif b13 then
    (haulierlaw42_alive ()).bind fun (r14 : Bool × Unit) =>
    some r14.1
  else some false) fun (b15 : Bool) =>
  some (b15, ())
noncomputable def sig_haulierlaw42_ScriptLines : Sig := ⟨[(.pair (.int .i64) (.pair (.int .i64) (.pair (.int .i64) (.pair (.int .i64) (.pair (.int .i64) (.pair (.slice (.pair (.int .i64) (.pair (.int .i64) .unit))) (.pair (.int .i64) (.pair (.slice (.pair (.int .i64) (.pair (.int .i64) (.pair (.int .i64) .unit)))) (.pair (.int .i64) (.pair (.int .i64) (.pair (.int .i64) (.pair (.int .i64) (.pair (.slice (.int .i64)) .unit))))))))))))), .str], [.val .bool], haulierlaw42_ScriptLines⟩
noncomputable def env_haulierlaw42_ScriptLines : Env := fun g => bif Nat.beq g 5 then [sig_haulierlaw42_Few] else bif Nat.beq g 6 then [sig_haulierlaw42_alive] else bif Nat.beq g 8 then [sig_haulierlaw42_Own] else bif Nat.beq g 7 then [sig_script_Line] else bif Nat.beq g 9 then [sig_haulierref42_Line] else bif Nat.beq g 10 then [sig_script_Read] else bif Nat.beq g 11 then [sig_haulierref42_Read] else bif Nat.beq g 13 then [sig_haulierlaw42_Told] else bif Nat.beq g 12 then [sig_haulierref42_Same] else []
def ann_haulierlaw42_ScriptLines : Ann := fun p => none
theorem envok_haulierlaw42_ScriptLines : EnvOK Tryz.prog (Laid Tryz.prog) env_haulierlaw42_ScriptLines := fun g s hs => by
  simp only [env_haulierlaw42_ScriptLines] at hs
  cases hg : Nat.beq g 5 with
  | true =>
    rw [hg, cond_true] at hs
    obtain rfl := Nat.eq_of_beq_eq_true hg
    simp only [List.mem_cons, List.not_mem_nil, or_false] at hs
    rcases hs with rfl
    · exact ok_haulierlaw42_Few
  | false =>
  rw [hg, cond_false] at hs
  cases hg : Nat.beq g 6 with
  | true =>
    rw [hg, cond_true] at hs
    obtain rfl := Nat.eq_of_beq_eq_true hg
    simp only [List.mem_cons, List.not_mem_nil, or_false] at hs
    rcases hs with rfl
    · exact ok_haulierlaw42_alive
  | false =>
  rw [hg, cond_false] at hs
  cases hg : Nat.beq g 8 with
  | true =>
    rw [hg, cond_true] at hs
    obtain rfl := Nat.eq_of_beq_eq_true hg
    simp only [List.mem_cons, List.not_mem_nil, or_false] at hs
    rcases hs with rfl
    · exact ok_haulierlaw42_Own
  | false =>
  rw [hg, cond_false] at hs
  cases hg : Nat.beq g 7 with
  | true =>
    rw [hg, cond_true] at hs
    obtain rfl := Nat.eq_of_beq_eq_true hg
    simp only [List.mem_cons, List.not_mem_nil, or_false] at hs
    rcases hs with rfl
    · exact ok_script_Line
  | false =>
  rw [hg, cond_false] at hs
  cases hg : Nat.beq g 9 with
  | true =>
    rw [hg, cond_true] at hs
    obtain rfl := Nat.eq_of_beq_eq_true hg
    simp only [List.mem_cons, List.not_mem_nil, or_false] at hs
    rcases hs with rfl
    · exact ok_haulierref42_Line
  | false =>
  rw [hg, cond_false] at hs
  cases hg : Nat.beq g 10 with
  | true =>
    rw [hg, cond_true] at hs
    obtain rfl := Nat.eq_of_beq_eq_true hg
    simp only [List.mem_cons, List.not_mem_nil, or_false] at hs
    rcases hs with rfl
    · exact ok_script_Read
  | false =>
  rw [hg, cond_false] at hs
  cases hg : Nat.beq g 11 with
  | true =>
    rw [hg, cond_true] at hs
    obtain rfl := Nat.eq_of_beq_eq_true hg
    simp only [List.mem_cons, List.not_mem_nil, or_false] at hs
    rcases hs with rfl
    · exact ok_haulierref42_Read
  | false =>
  rw [hg, cond_false] at hs
  cases hg : Nat.beq g 13 with
  | true =>
    rw [hg, cond_true] at hs
    obtain rfl := Nat.eq_of_beq_eq_true hg
    simp only [List.mem_cons, List.not_mem_nil, or_false] at hs
    rcases hs with rfl
    · exact ok_haulierlaw42_Told
  | false =>
  rw [hg, cond_false] at hs
  cases hg : Nat.beq g 12 with
  | true =>
    rw [hg, cond_true] at hs
    obtain rfl := Nat.eq_of_beq_eq_true hg
    simp only [List.mem_cons, List.not_mem_nil, or_false] at hs
    rcases hs with rfl
    · exact ok_haulierref42_Same
  | false =>
  rw [hg, cond_false] at hs
  cases hs
theorem den_haulierlaw42_ScriptLines (d : ShD sig_haulierlaw42_ScriptLines.ins) : sig_haulierlaw42_ScriptLines.f d = funDen tt env_haulierlaw42_ScriptLines ann_haulierlaw42_ScriptLines Tryz.f3 sig_haulierlaw42_ScriptLines.ins sig_haulierlaw42_ScriptLines.outs d := by kernel_rfl
theorem ok_haulierlaw42_ScriptLines : SigOK Tryz.prog (Laid Tryz.prog) 3 sig_haulierlaw42_ScriptLines := sig_of hT hS envok_haulierlaw42_ScriptLines mixed ann_haulierlaw42_ScriptLines Tryz.func3 (by kernel_rfl) den_haulierlaw42_ScriptLines

noncomputable def haulierref42_Needs (d : (Int × Int × Int × Int × Int × (List (Int × Int × Unit)) × Int × (List (Int × Int × Int × Unit)) × Int × Int × Int × Int × (List Int) × Unit) × Unit) : Option ((Int × Int × Int × Int × Int × (List (Int × Int × Unit)) × Int × (List (Int × Int × Int × Unit)) × Int × Int × Int × Int × (List Int) × Unit) × Unit) :=
  bif (d.1.1 == 1) then
    some ((1, d.1.2.1, d.1.2.2.1, d.1.2.2.2.1, d.1.2.2.2.2.1, d.1.2.2.2.2.2.1, 0, [], 0, 0, 0, 0, [], ()), ())
  else
  bif (d.1.1 == 2) then
    some ((2, 0, 0, 0, 0, [], d.1.2.2.2.2.2.2.1, [], 0, 0, 0, 0, [], ()), ())
  else
  bif (d.1.1 == 3) then
    some ((3, 0, 0, 0, 0, [], d.1.2.2.2.2.2.2.1, d.1.2.2.2.2.2.2.2.1, 0, 0, 0, 0, [], ()), ())
  else
  bif (d.1.1 == 4) then
    some ((4, 0, 0, 0, 0, [], 0, [], d.1.2.2.2.2.2.2.2.2.1, 0, 0, 0, [], ()), ())
  else
  bif (d.1.1 == 5) then
    some ((5, 0, 0, 0, 0, [], 0, [], 0, d.1.2.2.2.2.2.2.2.2.2.1, d.1.2.2.2.2.2.2.2.2.2.2.1, d.1.2.2.2.2.2.2.2.2.2.2.2.1, d.1.2.2.2.2.2.2.2.2.2.2.2.2.1, ()), ())
  else
  some ((d.1.1, 0, 0, 0, 0, [], 0, [], 0, 0, 0, 0, [], ()), ())
noncomputable def sig_haulierref42_Needs : Sig := ⟨[(.pair (.int .i64) (.pair (.int .i64) (.pair (.int .i64) (.pair (.int .i64) (.pair (.int .i64) (.pair (.slice (.pair (.int .i64) (.pair (.int .i64) .unit))) (.pair (.int .i64) (.pair (.slice (.pair (.int .i64) (.pair (.int .i64) (.pair (.int .i64) .unit)))) (.pair (.int .i64) (.pair (.int .i64) (.pair (.int .i64) (.pair (.int .i64) (.pair (.slice (.int .i64)) .unit)))))))))))))], [.val (.pair (.int .i64) (.pair (.int .i64) (.pair (.int .i64) (.pair (.int .i64) (.pair (.int .i64) (.pair (.slice (.pair (.int .i64) (.pair (.int .i64) .unit))) (.pair (.int .i64) (.pair (.slice (.pair (.int .i64) (.pair (.int .i64) (.pair (.int .i64) .unit)))) (.pair (.int .i64) (.pair (.int .i64) (.pair (.int .i64) (.pair (.int .i64) (.pair (.slice (.int .i64)) .unit)))))))))))))], haulierref42_Needs⟩
noncomputable def env_haulierref42_Needs : Env := fun g => []
def ann_haulierref42_Needs : Ann := fun p => none
theorem envok_haulierref42_Needs : EnvOK Tryz.prog (Laid Tryz.prog) env_haulierref42_Needs := fun g s hs => by cases hs
theorem den_haulierref42_Needs (d : ShD sig_haulierref42_Needs.ins) : sig_haulierref42_Needs.f d = funDen tt env_haulierref42_Needs ann_haulierref42_Needs Tryz.f14 sig_haulierref42_Needs.ins sig_haulierref42_Needs.outs d := by kernel_rfl
theorem ok_haulierref42_Needs : SigOK Tryz.prog (Laid Tryz.prog) 14 sig_haulierref42_Needs := sig_of hT hS envok_haulierref42_Needs mixed ann_haulierref42_Needs Tryz.func14 (by kernel_rfl) den_haulierref42_Needs

noncomputable def haulierlaw42_ScriptBack (d : (Int × Int × Int × Int × Int × (List (Int × Int × Unit)) × Int × (List (Int × Int × Int × Unit)) × Int × Int × Int × Int × (List Int) × Unit) × (List UInt8) × Unit) : Option (Bool × Unit) :=
  (haulierlaw42_Few ((d.1.1, d.1.2.1, d.1.2.2.1, d.1.2.2.2.1, d.1.2.2.2.2.1, d.1.2.2.2.2.2.1, d.1.2.2.2.2.2.2.1, d.1.2.2.2.2.2.2.2.1, d.1.2.2.2.2.2.2.2.2.1, d.1.2.2.2.2.2.2.2.2.2.1, d.1.2.2.2.2.2.2.2.2.2.2.1, d.1.2.2.2.2.2.2.2.2.2.2.2.1, d.1.2.2.2.2.2.2.2.2.2.2.2.2.1, ()), ())).bind fun (r1 : Bool × Unit) =>
  Option.bind (bif !(!r1.1) then
    some (decide ((d.2.1.length : Int) > 600))
  else some true) fun (b2 : Bool) =>
  bif b2 then
    (haulierlaw42_alive ()).bind fun (r3 : Bool × Unit) =>
    some (r3.1, ())
  else
  (haulierlaw42_Own ((d.1.1, d.1.2.1, d.1.2.2.1, d.1.2.2.2.1, d.1.2.2.2.2.1, d.1.2.2.2.2.2.1, d.1.2.2.2.2.2.2.1, d.1.2.2.2.2.2.2.2.1, d.1.2.2.2.2.2.2.2.2.1, d.1.2.2.2.2.2.2.2.2.2.1, d.1.2.2.2.2.2.2.2.2.2.2.1, d.1.2.2.2.2.2.2.2.2.2.2.2.1, d.1.2.2.2.2.2.2.2.2.2.2.2.2.1, ()), ())).bind fun (r4 : (Int × Int × Int × Int × Int × (List (Int × Int × Unit)) × Int × (List (Int × Int × Int × Unit)) × Int × Int × Int × Int × (List Int) × Unit) × Unit) =>
  (script_Line (r4.1, ())).bind fun (r5 : (List UInt8) × Int × Unit) =>
  joinS (
    bif (r5.2.1 == 0) then
      (script_Read (r5.1, ())).bind fun (r6 : (Int × Int × Int × Int × Int × (List (Int × Int × Unit)) × Int × (List (Int × Int × Int × Unit)) × Int × Int × Int × Int × (List Int) × Unit) × Int × Unit) =>
      Option.bind (bif !(r6.2.1 != 0) then
        (haulierlaw42_Told ((r6.1.1, r6.1.2.1, r6.1.2.2.1, r6.1.2.2.2.1, r6.1.2.2.2.2.1, r6.1.2.2.2.2.2.1, r6.1.2.2.2.2.2.2.1, r6.1.2.2.2.2.2.2.2.1, r6.1.2.2.2.2.2.2.2.2.1, r6.1.2.2.2.2.2.2.2.2.2.1, r6.1.2.2.2.2.2.2.2.2.2.2.1, r6.1.2.2.2.2.2.2.2.2.2.2.2.1, r6.1.2.2.2.2.2.2.2.2.2.2.2.2.1, ()), ())).bind fun (r7 : (Int × Int × Int × Int × Int × (List (Int × Int × Unit)) × Int × (List (Int × Int × Int × Unit)) × Int × Int × Int × Int × (List Int) × Unit) × Unit) =>
        (haulierref42_Needs ((d.1.1, d.1.2.1, d.1.2.2.1, d.1.2.2.2.1, d.1.2.2.2.2.1, d.1.2.2.2.2.2.1, d.1.2.2.2.2.2.2.1, d.1.2.2.2.2.2.2.2.1, d.1.2.2.2.2.2.2.2.2.1, d.1.2.2.2.2.2.2.2.2.2.1, d.1.2.2.2.2.2.2.2.2.2.2.1, d.1.2.2.2.2.2.2.2.2.2.2.2.1, d.1.2.2.2.2.2.2.2.2.2.2.2.2.1, ()), ())).bind fun (r8 : (Int × Int × Int × Int × Int × (List (Int × Int × Unit)) × Int × (List (Int × Int × Int × Unit)) × Int × Int × Int × Int × (List Int) × Unit) × Unit) =>
        (haulierref42_Same (r7.1, r8.1, ())).bind fun (r9 : Bool × Unit) =>
        some (!r9.1)
      else some true) fun (b10 : Bool) =>
      bif b10 then
        some (.inr (false, ()))
      else
      some (.inl ((), ()))
    else
    bif !(r5.1 == ([] : List UInt8)) then
      some (.inr (false, ()))
    else
    some (.inl ((), ()))) fun (d11 : ((Unit) × (Unit))) =>
  (script_Read (d.2.1, ())).bind fun (r12 : (Int × Int × Int × Int × Int × (List (Int × Int × Unit)) × Int × (List (Int × Int × Int × Unit)) × Int × Int × Int × Int × (List Int) × Unit) × Int × Unit) =>
  bif (r12.2.1 != 0) then
    (haulierlaw42_Told ((r12.1.1, r12.1.2.1, r12.1.2.2.1, r12.1.2.2.2.1, r12.1.2.2.2.2.1, r12.1.2.2.2.2.2.1, r12.1.2.2.2.2.2.2.1, r12.1.2.2.2.2.2.2.2.1, r12.1.2.2.2.2.2.2.2.2.1, r12.1.2.2.2.2.2.2.2.2.2.1, r12.1.2.2.2.2.2.2.2.2.2.2.1, r12.1.2.2.2.2.2.2.2.2.2.2.2.1, r12.1.2.2.2.2.2.2.2.2.2.2.2.2.1, ()), ())).bind fun (r13 : (Int × Int × Int × Int × Int × (List (Int × Int × Unit)) × Int × (List (Int × Int × Int × Unit)) × Int × Int × Int × Int × (List Int) × Unit) × Unit) =>
    (haulierref42_Same (r13.1, (0, 0, 0, 0, 0, [], 0, [], 0, 0, 0, 0, [], ()), ())).bind fun (r14 : Bool × Unit) =>
    Option.bind (bif r14.1 then
      (haulierlaw42_alive ()).bind fun (r15 : Bool × Unit) =>
      some r15.1
    else some false) fun (b16 : Bool) =>
    some (b16, ())
  else
  (script_Line ((r12.1.1, r12.1.2.1, r12.1.2.2.1, r12.1.2.2.2.1, r12.1.2.2.2.2.1, r12.1.2.2.2.2.2.1, r12.1.2.2.2.2.2.2.1, r12.1.2.2.2.2.2.2.2.1, r12.1.2.2.2.2.2.2.2.2.1, r12.1.2.2.2.2.2.2.2.2.2.1, r12.1.2.2.2.2.2.2.2.2.2.2.1, r12.1.2.2.2.2.2.2.2.2.2.2.2.1, r12.1.2.2.2.2.2.2.2.2.2.2.2.2.1, ()), ())).bind fun (r17 : (List UInt8) × Int × Unit) =>
  Option.bind (bif (r17.2.1 == 0) then
    some (r17.1 == d.2.1)
  else some false) fun (b18 : Bool) =>
  Option.bind (bif b18 then
    (haulierlaw42_alive ()).bind fun (r19 : Bool × Unit) =>
    some r19.1
  else some false) fun (b20 : Bool) =>
  some (b20, ())
noncomputable def sig_haulierlaw42_ScriptBack : Sig := ⟨[(.pair (.int .i64) (.pair (.int .i64) (.pair (.int .i64) (.pair (.int .i64) (.pair (.int .i64) (.pair (.slice (.pair (.int .i64) (.pair (.int .i64) .unit))) (.pair (.int .i64) (.pair (.slice (.pair (.int .i64) (.pair (.int .i64) (.pair (.int .i64) .unit)))) (.pair (.int .i64) (.pair (.int .i64) (.pair (.int .i64) (.pair (.int .i64) (.pair (.slice (.int .i64)) .unit))))))))))))), .str], [.val .bool], haulierlaw42_ScriptBack⟩
noncomputable def env_haulierlaw42_ScriptBack : Env := fun g => bif Nat.beq g 5 then [sig_haulierlaw42_Few] else bif Nat.beq g 6 then [sig_haulierlaw42_alive] else bif Nat.beq g 8 then [sig_haulierlaw42_Own] else bif Nat.beq g 7 then [sig_script_Line] else bif Nat.beq g 10 then [sig_script_Read] else bif Nat.beq g 13 then [sig_haulierlaw42_Told] else bif Nat.beq g 14 then [sig_haulierref42_Needs] else bif Nat.beq g 12 then [sig_haulierref42_Same] else []
def ann_haulierlaw42_ScriptBack : Ann := fun p => bif Nat.beq p 15 then some ⟨[], [], [], [], [4, 7, 8, 28, 29, 30, 31, 32, 33, 34, 35, 36, 37, 38, 39, 40, 41, 42, 43, 44, 45, 46], 16⟩ else none
theorem envok_haulierlaw42_ScriptBack : EnvOK Tryz.prog (Laid Tryz.prog) env_haulierlaw42_ScriptBack := fun g s hs => by
  simp only [env_haulierlaw42_ScriptBack] at hs
  cases hg : Nat.beq g 5 with
  | true =>
    rw [hg, cond_true] at hs
    obtain rfl := Nat.eq_of_beq_eq_true hg
    simp only [List.mem_cons, List.not_mem_nil, or_false] at hs
    rcases hs with rfl
    · exact ok_haulierlaw42_Few
  | false =>
  rw [hg, cond_false] at hs
  cases hg : Nat.beq g 6 with
  | true =>
    rw [hg, cond_true] at hs
    obtain rfl := Nat.eq_of_beq_eq_true hg
    simp only [List.mem_cons, List.not_mem_nil, or_false] at hs
    rcases hs with rfl
    · exact ok_haulierlaw42_alive
  | false =>
  rw [hg, cond_false] at hs
  cases hg : Nat.beq g 8 with
  | true =>
    rw [hg, cond_true] at hs
    obtain rfl := Nat.eq_of_beq_eq_true hg
    simp only [List.mem_cons, List.not_mem_nil, or_false] at hs
    rcases hs with rfl
    · exact ok_haulierlaw42_Own
  | false =>
  rw [hg, cond_false] at hs
  cases hg : Nat.beq g 7 with
  | true =>
    rw [hg, cond_true] at hs
    obtain rfl := Nat.eq_of_beq_eq_true hg
    simp only [List.mem_cons, List.not_mem_nil, or_false] at hs
    rcases hs with rfl
    · exact ok_script_Line
  | false =>
  rw [hg, cond_false] at hs
  cases hg : Nat.beq g 10 with
  | true =>
    rw [hg, cond_true] at hs
    obtain rfl := Nat.eq_of_beq_eq_true hg
    simp only [List.mem_cons, List.not_mem_nil, or_false] at hs
    rcases hs with rfl
    · exact ok_script_Read
  | false =>
  rw [hg, cond_false] at hs
  cases hg : Nat.beq g 13 with
  | true =>
    rw [hg, cond_true] at hs
    obtain rfl := Nat.eq_of_beq_eq_true hg
    simp only [List.mem_cons, List.not_mem_nil, or_false] at hs
    rcases hs with rfl
    · exact ok_haulierlaw42_Told
  | false =>
  rw [hg, cond_false] at hs
  cases hg : Nat.beq g 14 with
  | true =>
    rw [hg, cond_true] at hs
    obtain rfl := Nat.eq_of_beq_eq_true hg
    simp only [List.mem_cons, List.not_mem_nil, or_false] at hs
    rcases hs with rfl
    · exact ok_haulierref42_Needs
  | false =>
  rw [hg, cond_false] at hs
  cases hg : Nat.beq g 12 with
  | true =>
    rw [hg, cond_true] at hs
    obtain rfl := Nat.eq_of_beq_eq_true hg
    simp only [List.mem_cons, List.not_mem_nil, or_false] at hs
    rcases hs with rfl
    · exact ok_haulierref42_Same
  | false =>
  rw [hg, cond_false] at hs
  cases hs
theorem den_haulierlaw42_ScriptBack (d : ShD sig_haulierlaw42_ScriptBack.ins) : sig_haulierlaw42_ScriptBack.f d = funDen tt env_haulierlaw42_ScriptBack ann_haulierlaw42_ScriptBack Tryz.f4 sig_haulierlaw42_ScriptBack.ins sig_haulierlaw42_ScriptBack.outs d := by kernel_rfl
theorem ok_haulierlaw42_ScriptBack : SigOK Tryz.prog (Laid Tryz.prog) 4 sig_haulierlaw42_ScriptBack := sig_of hT hS envok_haulierlaw42_ScriptBack mixed ann_haulierlaw42_ScriptBack Tryz.func4 (by kernel_rfl) den_haulierlaw42_ScriptBack
end Go.Rai
