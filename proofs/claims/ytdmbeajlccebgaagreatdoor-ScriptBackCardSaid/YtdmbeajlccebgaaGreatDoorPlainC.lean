/- A part of the proof of ScriptLines: general lemmas, with no condition of their own. -/
import Derived.Test.YtdmbeajlccebgaaGreatDoorPlainB
/- Plain laws of writing: rows, orders. -/
set_option linter.unusedVariables false
set_option linter.unusedSimpArgs false
namespace Go.Rai
open Go
theorem snums_loop {nm : B} {l : List Int} (hl : l.length ≤ 1000) (hr : ∀ n ∈ l, I64 n) (rest : List Int) : ∀ (pre : List Int) (out : List B), l = pre ++ rest → (∀ w ∈ out, w.length ≤ 1000) → out.length ≤ pre.length + 1000 →
    iterW (script_numbers_L29 (nm, l, ())) (((), (pre.length : Int), ()), out, ()) = some (glue (out ++ rest.map Lib.itoa), ()) := by
  induction rest with
  | nil =>
    intro pre out h ho hl2
    have hd := dec_ltl pre ([] : List Int)
    rw [← h] at hd
    have hlen : l.length = pre.length := by rw [h]; simp
    have hj := word_Join_eq ho (by omega)
    rw [iterW_done (r := (glue out, ()))]
    · simp
    · simp only [script_numbers_L29, hd, hj]
      rfl
  | cons c r ih =>
    intro pre out h ho hl2
    have hd := dec_ltl pre (c :: r)
    have hg := geti_mid pre c r
    rw [← h] at hd hg
    have hlen : l.length = pre.length + (r.length + 1) := by rw [h]; simp
    have hc : I64 c := hr c (by rw [h]; simp)
    have hp := word_Print_eq hc
    have hil := itoa_len hc
    rw [iterW_next (s' := (((), ((pre ++ [c]).length : Int), ()), out ++ [Lib.itoa c], ())), ih (pre ++ [c]) _ (by rw [h]; simp) (fun w hw => by
        simp at hw
        rcases hw with hw | rfl
        · exact ho w hw
        · omega) (by simp; omega)]
    · simp
    · simp only [script_numbers_L29, hd, hg, Option.bind_some, hp]
      rw [w64_succ (by omega), chk_true (by simp; rw [LIM_val]; omega)]
      simp
theorem snums_eq {nm : B} {l : List Int} (hn : nm.length ≤ 1000) (hl : l.length ≤ 1000) (hr : ∀ n ∈ l, I64 n) : script_numbers (nm, l, ()) = some (glue (nm :: l.map Lib.itoa), ()) :=
  snums_loop hl hr l [] [nm] rfl (by simpa using hn) (by simp)
theorem pnums_loop {nm : B} {l : List Int} (hl : l.length ≤ 1000) (hr : ∀ n ∈ l, I64 n) (rest : List Int) : ∀ (pre : List Int) (out : List B), l = pre ++ rest → (∀ w ∈ out, w.length ≤ 1000) → out.length ≤ pre.length + 1000 →
    iterW (paper_numbers_L29 (nm, l, ())) (((), (pre.length : Int), ()), out, ()) = some (glue (out ++ rest.map Lib.itoa), ()) := by
  induction rest with
  | nil =>
    intro pre out h ho hl2
    have hd := dec_ltl pre ([] : List Int)
    rw [← h] at hd
    have hlen : l.length = pre.length := by rw [h]; simp
    have hj := word_Join_eq ho (by omega)
    rw [iterW_done (r := (glue out, ()))]
    · simp
    · simp only [paper_numbers_L29, hd, hj]
      rfl
  | cons c r ih =>
    intro pre out h ho hl2
    have hd := dec_ltl pre (c :: r)
    have hg := geti_mid pre c r
    rw [← h] at hd hg
    have hlen : l.length = pre.length + (r.length + 1) := by rw [h]; simp
    have hc : I64 c := hr c (by rw [h]; simp)
    have hp := word_Print_eq hc
    have hil := itoa_len hc
    rw [iterW_next (s' := (((), ((pre ++ [c]).length : Int), ()), out ++ [Lib.itoa c], ())), ih (pre ++ [c]) _ (by rw [h]; simp) (fun w hw => by
        simp at hw
        rcases hw with hw | rfl
        · exact ho w hw
        · omega) (by simp; omega)]
    · simp
    · simp only [paper_numbers_L29, hd, hg, Option.bind_some, hp]
      rw [w64_succ (by omega), chk_true (by simp; rw [LIM_val]; omega)]
      simp
theorem pnums_eq {nm : B} {l : List Int} (hn : nm.length ≤ 1000) (hl : l.length ≤ 1000) (hr : ∀ n ∈ l, I64 n) : paper_numbers (nm, l, ()) = some (glue (nm :: l.map Lib.itoa), ()) :=
  pnums_loop hl hr l [] [nm] rfl (by simpa using hn) (by simp)
theorem rrow_loop {nm : B} {l : List Int} (hl : l.length ≤ 1000) (hr : ∀ n ∈ l, I64 n) (rest : List Int) : ∀ (pre : List Int) (out : List B), l = pre ++ rest → (∀ w ∈ out, w.length ≤ 1000) → out.length ≤ pre.length + 1000 →
    iterW (haulierref42_row_L29 (nm, l, ())) (((), (pre.length : Int), ()), out, ()) = some (glue (out ++ rest.map Lib.itoa), ()) := by
  induction rest with
  | nil =>
    intro pre out h ho hl2
    have hd := dec_ltl pre ([] : List Int)
    rw [← h] at hd
    have hlen : l.length = pre.length := by rw [h]; simp
    have hj := ref_Join_eq ho (by omega)
    rw [iterW_done (r := (glue out, ()))]
    · simp
    · simp only [haulierref42_row_L29, hd, hj]
      rfl
  | cons c r ih =>
    intro pre out h ho hl2
    have hd := dec_ltl pre (c :: r)
    have hg := geti_mid pre c r
    rw [← h] at hd hg
    have hlen : l.length = pre.length + (r.length + 1) := by rw [h]; simp
    have hc : I64 c := hr c (by rw [h]; simp)
    have hp := ref_Print_eq hc
    have hil := itoa_len hc
    rw [iterW_next (s' := (((), ((pre ++ [c]).length : Int), ()), out ++ [Lib.itoa c], ())), ih (pre ++ [c]) _ (by rw [h]; simp) (fun w hw => by
        simp at hw
        rcases hw with hw | rfl
        · exact ho w hw
        · omega) (by simp; omega)]
    · simp
    · simp only [haulierref42_row_L29, hd, hg, Option.bind_some, hp]
      rw [w64_succ (by omega), chk_true (by simp; rw [LIM_val]; omega)]
      simp
theorem rrow_eq {nm : B} {l : List Int} (hn : nm.length ≤ 1000) (hl : l.length ≤ 1000) (hr : ∀ n ∈ l, I64 n) : haulierref42_row (nm, l, ()) = some (glue (nm :: l.map Lib.itoa), ()) :=
  rrow_loop hl hr l [] [nm] rfl (by simpa using hn) (by simp)
/-- a window's text -/
def toldS (p : Sp) : B := (Lib.itoa p.1 ++ [45]) ++ Lib.itoa p.2.1
theorem told_len {p : Sp} (h : I64 p.1 ∧ I64 p.2.1) : (toldS p).length ≤ 43 := by
  have h1 := itoa_len h.1
  have h2 := itoa_len h.2
  simp [toldS]
  omega
theorem wtold_eq {p : Sp} (h : I64 p.1 ∧ I64 p.2.1) : word_Told (p, ()) = some (toldS p, ()) := by
  have h1 := itoa_len h.1
  have h2 := itoa_len h.2
  unfold word_Told
  refine bnd (word_Print_eq h.1) ?_
  simp only []
  rw [chk_true (by simp; rw [LIM_val]; omega)]
  refine bnd (word_Print_eq h.2) ?_
  simp only []
  rw [chk_true (by simp; rw [LIM_val]; omega)]
  rfl
theorem rtold_eq {p : Sp} (h : I64 p.1 ∧ I64 p.2.1) : haulierref06_Told (p, ()) = some (toldS p, ()) := by
  have h1 := itoa_len h.1
  have h2 := itoa_len h.2
  unfold haulierref06_Told
  refine bnd (ref_Print_eq h.1) ?_
  simp only []
  rw [chk_true (by simp; rw [LIM_val]; omega)]
  refine bnd (ref_Print_eq h.2) ?_
  simp only []
  rw [chk_true (by simp; rw [LIM_val]; omega)]
  rfl
theorem porder_loop {o : Ord} (hl : o.2.2.2.2.1.length ≤ 1000) (hr : ∀ p ∈ o.2.2.2.2.1, I64 p.1 ∧ I64 p.2.1) (rest : List Sp) : ∀ (pre : List Sp) (out : List B), o.2.2.2.2.1 = pre ++ rest → (∀ w ∈ out, w.length ≤ 1000) → out.length ≤ pre.length + 1000 →
    iterW (paper_Order_L29 (o, ())) (((), (pre.length : Int), ()), out, ()) = some (glue (out ++ rest.map toldS), ()) := by
  induction rest with
  | nil =>
    intro pre out h ho hl2
    have hd := dec_ltl pre ([] : List Sp)
    rw [← h] at hd
    have hlen : o.2.2.2.2.1.length = pre.length := by rw [h]; simp
    have hj := word_Join_eq ho (by omega)
    rw [iterW_done (r := (glue out, ()))]
    · simp
    · simp only [paper_Order_L29, hd, hj]
      rfl
  | cons c r ih =>
    intro pre out h ho hl2
    have hd := dec_ltl pre (c :: r)
    have hg := geti_mid pre c r
    rw [← h] at hd hg
    have hlen : o.2.2.2.2.1.length = pre.length + (r.length + 1) := by rw [h]; simp
    have hc := hr c (by rw [h]; simp)
    have hp := wtold_eq hc
    have hil := told_len hc
    rw [iterW_next (s' := (((), ((pre ++ [c]).length : Int), ()), out ++ [toldS c], ())), ih (pre ++ [c]) _ (by rw [h]; simp) (fun w hw => by
        simp at hw
        rcases hw with hw | rfl
        · exact ho w hw
        · omega) (by simp; omega)]
    · simp
    · simp only [paper_Order_L29, hd, hg, Option.bind_some, hp]
      rw [w64_succ (by omega), chk_true (by simp; rw [LIM_val]; omega)]
      simp
theorem rordT_loop {o : Ord} (hl : o.2.2.2.2.1.length ≤ 1000) (hr : ∀ p ∈ o.2.2.2.2.1, I64 p.1 ∧ I64 p.2.1) (rest : List Sp) : ∀ (pre : List Sp) (out : List B), o.2.2.2.2.1 = pre ++ rest → (∀ w ∈ out, w.length ≤ 1000) → out.length ≤ pre.length + 1000 →
    iterW (haulierref31_Order_L29 (o, ())) (((), (pre.length : Int), ()), out, ()) = some (glue (out ++ rest.map toldS), ()) := by
  induction rest with
  | nil =>
    intro pre out h ho hl2
    have hd := dec_ltl pre ([] : List Sp)
    rw [← h] at hd
    have hlen : o.2.2.2.2.1.length = pre.length := by rw [h]; simp
    have hj := ref_Join_eq ho (by omega)
    rw [iterW_done (r := (glue out, ()))]
    · simp
    · simp only [haulierref31_Order_L29, hd, hj]
      rfl
  | cons c r ih =>
    intro pre out h ho hl2
    have hd := dec_ltl pre (c :: r)
    have hg := geti_mid pre c r
    rw [← h] at hd hg
    have hlen : o.2.2.2.2.1.length = pre.length + (r.length + 1) := by rw [h]; simp
    have hc := hr c (by rw [h]; simp)
    have hp := rtold_eq hc
    have hil := told_len hc
    rw [iterW_next (s' := (((), ((pre ++ [c]).length : Int), ()), out ++ [toldS c], ())), ih (pre ++ [c]) _ (by rw [h]; simp) (fun w hw => by
        simp at hw
        rcases hw with hw | rfl
        · exact ho w hw
        · omega) (by simp; omega)]
    · simp
    · simp only [haulierref31_Order_L29, hd, hg, Option.bind_some, hp]
      rw [w64_succ (by omega), chk_true (by simp; rw [LIM_val]; omega)]
      simp
/-- an order's numbers -/
def ordNums (o : Ord) : List Int := [o.1, o.2.1, o.2.2.1, o.2.2.2.1]
def ordT (o : Ord) : B := glue (([111, 114, 100, 101, 114] :: (ordNums o).map Lib.itoa) ++ o.2.2.2.2.1.map toldS)
abbrev OrdR (o : Ord) : Prop := (∀ n ∈ ordNums o, I64 n) ∧ o.2.2.2.2.1.length ≤ 900 ∧ ∀ p ∈ o.2.2.2.2.1, I64 p.1 ∧ I64 p.2.1
theorem paper_Order_eq {o : Ord} (h : OrdR o) : paper_Order (o, ()) = some (ordT o, ()) := by
  obtain ⟨h1, h2, h3⟩ := h
  have hp := pnums_eq (nm := [111, 114, 100, 101, 114]) (l := ordNums o) (by simp) (by simp [ordNums]) h1
  have hlen := glue_len (ws := [111, 114, 100, 101, 114] :: (ordNums o).map Lib.itoa) (fun w hw => by
    simp only [List.mem_cons, List.mem_map] at hw
    rcases hw with rfl | ⟨n, hn, rfl⟩
    · simp
    · have := itoa_len (h1 n hn); omega)
  unfold paper_Order
  refine bnd hp ?_
  have hsm : (glue ([111, 114, 100, 101, 114] :: (ordNums o).map Lib.itoa)).length ≤ 1000 := by
    have e := fun n hn => itoa_len (h1 n hn)
    have e1 := e o.1 (by simp [ordNums])
    have e2 := e o.2.1 (by simp [ordNums])
    have e3 := e o.2.2.1 (by simp [ordNums])
    have e4 := e o.2.2.2.1 (by simp [ordNums])
    simp [glue, tails, ordNums]
    omega
  have := porder_loop (o := o) (by omega) h3 o.2.2.2.2.1 [] [glue ([111, 114, 100, 101, 114] :: (ordNums o).map Lib.itoa)] rfl (by simpa using hsm) (by simp)
  refine Eq.trans this ?_
  unfold ordT
  rw [glue_app (by simp), glue_app (by simp)]
  simp [glue, tails]
theorem ref_Order_eq {o : Ord} (h : OrdR o) : haulierref31_Order (o, ()) = some (ordT o, ()) := by
  obtain ⟨h1, h2, h3⟩ := h
  have e := fun n hn => h1 n hn
  have e1 := e o.1 (by simp [ordNums])
  have e2 := e o.2.1 (by simp [ordNums])
  have e3 := e o.2.2.1 (by simp [ordNums])
  have e4 := e o.2.2.2.1 (by simp [ordNums])
  have := rordT_loop (o := o) (by omega) h3 o.2.2.2.2.1 [] ([111, 114, 100, 101, 114] :: (ordNums o).map Lib.itoa) rfl (fun w hw => by
    simp only [List.mem_cons, List.mem_map] at hw
    rcases hw with rfl | ⟨n, hn, rfl⟩
    · simp
    · have := itoa_len (h1 n hn); omega) (by simp [ordNums])
  unfold haulierref31_Order
  refine bnd (ref_Print_eq e1) ?_
  refine bnd (ref_Print_eq e2) ?_
  refine bnd (ref_Print_eq e3) ?_
  refine bnd (ref_Print_eq e4) ?_
  exact this

/-! what may be written -/
def okN (n : Int) : Bool := decide (0 ≤ n ∧ n ≤ 1000000000)
theorem okN_bad (n : Int) : (bif !(decide (n < 0)) then some (decide (n > 1000000000)) else some true) = some (!okN n) := by
  unfold okN
  by_cases h1 : n < 0
  · simp [h1] <;> omega
  · by_cases h2 : n > 1000000000
    · simp [h1, h2] <;> omega
    · simp [h1, h2]; omega
theorem plain_1_eq (n : Int) : script_plain_1 (n, ()) = some (!okN n, ()) := by
  unfold script_plain_1
  exact bnd (okN_bad n) rfl
def okSp (p : Sp) : Bool := decide (0 ≤ p.1 ∧ p.2.1 ≤ 40320 ∧ p.1 < p.2.1)
theorem order_1_eq (p : Sp) : script_order_1 (p, ()) = some (!okSp p, ()) := by
  unfold script_order_1 okSp
  dsimp only
  by_cases h1 : p.1 < 0
  · simp [h1] <;> omega
  · by_cases h2 : p.2.1 > 40320
    · simp [h1, h2] <;> omega
    · by_cases h3 : p.1 ≥ p.2.1
      · simp [h1, h2, h3] <;> omega
      · simp [h1, h2, h3] <;> omega
theorem ints_loop {l : List Int} (hl : l.length ≤ 1000) (rest : List Int) : ∀ (pre : List Int), l = pre ++ rest →
    ∃ n : Int, iterW (slices_IndexFunc_int_int_L13 (l, (), ())) (((pre.length : Int), ()), ()) = some (n, ()) ∧ decide (n ≥ 0) = !(rest.all okN) := by
  induction rest with
  | nil =>
    intro pre h
    have hd := dec_ltl pre ([] : List Int)
    rw [← h] at hd
    refine ⟨-1, ?_, rfl⟩
    rw [iterW_done (r := (-1, ()))]
    simp only [slices_IndexFunc_int_int_L13, hd]
    rfl
  | cons c r ih =>
    intro pre h
    have hd := dec_ltl pre (c :: r)
    have hg := geti_mid pre c r
    rw [← h] at hd hg
    have hlen : l.length = pre.length + (r.length + 1) := by rw [h]; simp
    have hp := plain_1_eq c
    cases hc : okN c with
    | true =>
      obtain ⟨n, h1, h2⟩ := ih (pre ++ [c]) (by rw [h]; simp)
      refine ⟨n, ?_, by rw [h2]; simp [hc]⟩
      rw [iterW_next (s' := ((((pre ++ [c]).length : Int), ()), ())), h1]
      simp only [slices_IndexFunc_int_int_L13, hd, hg, Option.bind_some, hp, hc]
      rw [w64_succ (by omega)]
      simp
    | false =>
      refine ⟨(pre.length : Int), ?_, by simp [hc]⟩
      rw [iterW_done (r := ((pre.length : Int), ()))]
      simp only [slices_IndexFunc_int_int_L13, hd, hg, Option.bind_some, hp, hc]
      simp
theorem sps_loop {l : List Sp} (hl : l.length ≤ 1000) (rest : List Sp) : ∀ (pre : List Sp), l = pre ++ rest →
    ∃ n : Int, iterW (slices_IndexFunc_api_Span_api_Span_L13 (l, (), ())) (((pre.length : Int), ()), ()) = some (n, ()) ∧ decide (n ≥ 0) = !(rest.all okSp) := by
  induction rest with
  | nil =>
    intro pre h
    have hd := dec_ltl pre ([] : List Sp)
    rw [← h] at hd
    refine ⟨-1, ?_, rfl⟩
    rw [iterW_done (r := (-1, ()))]
    simp only [slices_IndexFunc_api_Span_api_Span_L13, hd]
    rfl
  | cons c r ih =>
    intro pre h
    have hd := dec_ltl pre (c :: r)
    have hg := geti_mid pre c r
    rw [← h] at hd hg
    have hlen : l.length = pre.length + (r.length + 1) := by rw [h]; simp
    have hp := order_1_eq c
    cases hc : okSp c with
    | true =>
      obtain ⟨n, h1, h2⟩ := ih (pre ++ [c]) (by rw [h]; simp)
      refine ⟨n, ?_, by rw [h2]; simp [hc]⟩
      rw [iterW_next (s' := ((((pre ++ [c]).length : Int), ()), ())), h1]
      simp only [slices_IndexFunc_api_Span_api_Span_L13, hd, hg, Option.bind_some, hp, hc]
      rw [w64_succ (by omega)]
      simp
    | false =>
      refine ⟨(pre.length : Int), ?_, by simp [hc]⟩
      rw [iterW_done (r := ((pre.length : Int), ()))]
      simp only [slices_IndexFunc_api_Span_api_Span_L13, hd, hg, Option.bind_some, hp, hc]
      simp
theorem plain_eq {l : List Int} (hl : l.length ≤ 1000) : script_plain (l, ()) = some (l.all okN, ()) := by
  obtain ⟨n, h1, h2⟩ := ints_loop hl l [] rfl
  unfold script_plain slices_ContainsFunc_int_int slices_IndexFunc_int_int
  refine bnd (a := (!(l.all okN), ())) ?_ (by simp)
  refine bnd h1 ?_
  rw [← h2]
theorem sps_eq {l : List Sp} (hl : l.length ≤ 1000) : slices_ContainsFunc_api_Span_api_Span (l, (), ()) = some (!(l.all okSp), ()) := by
  obtain ⟨n, h1, h2⟩ := sps_loop hl l [] rfl
  unfold slices_ContainsFunc_api_Span_api_Span slices_IndexFunc_api_Span_api_Span
  refine bnd h1 ?_
  rw [← h2]
theorem rall_loop {l : List Int} (hl : l.length ≤ 1000) (rest : List Int) : ∀ (pre : List Int), l = pre ++ rest →
    iterW (haulierref42_all_L13 (l, ())) (((pre.length : Int), ()), ()) = some (rest.all okN, ()) := by
  induction rest with
  | nil =>
    intro pre h
    have hd := dec_ltl pre ([] : List Int)
    rw [← h] at hd
    rw [iterW_done (r := (true, ()))]
    · rfl
    · simp only [haulierref42_all_L13, hd]
      rfl
  | cons c r ih =>
    intro pre h
    have hd := dec_ltl pre (c :: r)
    have hg := geti_mid pre c r
    rw [← h] at hd hg
    have hlen : l.length = pre.length + (r.length + 1) := by rw [h]; simp
    have hb := okN_bad c
    cases hc : okN c with
    | true =>
      rw [hc] at hb
      rw [iterW_next (s' := ((((pre ++ [c]).length : Int), ()), ())), ih (pre ++ [c]) (by rw [h]; simp)]
      · simp [hc]
      · simp only [haulierref42_all_L13, hd, hg, Option.bind_some, hb]
        rw [w64_succ (by omega)]
        simp
    | false =>
      rw [hc] at hb
      rw [iterW_done (r := (false, ()))]
      · simp [hc]
      · simp only [haulierref42_all_L13, hd, hg, Option.bind_some, hb]
        simp
theorem ref_all_eq {l : List Int} (hl : l.length ≤ 1000) : haulierref42_all (l, ()) = some (l.all okN, ()) := rall_loop hl l [] rfl
end Go.Rai

/- Plain laws of writing: records, and any command. -/
set_option linter.unusedVariables false
set_option linter.unusedSimpArgs false
namespace Go.Rai
open Go
def okOrd (o : Ord) : Bool := ([o.1, o.2.1, o.2.2.2.1].all okN) && decide (-1000000000 ≤ o.2.2.1 ∧ o.2.2.1 ≤ 1000000000) && o.2.2.2.2.1.all okSp
theorem script_order_eq {o : Ord} (h : OrdR o) : script_order (o, ()) = some (if okOrd o = true then (ordT o, true, ()) else ([], false, ())) := by
  have h1 := plain_eq (l := [o.1, o.2.1, o.2.2.2.1]) (by simp)
  have h2 := sps_eq (l := o.2.2.2.2.1) (by have := h.2.1; omega)
  have h3 := paper_Order_eq h
  unfold script_order okOrd
  refine bnd h1 ?_
  simp only [h2, h3, Option.bind_some]
  cases ha : [o.1, o.2.1, o.2.2.2.1].all okN with
  | false => simp
  | true =>
    by_cases g1 : o.2.2.1 < -1000000000
    · have : ¬ (-1000000000 ≤ o.2.2.1 ∧ o.2.2.1 ≤ 1000000000) := by omega
      simp [g1, this]
    · by_cases g2 : o.2.2.1 > 1000000000
      · have : ¬ (-1000000000 ≤ o.2.2.1 ∧ o.2.2.1 ≤ 1000000000) := by omega
        simp [g1, g2, this]
      · have : (-1000000000 ≤ o.2.2.1 ∧ o.2.2.1 ≤ 1000000000) := by omega
        cases hs : o.2.2.2.2.1.all okSp with
        | false => simp [g1, g2, this]
        | true => simp [g1, g2, this]

theorem can_loop {o : Ord} (hl : o.2.2.2.2.1.length ≤ 1000) (rest : List Sp) : ∀ (pre : List Sp), o.2.2.2.2.1 = pre ++ rest →
    iterW (haulierref42_order_L13 (o, ())) (((pre.length : Int), ()), ()) = some (if rest.all okSp then .inl ((), ()) else .inr (false, ())) := by
  induction rest with
  | nil =>
    intro pre h
    have hd := dec_ltl pre ([] : List Sp)
    rw [← h] at hd
    rw [iterW_done (r := .inl ((), ()))]
    · rfl
    · simp only [haulierref42_order_L13, hd]
      rfl
  | cons c r ih =>
    intro pre h
    have hd := dec_ltl pre (c :: r)
    have hg := geti_mid pre c r
    rw [← h] at hd hg
    have hlen : o.2.2.2.2.1.length = pre.length + (r.length + 1) := by rw [h]; simp
    cases hc : okSp c with
    | true =>
      have hc' : 0 ≤ c.1 ∧ c.2.1 ≤ 40320 ∧ c.1 < c.2.1 := by simpa [okSp] using hc
      rw [iterW_next (s' := ((((pre ++ [c]).length : Int), ()), ())), ih (pre ++ [c]) (by rw [h]; simp)]
      · rw [List.all_cons, hc, Bool.true_and]
      · simp only [haulierref42_order_L13, hd, hg, Option.bind_some]
        rw [w64_succ (by omega)]
        have g1 : ¬ c.1 < 0 := by omega
        have g2 : ¬ c.2.1 > 40320 := by omega
        have g3 : ¬ c.1 ≥ c.2.1 := by omega
        simp [g1, g2, g3]
    | false =>
      have hc' : ¬ (0 ≤ c.1 ∧ c.2.1 ≤ 40320 ∧ c.1 < c.2.1) := by simpa [okSp] using hc
      rw [iterW_done (r := .inr (false, ()))]
      · simp [hc]
      · simp only [haulierref42_order_L13, hd, hg, Option.bind_some]
        by_cases g1 : c.1 < 0
        · simp [g1]
        · by_cases g2 : c.2.1 > 40320
          · simp [g1, g2]
          · have g3 : c.1 ≥ c.2.1 := by omega
            simp [g1, g2, g3]
theorem ref_order_can {o : Ord} (hl : o.2.2.2.2.1.length ≤ 1000) : haulierref42_order (o, ()) = some (okOrd o, ()) := by
  have h1 := can_loop hl o.2.2.2.2.1 [] rfl
  have h2 := ref_all_eq (l := [o.1, o.2.1, o.2.2.2.1]) (by simp)
  simp only [List.length_nil, Int.natCast_zero] at h1
  unfold haulierref42_order okOrd
  rw [h1]
  cases hs : o.2.2.2.2.1.all okSp with
  | false => simp [joinS]
  | true =>
    refine jn (a := ((), ())) rfl ?_
    refine bnd h2 ?_
    cases ha : [o.1, o.2.1, o.2.2.2.1].all okN with
    | false => simp
    | true =>
      by_cases g1 : o.2.2.1 ≥ -1000000000
      · by_cases g2 : o.2.2.1 ≤ 1000000000
        · simp [g1, g2]
        · simp [g1, g2]
      · have : ¬ -1000000000 ≤ o.2.2.1 := g1
        simp [g1, this]

/-! records -/
def okRec (x : Rec) : Bool := decide (0 ≤ x.1 ∧ x.1 ≤ 3 ∧ 0 ≤ x.2.1 ∧ x.2.1 ≤ 40320 ∧ 0 ≤ x.2.2.1 ∧ x.2.2.1 ≤ 40320 ∧ x.2.1 < x.2.2.1)
def recF (x : Rec) : Int := if ¬ (0 ≤ x.1 ∧ x.1 ≤ 3) then 2 else if ¬ ((0 ≤ x.2.1 ∧ x.2.1 ≤ 40320) ∧ 0 ≤ x.2.2.1 ∧ x.2.2.1 ≤ 40320) then 4 else if x.2.2.1 ≤ x.2.1 then 3 else 0
theorem recF_ok (x : Rec) : okRec x = decide (recF x = 0) := by
  unfold okRec recF
  by_cases h1 : 0 ≤ x.1 ∧ x.1 ≤ 3
  · by_cases h2 : (0 ≤ x.2.1 ∧ x.2.1 ≤ 40320) ∧ 0 ≤ x.2.2.1 ∧ x.2.2.1 ≤ 40320
    · by_cases h3 : x.2.2.1 ≤ x.2.1
      · simp [h1, h2, h3] <;> omega
      · simp [h1, h2, h3] <;> omega
    · simp [h1, h2] <;> omega
  · simp [h1] <;> omega
theorem kind_eq (k : Int) : record_kind (k, ()) = some (decide (0 ≤ k ∧ k ≤ 3), ()) := by
  unfold record_kind
  by_cases h1 : k ≥ 0
  · by_cases h2 : k < 4
    · simp [h1, h2] <;> omega
    · simp [h1, h2] <;> omega
  · simp [h1] <;> omega
theorem in_eq (k : Int) : record_in (k, ()) = some (decide (0 ≤ k ∧ k ≤ 40320), ()) := by
  unfold record_in
  by_cases h1 : k ≥ 0
  · by_cases h2 : k ≤ 40320
    · simp [h1, h2]
    · simp [h1, h2]
  · simp [h1] <;> omega
theorem fault_eq (x : Rec) : record_fault (x, ()) = some (recF x, ()) := by
  unfold record_fault recF
  dsimp only
  rw [kind_eq, in_eq, in_eq]
  simp only [Option.bind_some]
  by_cases h1 : 0 ≤ x.1 ∧ x.1 ≤ 3
  · by_cases h2 : 0 ≤ x.2.1 ∧ x.2.1 ≤ 40320
    · by_cases h4 : 0 ≤ x.2.2.1 ∧ x.2.2.1 ≤ 40320
      · by_cases h3 : x.2.2.1 ≤ x.2.1
        · simp [h1, h2, h3, h4]
        · simp [h1, h2, h3, h4]
      · simp [h1, h2, h4]
    · simp [h1, h2]
  · simp [h1]
theorem Check_eq (x : Rec) : record_Check ([x], ()) = some (0, recF x, ()) := by
  have hg : geti [x] 0 = some x := rfl
  unfold record_Check
  by_cases h : recF x = 0
  · rw [iterW_next (s' := ((1, ()), ()))]
    · rw [h]
      exact iterW_done rfl
    · simp only [record_Check_L13]
      rw [hg]
      simp only [Option.bind_some, fault_eq, h]
      rfl
  · apply iterW_done
    simp only [record_Check_L13]
    rw [hg]
    simp only [Option.bind_some, fault_eq, nz_bne h]
    rfl
theorem Check08_eq (x : Rec) : haulierref08_Check ([x], ()) = some (0, recF x, ()) := by
  have hg : geti [x] 0 = some x := rfl
  have hd : decide ((0 : Int) < (([x] : List Rec).length : Int)) = true := rfl
  unfold haulierref08_Check recF
  by_cases h1 : 0 ≤ x.1 ∧ x.1 ≤ 3
  · have a1 : ¬ x.1 < 0 := by omega
    have a2 : ¬ x.1 > 3 := by omega
    by_cases h2 : (0 ≤ x.2.1 ∧ x.2.1 ≤ 40320) ∧ 0 ≤ x.2.2.1 ∧ x.2.2.1 ≤ 40320
    · have b1 : ¬ x.2.1 < 0 := by omega
      have b2 : ¬ x.2.1 > 40320 := by omega
      have b3 : ¬ x.2.2.1 < 0 := by omega
      have b4 : ¬ x.2.2.1 > 40320 := by omega
      rw [if_neg (fun e => e h1), if_neg (fun e => e h2)]
      by_cases h3 : x.2.2.1 ≤ x.2.1
      · rw [if_pos h3]
        apply iterW_done
        simp only [haulierref08_Check_L13, hd, hg, Option.bind_some]
        simp [a1, a2, b1, b2, b3, b4, h3]
      · rw [if_neg h3]
        rw [iterW_next (s' := ((1, ()), ()))]
        · exact iterW_done rfl
        · simp only [haulierref08_Check_L13, hd, hg, Option.bind_some]
          simp [a1, a2, b1, b2, b3, b4, h3]
          rfl
    · rw [if_neg (fun e => e h1), if_pos h2]
      apply iterW_done
      simp only [haulierref08_Check_L13, hd, hg, Option.bind_some]
      by_cases b1 : x.2.1 < 0
      · simp [a1, a2, b1]
      · by_cases b2 : x.2.1 > 40320
        · simp [a1, a2, b1, b2]
        · by_cases b3 : x.2.2.1 < 0
          · simp [a1, a2, b1, b2, b3]
          · have b4 : x.2.2.1 > 40320 := by omega
            simp [a1, a2, b1, b2, b3, b4]
  · rw [if_pos h1]
    apply iterW_done
    simp only [haulierref08_Check_L13, hd, hg, Option.bind_some]
    by_cases a1 : x.1 < 0
    · simp [a1]
    · have a2 : x.1 > 3 := by omega
      simp [a1, a2]
theorem Right_eq (x : Rec) : haulierref08_Right ([x], ()) = some (okRec x, ()) := by
  unfold haulierref08_Right
  refine bnd (Check08_eq x) ?_
  rw [recF_ok]
  by_cases h : recF x = 0
  · simp [h]
  · simp [h, nz_beq h]

def letK (k : Int) : UInt8 := if k = 0 then 82 else if k = 1 then 65 else if k = 2 then 87 else 68
def recT (x : Rec) : B := glue [[letK x.1], toldS (x.2.1, x.2.2.1, ())]
theorem k_cases {k : Int} (h : 0 ≤ k ∧ k ≤ 3) : k = 0 ∨ k = 1 ∨ k = 2 ∨ k = 3 := by omega
theorem Letter_eq {k : Int} (h : 0 ≤ k ∧ k ≤ 3) : view_Letter (k, ()) = some (((letK k).toNat : Int), true, ()) := by
  rcases k_cases h with rfl | rfl | rfl | rfl <;> rfl
theorem Text09_eq {k : Int} (h : 0 ≤ k ∧ k ≤ 3) : haulierref09_Text ([k], ()) = some ([letK k], ()) := by
  unfold haulierref09_Text
  rcases k_cases h with rfl | rfl | rfl | rfl
  · rw [iterW_next (s' := (([82], 1, ()), ()))]
    · exact iterW_done rfl
    · rfl
  · rw [iterW_next (s' := (([65], 1, ()), ()))]
    · exact iterW_done rfl
    · rfl
  · rw [iterW_next (s' := (([87], 1, ()), ()))]
    · exact iterW_done rfl
    · rfl
  · rw [iterW_next (s' := (([68], 1, ()), ()))]
    · exact iterW_done rfl
    · rfl
theorem okRec_facts {x : Rec} (h : okRec x = true) : (0 ≤ x.1 ∧ x.1 ≤ 3) ∧ I64 x.2.1 ∧ I64 x.2.2.1 := by
  unfold okRec at h
  have := of_decide_eq_true h
  exact ⟨⟨this.1, this.2.1⟩, ⟨by omega, by omega⟩, by omega, by omega⟩
theorem recT_len {x : Rec} (h : okRec x = true) : (recT x).length ≤ 50 := by
  obtain ⟨h1, h2, h3⟩ := okRec_facts h
  have := told_len (p := (x.2.1, x.2.2.1, ())) ⟨h2, h3⟩
  simp [recT, glue, tails]
  omega
theorem tape_Line_eq (x : Rec) : tape_Line (x, ()) = some (if okRec x = true then (recT x, 0, ()) else ([], recF x, ())) := by
  unfold tape_Line
  refine bnd (Check_eq x) ?_
  have hF := recF_ok x
  cases ho : okRec x with
  | false =>
    rw [ho] at hF
    have : ¬ recF x = 0 := by simpa using hF.symm
    simp only [nz_bne this]
    rfl
  | true =>
    rw [ho] at hF
    have h0 : recF x = 0 := by simpa using hF.symm
    obtain ⟨h1, h2, h3⟩ := okRec_facts ho
    have hb : bytesOf ([((letK x.1).toNat : Int)] : List Int) = [letK x.1] := by simp [bytesOf]
    have hlen := told_len (p := (x.2.1, x.2.2.1, ())) ⟨h2, h3⟩
    simp only [h0]
    refine bnd (Letter_eq h1) ?_
    refine bnd (wtold_eq (p := (x.2.1, x.2.2.1, ())) ⟨h2, h3⟩) ?_
    simp only [hb]
    refine bnd (word_Join_eq (ws := [[letK x.1], toldS (x.2.1, x.2.2.1, ())]) (fun w hw => by
      simp at hw
      rcases hw with rfl | rfl
      · simp
      · omega) (by simp)) ?_
    simp [recT]
end Go.Rai

/- Plain laws of writing: any command. -/
set_option linter.unusedVariables false
set_option linter.unusedSimpArgs false
namespace Go.Rai
open Go
abbrev cOrd (c : Cmd) : Ord := (c.2.1, c.2.2.1, c.2.2.2.1, c.2.2.2.2.1, c.2.2.2.2.2.1, ())
abbrev cId (c : Cmd) : Int := c.2.2.2.2.2.2.1
abbrev cRecs (c : Cmd) : List Rec := c.2.2.2.2.2.2.2.1
abbrev cTick (c : Cmd) : Int := c.2.2.2.2.2.2.2.2.1
abbrev cPlan (c : Cmd) : List Int := [c.2.2.2.2.2.2.2.2.2.1, c.2.2.2.2.2.2.2.2.2.2.1, c.2.2.2.2.2.2.2.2.2.2.2.1]
abbrev cRun (c : Cmd) : List Int := c.2.2.2.2.2.2.2.2.2.2.2.2.1
abbrev CmdR (c : Cmd) : Prop := OrdR (cOrd c) ∧ I64 (cId c) ∧ (cRecs c).length ≤ 900 ∧ I64 (cTick c) ∧ (∀ n ∈ cPlan c, I64 n) ∧ (cRun c).length ≤ 900 ∧ (∀ n ∈ cRun c, I64 n)
def cmdOK (c : Cmd) : Bool :=
  if c.1 = 1 then okOrd (cOrd c) else if c.1 = 2 then okN (cId c) else if c.1 = 3 then okN (cId c) && (cRecs c).all okRec else if c.1 = 4 then okN (cTick c)
  else if c.1 = 5 then (cPlan c).all okN && (cRun c).all okN else true
def cmdW (c : Cmd) : List B :=
  if c.1 = 1 then (([111, 114, 100, 101, 114] :: (ordNums (cOrd c)).map Lib.itoa) ++ (cOrd c).2.2.2.2.1.map toldS) else if c.1 = 2 then [[99, 97, 110, 99, 101, 108], Lib.itoa (cId c)]
  else if c.1 = 3 then [[114, 101, 99, 111, 114, 100], Lib.itoa (cId c)] ++ (cRecs c).flatMap fun x => [[letK x.1], toldS (x.2.1, x.2.2.1, ())]
  else if c.1 = 4 then [[116, 105, 99, 107], Lib.itoa (cTick c)] else if c.1 = 5 then [114, 101, 112, 108, 97, 110] :: (cPlan c ++ cRun c).map Lib.itoa else [[115, 104, 111, 119]]
def lineS (c : Cmd) : B × Int × Unit := if c.1 < 1 ∨ c.1 > 6 then ([], 1, ()) else if cmdOK c = false then ([], 7, ()) else (glue (cmdW c), 0, ())

theorem tails_recs (l : List Rec) : tails (l.map recT) = tails (l.flatMap fun x => [[letK x.1], toldS (x.2.1, x.2.2.1, ())]) := by
  induction l with
  | nil => rfl
  | cons x r ih =>
    rw [List.map_cons, tails_cons, List.flatMap_cons, tails_app, ih]
    simp [recT, glue, tails]

theorem rec_out_loop {c : Cmd} (hl : (cRecs c).length ≤ 900) (rest : List Rec) : ∀ (pre : List Rec) (out : List B), cRecs c = pre ++ rest → out.length ≤ pre.length + 1000 →
    iterW (script_record_L29 (c, ())) (((), (pre.length : Int), ()), out, ()) = some (if rest.all okRec = true then .inl (((), ()), out ++ rest.map recT, ()) else .inr ([], false, ())) := by
  induction rest with
  | nil =>
    intro pre out h ho
    have hd := dec_ltl pre ([] : List Rec)
    rw [← h] at hd
    rw [iterW_done (r := .inl (((), ()), out, ()))]
    · simp
    · simp only [script_record_L29, hd]
      rfl
  | cons x r ih =>
    intro pre out h ho
    have hd := dec_ltl pre (x :: r)
    have hg := geti_mid pre x r
    rw [← h] at hd hg
    have hlen : (cRecs c).length = pre.length + (r.length + 1) := by rw [h]; simp
    have ht := tape_Line_eq x
    cases hx : okRec x with
    | true =>
      rw [if_pos hx] at ht
      rw [iterW_next (s' := (((), ((pre ++ [x]).length : Int), ()), out ++ [recT x], ())), ih (pre ++ [x]) _ (by rw [h]; simp) (by simp; omega)]
      · rw [List.all_cons, hx, Bool.true_and]
        simp
      · simp only [script_record_L29, hd, hg, Option.bind_some, ht]
        rw [w64_succ (by omega), chk_true (by simp; rw [LIM_val]; omega)]
        simp
    | false =>
      rw [if_neg (by simp [hx])] at ht
      have hF := recF_ok x
      rw [hx] at hF
      have hz : ¬ recF x = 0 := by simpa using hF.symm
      rw [iterW_done (r := .inr ([], false, ()))]
      · rw [List.all_cons, hx]
        rfl
      · simp only [script_record_L29, hd, hg, Option.bind_some, ht]
        simp [nz_bne hz]
theorem recs_facts {l : List Rec} (h : l.all okRec = true) : ∀ w ∈ l.map recT, w.length ≤ 1000 := by
  intro w hw
  simp only [List.mem_map] at hw
  obtain ⟨x, hx, rfl⟩ := hw
  have := recT_len (List.all_eq_true.1 h x hx)
  omega
theorem two_len {nm : B} {n : Int} (hn : nm.length ≤ 100) (h : I64 n) : (glue [nm, Lib.itoa n]).length ≤ 1000 := by
  have := itoa_len h
  simp [glue, tails]
  omega
theorem script_record_eq {c : Cmd} (hi : I64 (cId c)) (hl : (cRecs c).length ≤ 900) :
    script_record (c, ()) = some (if (cRecs c).all okRec = true then (glue ([[114, 101, 99, 111, 114, 100], Lib.itoa (cId c)] ++ (cRecs c).map recT), okN (cId c), ()) else ([], false, ())) := by
  have hn := snums_eq (nm := [114, 101, 99, 111, 114, 100]) (l := [cId c]) (by simp) (by simp) (by simpa using hi)
  have h2 := two_len (nm := [114, 101, 99, 111, 114, 100]) (by simp) hi
  have hlp := rec_out_loop hl (cRecs c) [] [glue [[114, 101, 99, 111, 114, 100], Lib.itoa (cId c)]] rfl (by simp)
  have hp := plain_eq (l := [cId c]) (by simp)
  unfold script_record
  refine bnd hn ?_
  simp only [List.map_cons, List.map_nil]
  simp only [List.length_nil, Int.natCast_zero] at hlp
  rw [hlp]
  cases ha : (cRecs c).all okRec with
  | false => rfl
  | true =>
    simp only [if_true]
    refine jn (a := (((), ()), [glue [[114, 101, 99, 111, 114, 100], Lib.itoa (cId c)]] ++ (cRecs c).map recT, ())) rfl ?_
    refine bnd (word_Join_eq (fun w hw => by
      simp only [List.mem_append, List.mem_singleton] at hw
      rcases hw with rfl | hw
      · exact h2
      · exact recs_facts ha w hw) (by simp; omega)) ?_
    refine bnd hp ?_
    simp [glue, tails]

theorem concat_eq {a b : List Int} (ha : a.length ≤ 1000) (hb : b.length ≤ 1000) : slices_Concat_int_int ([a, b], ()) = some (a ++ b, ()) := by
  have g0 : geti [a, b] 0 = some a := rfl
  have g1 : geti [a, b] 1 = some b := rfl
  have n1 : w64 ((0 : Int) + (a.length : Int)) = (a.length : Int) := by rw [Int.zero_add]; exact w64_nat (by omega)
  have n2 : w64 ((a.length : Int) + (b.length : Int)) = ((a.length + b.length : Nat) : Int) := by rw [w64_id (by omega) (by omega)]; omega
  have z1 : decide ((a.length : Int) < 0) = false := by simp
  have z2 : decide (((a.length + b.length : Nat) : Int) < 0) = false := by simp; omega
  have hg : slices_Grow_int_int ((), ((a.length + b.length : Nat) : Int), ()) = some ([], ()) := by
    unfold slices_Grow_int_int
    have e : w64 (((a.length + b.length : Nat) : Int) - 0) = ((a.length + b.length : Nat) : Int) := by rw [Int.sub_zero]; exact w64_nat (by omega)
    simp only [e, z2, cond_false]
    by_cases h : ((a.length + b.length : Nat) : Int) > 0
    · rw [decide_eq_true h, cond_true, chk_true (by simp; rw [LIM_val]; omega), chk_true (by simp)]
      rfl
    · rw [decide_eq_false h, cond_false]
  unfold slices_Concat_int_int
  refine jn (a := ((((a.length + b.length : Nat) : Int), ()), ())) ?_ ?_
  · rw [iterW_next (s' := (((a.length : Int), 1, ()), ())), iterW_next (s' := ((((a.length + b.length : Nat) : Int), 2, ()), ()))]
    · exact iterW_done rfl
    · simp only [slices_Concat_int_int_L29, g1, Option.bind_some, n2, z2]
      rfl
    · simp only [slices_Concat_int_int_L29, g0, Option.bind_some, n1, z1]
      rfl
  · refine bnd hg ?_
    rw [iterW_next (s' := (((), 1, ()), a, ())), iterW_next (s' := (((), 2, ()), a ++ b, ()))]
    · exact iterW_done rfl
    · simp only [slices_Concat_int_int_L125, g1, Option.bind_some]
      rw [chk_true (by simp; rw [LIM_val]; omega)]
      rfl
    · simp only [slices_Concat_int_int_L125, g0, Option.bind_some]
      rw [chk_true (by simp; rw [LIM_val]; omega)]
      rfl

/-- a text, just if it may be -/
def may (t : B) (ok : Bool) : B × Int × Unit := if ok = false then ([], 7, ()) else (t, 0, ())
theorem may_of {t : B} {ok : Bool} : (bif !ok then some (([] : B), (7 : Int), ()) else some (t, 0, ())) = some (may t ok) := by cases ok <;> rfl
theorem script_Line_eq {c : Cmd} (h : CmdR c) : script_Line (c, ()) = some (lineS c) := by
  obtain ⟨ho, hi, hrl, ht, hpl, hul, hu⟩ := h
  unfold script_Line lineS cmdOK cmdW
  dsimp only
  by_cases h1 : c.1 = 1
  · rw [h1]
    refine jn (a := ((_, _, ()), ())) (bnd (script_order_eq (o := cOrd c) ho) rfl) ?_
    cases hc : okOrd (cOrd c) <;> simp [hc, ordT]
  · rw [nz_beq h1]
    by_cases h2 : c.1 = 2
    · rw [h2]
      have hn := snums_eq (nm := [99, 97, 110, 99, 101, 108]) (l := [cId c]) (by simp) (by simp) (by simpa using hi)
      have hp := plain_eq (l := [cId c]) (by simp)
      refine jn (a := ((_, _, ()), ())) (bnd hn (bnd hp rfl)) ?_
      cases hc : okN (cId c) <;> simp [hc]
    · rw [nz_beq h2]
      by_cases h3 : c.1 = 3
      · rw [h3]
        have hr := script_record_eq (c := c) hi hrl
        refine jn (a := ((_, _, ()), ())) (bnd hr rfl) ?_
        cases hc : (cRecs c).all okRec with
        | false => simp
        | true =>
          cases hk : okN (cId c) with
          | false => simp
          | true =>
            simp [glue, tails_app]
            have := tails_recs (cRecs c)
            simp [tails] at this ⊢
            exact this
      · rw [nz_beq h3]
        by_cases h4 : c.1 = 4
        · rw [h4]
          have hn := snums_eq (nm := [116, 105, 99, 107]) (l := [cTick c]) (by simp) (by simp) (by simpa using ht)
          have hp := plain_eq (l := [cTick c]) (by simp)
          refine jn (a := ((_, _, ()), ())) (bnd hn (bnd hp rfl)) ?_
          cases hc : okN (cTick c) <;> simp [hc]
        · rw [nz_beq h4]
          by_cases h5 : c.1 = 5
          · rw [h5]
            have hcc := concat_eq (a := cPlan c) (b := cRun c) (by simp) (by omega)
            have hall : ∀ n ∈ cPlan c ++ cRun c, I64 n := fun n hn => by
              rcases List.mem_append.1 hn with hn | hn
              · exact hpl n hn
              · exact hu n hn
            have hn := snums_eq (nm := [114, 101, 112, 108, 97, 110]) (l := cPlan c ++ cRun c) (by simp) (by simp; omega) hall
            have hp := plain_eq (l := cPlan c ++ cRun c) (by simp; omega)
            refine jn (a := ((_, _, ()), ())) (bnd hcc (bnd hn (bnd hp rfl))) ?_
            rw [List.all_append]
            cases hc : ((cPlan c).all okN && (cRun c).all okN) <;> simp [hc]
          · rw [nz_beq h5]
            by_cases h6 : c.1 = 6
            · rw [h6]
              rfl
            · rw [nz_beq h6, if_pos (by omega)]
              rfl
end Go.Rai

/- Plain laws of writing: ref's any command; sameness. -/
set_option linter.unusedVariables false
set_option linter.unusedSimpArgs false
namespace Go.Rai
open Go
theorem rcan_loop {c : Cmd} (hl : (cRecs c).length ≤ 900) (rest : List Rec) : ∀ (pre : List Rec), cRecs c = pre ++ rest →
    iterW (haulierref42_Can_L3577 (c, ())) (((pre.length : Int), ()), ()) = some (if rest.all okRec = true then .inl ((), ()) else .inr (.inr (false, ()))) := by
  induction rest with
  | nil =>
    intro pre h
    have hd := dec_ltl pre ([] : List Rec)
    rw [← h] at hd
    rw [iterW_done (r := .inl ((), ()))]
    · rfl
    · simp only [haulierref42_Can_L3577, hd]
      rfl
  | cons x r ih =>
    intro pre h
    have hd := dec_ltl pre (x :: r)
    rw [← h] at hd
    have hlen : (cRecs c).length = pre.length + (r.length + 1) := by rw [h]; simp
    have hsg : ((cRecs c).take (pre.length + 1)).drop pre.length = [x] := by
      rw [h, show pre ++ x :: r = (pre ++ [x]) ++ r by simp, show pre.length + 1 = (pre ++ [x]).length by simp, List.take_left, List.drop_left]
    have hR := Right_eq x
    have hround : haulierref42_Can_L3577 (c, ()) (((pre.length : Int), ()), ()) = if okRec x = true then some (.inl ((((pre.length + 1 : Nat) : Int), ()), ())) else some (.inr (.inr (.inr (false, ())))) := by
      simp only [haulierref42_Can_L3577, hd]
      rw [w64_succ (by omega)]
      simp only [Int.toNat_natCast, hsg, hR]
      have hlen' : c.2.2.2.2.2.2.2.1.length = pre.length + (r.length + 1) := hlen
      rw [chk_true (by simp; omega)]
      cases okRec x <;> rfl
    cases hx : okRec x with
    | true =>
      rw [if_pos hx] at hround
      rw [iterW_next hround, List.all_cons, hx, Bool.true_and]
      have := ih (pre ++ [x]) (by rw [h]; simp)
      simpa using this
    | false =>
      rw [if_neg (by simp [hx])] at hround
      rw [iterW_done hround, List.all_cons, hx]
      rfl
theorem ref_Can_eq {c : Cmd} (h : CmdR c) (hk : 1 ≤ c.1 ∧ c.1 ≤ 6) : haulierref42_Can (c, ()) = some (cmdOK c, ()) := by
  obtain ⟨ho, hi, hrl, ht, hpl, hul, hu⟩ := h
  unfold haulierref42_Can cmdOK
  dsimp only
  by_cases h1 : c.1 = 1
  · rw [h1]
    exact jn_out (bnd (ref_order_can (o := cOrd c) (by have := ho.2.1; omega)) rfl)
  · rw [nz_beq h1, if_neg h1]
    by_cases h2 : c.1 = 2
    · rw [h2]
      refine (jn_out (bnd (ref_all_eq (l := [cId c]) (by simp)) rfl)).trans ?_
      simp
    · rw [nz_beq h2, if_neg h2]
      by_cases h3 : c.1 = 3
      · rw [h3]
        have hlp := rcan_loop hrl (cRecs c) [] rfl
        simp only [List.length_nil, Int.natCast_zero] at hlp
        simp only [hlp]
        cases ha : (cRecs c).all okRec with
        | false => simp [joinS]
        | true =>
          refine Eq.trans (jn_out (a := ([cId c].all okN, ())) ?_) ?_
          · simp only [cond_false, cond_true, beq_self_eq_true, if_true]
            refine jn (a := ((), ())) rfl ?_
            exact bnd (ref_all_eq (l := [cId c]) (by simp)) rfl
          · simp
      · rw [nz_beq h3, if_neg h3]
        by_cases h4 : c.1 = 4
        · rw [h4]
          refine (jn_out (bnd (ref_all_eq (l := [cTick c]) (by simp)) rfl)).trans ?_
          simp
        · rw [nz_beq h4, if_neg h4]
          by_cases h5 : c.1 = 5
          · rw [h5]
            have hr2 := ref_all_eq (l := cRun c) (by omega)
            refine (jn_out (a := ((cPlan c).all okN && (cRun c).all okN, ())) (bnd (ref_all_eq (l := cPlan c) (by simp)) ?_)).trans ?_
            · cases hc : (cPlan c).all okN with
              | false => rfl
              | true =>
                refine bnd (a := (cRun c).all okN) (bnd hr2 rfl) ?_
                simp
            · simp
          · have h6 : c.1 = 6 := by omega
            rw [h6]
            rfl

theorem rec_line_loop {c : Cmd} (hl : (cRecs c).length ≤ 900) (hok : (cRecs c).all okRec = true) (rest : List Rec) : ∀ (pre : List Rec) (out : B), cRecs c = pre ++ rest → out.length ≤ 1000 + 1000 * pre.length →
    iterW (haulierref42_Line_L31733 (c, ())) ((out, (pre.length : Int), ()), ()) = some (out ++ tails (rest.map recT), 0, ()) := by
  induction rest with
  | nil =>
    intro pre out h ho
    have hd := dec_ltl pre ([] : List Rec)
    rw [← h] at hd
    rw [iterW_done (r := (out, 0, ()))]
    · simp [tails]
    · simp only [haulierref42_Line_L31733, hd]
      rfl
  | cons x r ih =>
    intro pre out h ho
    have hd := dec_ltl pre (x :: r)
    have hg := geti_mid pre x r
    rw [← h] at hd hg
    have hlen : (cRecs c).length = pre.length + (r.length + 1) := by rw [h]; simp
    have hx : okRec x = true := List.all_eq_true.1 hok x (by rw [h]; simp)
    obtain ⟨h1, h2, h3⟩ := okRec_facts hx
    have ht := Text09_eq h1
    have htd := rtold_eq (p := (x.2.1, x.2.2.1, ())) ⟨h2, h3⟩
    have htl := told_len (p := (x.2.1, x.2.2.1, ())) ⟨h2, h3⟩
    rw [iterW_next (s' := ((out ++ 32 :: recT x, ((pre ++ [x]).length : Int), ()), ())), ih (pre ++ [x]) _ (by rw [h]; simp) (by have := recT_len hx; simp; omega)]
    · rw [List.map_cons, tails_cons]
      simp
    · simp only [haulierref42_Line_L31733, hd, hg, Option.bind_some, ht, htd]
      rw [w64_succ (by omega), chk_true (by simp; rw [LIM_val]; omega), chk_true (by simp; rw [LIM_val]; omega), chk_true (by simp; rw [LIM_val]; omega), chk_true (by simp; rw [LIM_val]; omega)]
      simp [recT, glue, tails]
theorem ref_Line_eq {c : Cmd} (h : CmdR c) : haulierref42_Line (c, ()) = some (lineS c) := by
  have hcan := ref_Can_eq h
  obtain ⟨ho, hi, hrl, ht, hpl, hul, hu⟩ := h
  unfold haulierref42_Line lineS
  dsimp only
  by_cases hlo : c.1 < 1
  · rw [decide_eq_true hlo, if_pos (.inl hlo)]
    rfl
  · rw [decide_eq_false hlo]
    by_cases hhi : c.1 > 6
    · rw [decide_eq_true hhi, if_pos (.inr hhi)]
      rfl
    · rw [decide_eq_false hhi, if_neg (by omega)]
      refine bnd (a := false) rfl ?_
      simp only [cond_false]
      refine bnd (hcan (by omega)) ?_
      simp only []
      cases hok : cmdOK c with
      | false => rfl
      | true =>
        simp only [Bool.not_true, cond_false, Bool.true_eq_false, if_false]
        unfold cmdW
        unfold cmdOK at hok
        by_cases h1 : c.1 = 1
        · rw [h1]
          exact bnd (ref_Order_eq (o := cOrd c) ho) rfl
        · rw [nz_beq h1, if_neg h1]
          by_cases h2 : c.1 = 2
          · rw [h2]
            exact bnd (rrow_eq (nm := [99, 97, 110, 99, 101, 108]) (l := [cId c]) (by simp) (by simp) (by simpa using hi)) rfl
          · rw [nz_beq h2, if_neg h2]
            by_cases h3 : c.1 = 3
            · rw [h3] at hok ⊢
              have hall : (cRecs c).all okRec = true := by
                simp at hok
                simpa using hok.2
              have h2l := two_len (nm := [114, 101, 99, 111, 114, 100]) (by simp) hi
              have hlp := rec_line_loop hrl hall (cRecs c) [] (glue [[114, 101, 99, 111, 114, 100], Lib.itoa (cId c)]) rfl (by simpa using h2l)
              refine bnd (rrow_eq (nm := [114, 101, 99, 111, 114, 100]) (l := [cId c]) (by simp) (by simp) (by simpa using hi)) ?_
              refine hlp.trans ?_
              rw [tails_recs]
              rw [if_pos rfl]
              rw [glue_app (by simp)]
            · rw [nz_beq h3, if_neg h3]
              by_cases h4 : c.1 = 4
              · rw [h4]
                exact bnd (rrow_eq (nm := [116, 105, 99, 107]) (l := [cTick c]) (by simp) (by simp) (by simpa using ht)) rfl
              · rw [nz_beq h4, if_neg h4]
                by_cases h5 : c.1 = 5
                · rw [h5]
                  have hall : ∀ n ∈ cPlan c ++ cRun c, I64 n := fun n hn => by
                    rcases List.mem_append.1 hn with hn | hn
                    · exact hpl n hn
                    · exact hu n hn
                  simp only [cond_true, beq_self_eq_true]
                  have hul' : c.2.2.2.2.2.2.2.2.2.2.2.2.1.length ≤ 900 := hul
                  rw [chk_true (by simp; rw [LIM_val]; omega)]
                  exact bnd (rrow_eq (nm := [114, 101, 112, 108, 97, 110]) (l := cPlan c ++ cRun c) (by simp) (by simp; omega) hall) rfl
                · rw [nz_beq h5, if_neg h5]
                  rfl

/-! sameness -/
theorem same08_loop {l : List Rec} (hl : l.length ≤ LEN) (rest : List Rec) : ∀ (pre : List Rec), l = pre ++ rest → iterW (haulierref08_Same_L29 (l, l, ())) (((pre.length : Int), ()), ()) = some (true, ()) := by
  induction rest with
  | nil =>
    intro pre h
    have hd := dec_ltl pre ([] : List Rec)
    rw [← h] at hd
    apply iterW_done
    simp only [haulierref08_Same_L29, hd]
    rfl
  | cons x r ih =>
    intro pre h
    have hd := dec_ltl pre (x :: r)
    have hg := geti_mid pre x r
    rw [← h] at hd hg
    have hlen : l.length = pre.length + (r.length + 1) := by rw [h]; simp
    unfold LEN at hl
    rw [iterW_next (s' := ((((pre ++ [x]).length : Int), ()), ())), ih (pre ++ [x]) (by rw [h]; simp)]
    simp only [haulierref08_Same_L29, hd, hg, Option.bind_some]
    rw [w64_succ (by omega)]
    simp
theorem same08_eq {l : List Rec} (hl : l.length ≤ LEN) : haulierref08_Same (l, l, ()) = some (true, ()) := by
  unfold haulierref08_Same
  have := same08_loop hl l [] rfl
  simp only [bne_self_eq_false, cond_false]
  exact this
theorem same42_loop {l : List Int} (hl : l.length ≤ LEN) (rest : List Int) : ∀ (pre : List Int), l = pre ++ rest → iterW (haulierref42_same_L29 (l, l, ())) (((pre.length : Int), ()), ()) = some (true, ()) := by
  induction rest with
  | nil =>
    intro pre h
    have hd := dec_ltl pre ([] : List Int)
    rw [← h] at hd
    apply iterW_done
    simp only [haulierref42_same_L29, hd]
    rfl
  | cons x r ih =>
    intro pre h
    have hd := dec_ltl pre (x :: r)
    have hg := geti_mid pre x r
    rw [← h] at hd hg
    have hlen : l.length = pre.length + (r.length + 1) := by rw [h]; simp
    unfold LEN at hl
    rw [iterW_next (s' := ((((pre ++ [x]).length : Int), ()), ())), ih (pre ++ [x]) (by rw [h]; simp)]
    simp only [haulierref42_same_L29, hd, hg, Option.bind_some]
    rw [w64_succ (by omega)]
    simp
theorem same42_eq {l : List Int} (hl : l.length ≤ LEN) : haulierref42_same (l, l, ()) = some (true, ()) := by
  unfold haulierref42_same
  have := same42_loop hl l [] rfl
  simp only [bne_self_eq_false, cond_false]
  exact this
theorem ref_Same_eq {c : Cmd} (ho : OrdR (cOrd c)) (hr : (cRecs c).length ≤ LEN) (hu : (cRun c).length ≤ LEN) : haulierref42_Same (c, c, ()) = some (true, ()) := by
  have h1 := ref_Order_eq ho
  have h2 := same08_eq hr
  have h3 := same42_eq hu
  unfold haulierref42_Same
  simp only [bne_self_eq_false, beq_self_eq_true, Bool.not_false, cond_true, cond_false]
  refine bnd (a := false) (bnd h1 (bnd h1 ?_)) ?_
  · simp
  · refine bnd (a := false) rfl ?_
    refine bnd (a := false) rfl ?_
    refine bnd (a := false) (bnd h2 rfl) ?_
    simp only [cond_false]
    refine bnd (a := true) rfl ?_
    refine bnd (a := true) rfl ?_
    exact bnd (a := true) (bnd h3 rfl) rfl
end Go.Rai

/- Plain laws: the law ScriptLines. -/
set_option linter.unusedVariables false
set_option linter.unusedSimpArgs false
namespace Go.Rai
open Go
/-- what may be asked of a command that was read -/
def CmdF (N : Nat) (c : Cmd) : Prop := (∀ n ∈ ordNums (cOrd c), I64 n) ∧ (cOrd c).2.2.2.2.1.length ≤ N ∧ (∀ p ∈ (cOrd c).2.2.2.2.1, I64 p.1 ∧ I64 p.2.1) ∧ I64 (cId c) ∧ (cRecs c).length ≤ N ∧ I64 (cTick c) ∧ (∀ n ∈ cPlan c, I64 n) ∧ (cRun c).length ≤ N ∧ (∀ n ∈ cRun c, I64 n)
theorem i0 : I64 0 := by decide
theorem o0 {l : List Sp} : ∀ n ∈ ordNums (0, 0, 0, 0, l, ()), I64 n := fun n hn => by
  simp [ordNums] at hn
  subst hn
  exact i0
theorem p0 : ∀ n ∈ ([0, 0, 0] : List Int), I64 n := fun n hn => by
  simp at hn
  subst hn
  exact i0
theorem n0 : ∀ n ∈ ([] : List Int), I64 n := fun n hn => by cases hn
theorem s0 : ∀ p ∈ ([] : List Sp), I64 p.1 ∧ I64 p.2.1 := fun n hn => by cases hn
theorem zc_fair (N : Nat) : CmdF N Zc := by
  exact ⟨o0, Nat.zero_le _, s0, i0, Nat.zero_le _, i0, p0, Nat.zero_le _, n0⟩
theorem num_fair {w : B} : I64 (numS w 1000000000).1 := by
  have := numS_range (s := w) (most := 1000000000) (by decide)
  exact ⟨by omega, by omega⟩
theorem sgn_fair {w : B} : I64 (sgnS w).1 := by
  unfold sgnS
  split
  · exact num_fair
  · split
    · split
      · exact i0
      · split
        · exact i0
        · rename_i c r _ _ _
          have := numS_range (s := r) (most := 1000000000) (by decide)
          exact ⟨by simp only []; omega, by simp only []; omega⟩
    · exact num_fair
theorem allA_fair {k : Int} (ws : List B) : ∀ (i : Nat) (out : List Int), (∀ n ∈ out, I64 n) → (∀ n ∈ (allA k i ws out).1, I64 n) ∧ (allA k i ws out).1.length ≤ out.length + ws.length := by
  induction ws with
  | nil => intro i out h; exact ⟨h, Nat.le_refl _⟩
  | cons w r ih =>
    intro i out h
    unfold allA
    by_cases he : (if (i : Int) = k then sgnS w else numS w 1000000000).2.1 ≠ 0
    · rw [if_pos he]
      exact ⟨n0, by simp⟩
    · rw [if_neg he]
      have hi : I64 (if (i : Int) = k then sgnS w else numS w 1000000000).1 := by
        split
        · exact sgn_fair
        · exact num_fair
      have := ih (i + 1) (out ++ [(if (i : Int) = k then sgnS w else numS w 1000000000).1]) (fun n hn => by
        rcases List.mem_append.1 hn with hn | hn
        · exact h n hn
        · rw [List.mem_singleton.1 hn]; exact hi)
      refine ⟨this.1, Nat.le_trans this.2 ?_⟩
      simp
      omega
theorem span_fair {w : B} : I64 (spanS w).1.1 ∧ I64 (spanS w).1.2.1 := by
  unfold spanS
  split
  · exact ⟨i0, i0⟩
  · split
    · exact ⟨i0, i0⟩
    · split
      · exact ⟨i0, i0⟩
      · split
        · exact ⟨i0, i0⟩
        · rename_i x _ _ h1 h2
          exact ⟨⟨by simp only []; omega, by simp only []; omega⟩, by simp only []; omega, by simp only []; omega⟩
theorem spansO_fair {q : Q4} (hq : I64 q.1 ∧ I64 q.2.1 ∧ I64 q.2.2.1 ∧ I64 q.2.2.2.1) (ws : List B) : ∀ (out : List Sp), (∀ p ∈ out, I64 p.1 ∧ I64 p.2.1) →
    (∀ n ∈ ordNums (spansO q ws out).1, I64 n) ∧ (spansO q ws out).1.2.2.2.2.1.length ≤ out.length + ws.length ∧ ∀ p ∈ (spansO q ws out).1.2.2.2.2.1, I64 p.1 ∧ I64 p.2.1 := by
  induction ws with
  | nil =>
    intro out h
    refine ⟨?_, Nat.le_refl _, h⟩
    intro n hn
    simp [ordNums, spansO] at hn
    rcases hn with rfl | rfl | rfl | rfl
    · exact hq.1
    · exact hq.2.1
    · exact hq.2.2.1
    · exact hq.2.2.2
  | cons w r ih =>
    intro out h
    unfold spansO
    split
    · exact ⟨o0, Nat.zero_le _, s0⟩
    · have := ih (out ++ [(spanS w).1]) (fun p hp => by
        rcases List.mem_append.1 hp with hp | hp
        · exact h p hp
        · rw [List.mem_singleton.1 hp]; exact span_fair)
      refine ⟨this.1, Nat.le_trans this.2.1 ?_, this.2.2⟩
      simp
      omega
theorem orderS_fair (ws : List B) : (∀ n ∈ ordNums (orderS ws).1, I64 n) ∧ (orderS ws).1.2.2.2.2.1.length ≤ ws.length ∧ ∀ p ∈ (orderS ws).1.2.2.2.2.1, I64 p.1 ∧ I64 p.2.1 := by
  have hz : (∀ n ∈ ordNums Zo, I64 n) ∧ Zo.2.2.2.2.1.length ≤ ws.length ∧ ∀ p ∈ Zo.2.2.2.2.1, I64 p.1 ∧ I64 p.2.1 := ⟨o0, Nat.zero_le _, s0⟩
  unfold orderS
  split
  · split
    · split
      · exact hz
      · split
        · exact hz
        · split
          · exact hz
          · split
            · exact hz
            · rename_i w0 w1 w2 w3 w4 r _ _ _ _ _
              have := spansO_fair (q := ((numS w1 1000000000).1, (numS w2 1000000000).1, (sgnS w3).1, (numS w4 1000000000).1, (), ())) ⟨num_fair, num_fair, sgn_fair, num_fair⟩ r [] (by simp)
              refine ⟨this.1, Nat.le_trans this.2.1 ?_, this.2.2⟩
              simp
              omega
    · exact hz
  · exact hz
theorem recsR_fair {N : Nat} {id : Int} (hi : I64 id) : ∀ (ws : List B) (out : List Rec), out.length + ws.length ≤ N → CmdF N (recsR ws id out).1
  | [], out, h => by
    exact ⟨o0, Nat.zero_le _, s0, hi, (by simpa using h : out.length ≤ N), i0, p0, Nat.zero_le _, n0⟩
  | [w], out, h => zc_fair N
  | w :: v :: r, out, h => by
    unfold recsR
    split
    · exact zc_fair N
    · split
      · exact zc_fair N
      · exact recsR_fair hi r _ (by simp at h ⊢; omega)
theorem recordS_fair {ws : List B} {N : Nat} (h : ws.length ≤ N) : CmdF N (recordS ws).1 := by
  unfold recordS
  split
  · split
    · exact zc_fair N
    · split
      · exact zc_fair N
      · exact recsR_fair num_fair _ _ (by simp at h ⊢; omega)
  · exact zc_fair N
theorem countS_fair {ws : List B} {n : Nat} {more : Bool} {mk : List Int → Cmd} {N : Nat} (h : ws.length ≤ N) (hm : ∀ l : List Int, (∀ n ∈ l, I64 n) → l.length ≤ N → CmdF N (mk l)) : CmdF N (countS ws n more mk).1 := by
  unfold countS
  split
  · exact zc_fair N
  · split
    · exact zc_fair N
    · have := allA_fair (k := -1) (ws.drop 1) 0 [] (by simp)
      exact hm _ this.1 (Nat.le_trans this.2 (by simp; omega))
theorem getD_fair {l : List Int} (h : ∀ n ∈ l, I64 n) (i : Nat) : I64 (l.getD i 0) := by
  by_cases hi : i < l.length
  · unfold List.getD; rw [List.getElem?_eq_getElem hi]; exact h _ (List.getElem_mem hi)
  · unfold List.getD; rw [List.getElem?_eq_none (by omega)]; exact i0
theorem headD_fair {l : List Int} (h : ∀ n ∈ l, I64 n) : I64 (l.headD 0) := by
  cases l with
  | nil => exact i0
  | cons a r => exact h a (by simp)
theorem cmdS_fair {ws : List B} {N : Nat} (h : ws.length ≤ N) : CmdF N (cmdS ws).1 := by
  unfold cmdS
  split
  · exact zc_fair N
  · rename_i w r
    split
    · split
      · exact zc_fair N
      · have := orderS_fair (w :: r)
        exact ⟨this.1, Nat.le_trans this.2.1 h, this.2.2, i0, Nat.zero_le _, i0, p0, Nat.zero_le _, n0⟩
    · split
      · exact countS_fair h fun l h1 h2 => ⟨o0, Nat.zero_le _, s0, headD_fair h1, Nat.zero_le _, i0, p0, Nat.zero_le _, n0⟩
      · split
        · exact recordS_fair h
        · split
          · exact countS_fair h fun l h1 h2 => ⟨o0, Nat.zero_le _, s0, i0, Nat.zero_le _, headD_fair h1, p0, Nat.zero_le _, n0⟩
          · split
            · exact countS_fair h fun l h1 h2 => ⟨o0, Nat.zero_le _, s0, i0, Nat.zero_le _, i0, fun n hn => by
                simp only [cPlan, mkReplan, List.mem_cons, List.not_mem_nil, or_false] at hn
                rcases hn with rfl | rfl | rfl
                · exact getD_fair h1 0
                · exact getD_fair h1 1
                · exact getD_fair h1 2, by show (l.drop 3).length ≤ N; simp; omega, fun n hn => h1 n (List.mem_of_mem_drop hn)⟩
            · split
              · exact countS_fair h fun l h1 h2 => ⟨o0, Nat.zero_le _, s0, i0, Nat.zero_le _, i0, p0, Nat.zero_le _, n0⟩
              · exact zc_fair N
theorem readS_fair {s : B} {N : Nat} (h : s.length + 1 ≤ N) : CmdF N (readS s).1 := by
  unfold readS
  split
  · exact zc_fair N
  · refine cmdS_fair ?_
    rw [tx_len]
    unfold wordsS
    split
    · exact Nat.zero_le _
    · have := (sp_size (N := s.length) s 0 [] [] (by simp) (by simp)).2
      simp at this
      omega
theorem CmdF.r {c : Cmd} (h : CmdF 900 c) : CmdR c := ⟨⟨h.1, h.2.1, h.2.2.1⟩, h.2.2.2.1, h.2.2.2.2.1, h.2.2.2.2.2.1, h.2.2.2.2.2.2.1, h.2.2.2.2.2.2.2.1, h.2.2.2.2.2.2.2.2⟩

theorem alive_eq : haulierlaw42_alive () = some (true, ()) := by
  have h : readS [114, 101, 99, 111, 114, 100, 32, 52, 32, 68, 32, 48, 45, 51, 48, 32, 87, 32, 51, 48, 45, 51, 53] = ((3, 0, 0, 0, 0, [], 4, [(3, 0, 30, ()), (2, 30, 35, ())], 0, 0, 0, 0, [], ()), 0, ()) := by rfl
  have hr := script_Read_eq (s := [114, 101, 99, 111, 114, 100, 32, 52, 32, 68, 32, 48, 45, 51, 48, 32, 87, 32, 51, 48, 45, 51, 53]) (by show 23 < LEN; decide)
  rw [h] at hr
  unfold haulierlaw42_alive
  refine bnd hr ?_
  rfl
def fewB (c : Cmd) : Bool := decide (c.2.2.2.2.2.1.length ≤ 20) && decide ((cRecs c).length ≤ 60) && decide ((cRun c).length ≤ 60)
theorem few_eq (c : Cmd) : haulierlaw42_Few (c, ()) = some (fewB c, ()) := by
  unfold haulierlaw42_Few fewB
  by_cases h1 : c.2.2.2.2.2.1.length ≤ 20
  · have e1 : decide ((c.2.2.2.2.2.1.length : Int) ≤ 20) = true := by simp; omega
    by_cases h2 : c.2.2.2.2.2.2.2.1.length ≤ 60
    · have e2 : decide ((c.2.2.2.2.2.2.2.1.length : Int) ≤ 60) = true := by simp; omega
      by_cases h3 : c.2.2.2.2.2.2.2.2.2.2.2.2.1.length ≤ 60
      · have e3 : decide ((c.2.2.2.2.2.2.2.2.2.2.2.2.1.length : Int) ≤ 60) = true := by simp; omega
        simp [e1, e2, e3, h1, h2, h3]
      · have e3 : decide ((c.2.2.2.2.2.2.2.2.2.2.2.2.1.length : Int) ≤ 60) = false := by simp; omega
        simp [e1, e2, e3, h1, h2, h3]
    · have e2 : decide ((c.2.2.2.2.2.2.2.1.length : Int) ≤ 60) = false := by simp; omega
      simp [e1, e2, h1, h2]
  · have e1 : decide ((c.2.2.2.2.2.1.length : Int) ≤ 20) = false := by simp; omega
    simp [e1, h1]
theorem guard_eq {c : Cmd} {s : B} : (Option.bind (bif !(!fewB c) then some (decide ((s.length : Int) > 600)) else some true) fun (b2 : Bool) => some b2) = some (!(fewB c && decide (s.length ≤ 600))) := by
  cases fewB c
  · rfl
  · by_cases h : s.length ≤ 600
    · have : decide ((s.length : Int) > 600) = false := by simp; omega
      simp [this, h]
    · have : decide ((s.length : Int) > 600) = true := by simp; omega
      simp [this, h]

theorem Own_eq (c : Cmd) : haulierlaw42_Own (c, ()) = some (c, ()) := rfl
theorem Told_eq (c : Cmd) : haulierlaw42_Told (c, ()) = some (c, ()) := rfl
theorem lines_law {c : Cmd} {s : B} (hc : fewB c = true → CmdR c) : haulierlaw42_ScriptLines (c, s, ()) = some (true, ()) := by
  unfold haulierlaw42_ScriptLines
  refine bnd (few_eq c) ?_
  cases hf : fewB c with
  | false => exact bnd (a := true) rfl (bnd alive_eq rfl)
  | true =>
    by_cases hs : s.length ≤ 600
    · have e : decide ((s.length : Int) > 600) = false := by simp; omega
      have hR := hc hf
      have hsl : s.length < LEN := by unfold LEN; omega
      refine bnd (a := false) (by simp [e]) ?_
      simp only [cond_false]
      refine bnd (Own_eq c) ?_
      refine bnd (script_Line_eq hR) ?_
      refine bnd (ref_Line_eq hR) ?_
      refine bnd (script_Read_eq hsl) ?_
      refine bnd (ref_Read_eq hsl) ?_
      have hfair := readS_fair (s := s) (N := 900) (by omega)
      have hsame := ref_Same_eq (c := (readS s).1) (hfair.r).1 (Nat.le_trans (hfair.r).2.2.1 (by decide)) (Nat.le_trans (hfair.r).2.2.2.2.2.1 (by decide))
      simp only [beq_self_eq_true]
      refine bnd (a := true) rfl ?_
      refine bnd (a := true) (bnd hsame rfl) ?_
      refine bnd (a := true) rfl ?_
      exact bnd (a := true) (bnd alive_eq rfl) rfl
    · have e : decide ((s.length : Int) > 600) = true := by simp; omega
      exact bnd (a := true) (by simp [e]) (bnd alive_eq rfl)
end Go.Rai
