/- A part of the proof of ScriptLines: general lemmas, with no condition of their own. -/
import Derived.Test.YtdmbeajlccebgaaGreatDoorPlainA
/- Plain laws of reading: orders, commands. -/
set_option linter.unusedVariables false
set_option linter.unusedSimpArgs false
namespace Go.Rai
open Go
abbrev Ord := Int × Int × Int × Int × List Sp × Unit
abbrev Zo : Ord := (0, 0, 0, 0, [], ())
abbrev Q4 := Int × Int × Int × Int × Unit × Unit
def tx (ws : List Wd) : List B := ws.map fun w => w.2.1
theorem tx_cons {w : Wd} {r : List Wd} : tx (w :: r) = w.2.1 :: tx r := rfl
theorem tx_len {ws : List Wd} : (tx ws).length = ws.length := by simp [tx]
def spansO (q : Q4) (ws : List B) (out : List Sp) : Ord × Int × Unit := match ws with
  | [] => ((q.1, q.2.1, q.2.2.1, q.2.2.2.1, out, ()), 0, ())
  | w :: r => if (spanS w).2.1 ≠ 0 then (Zo, (spanS w).2.1, ()) else spansO q r (out ++ [(spanS w).1])
def orderS (ws : List B) : Ord × Int × Unit := match ws with
  | w0 :: w1 :: w2 :: w3 :: w4 :: r => if w0 = [111, 114, 100, 101, 114] then
      if (numS w1 1000000000).2.1 ≠ 0 then (Zo, (numS w1 1000000000).2.1, ()) else if (numS w2 1000000000).2.1 ≠ 0 then (Zo, (numS w2 1000000000).2.1, ())
      else if (sgnS w3).2.1 ≠ 0 then (Zo, (sgnS w3).2.1, ()) else if (numS w4 1000000000).2.1 ≠ 0 then (Zo, (numS w4 1000000000).2.1, ())
      else spansO ((numS w1 1000000000).1, (numS w2 1000000000).1, (sgnS w3).1, (numS w4 1000000000).1, (), ()) r [] else (Zo, 7, ())
  | _ => (Zo, 7, ())

theorem order_loop {s : List Wd} {q : Q4} {x : Int × Int × Int × Int × Unit × Unit} (hl : s.length ≤ LEN) (hw : ∀ w ∈ s, w.2.1.length ≤ LEN) (rest : List Wd) : ∀ (pre : List Wd) (out : List Sp), s = pre ++ rest → out.length ≤ pre.length →
    iterW (paper_order_L253 s) (((pre.length : Int), ()), x, q, out, ()) = some (spansO q (tx rest) out) := by
  induction rest with
  | nil =>
    intro pre out h ho
    have hd := dec_ltl pre ([] : List Wd)
    rw [← h] at hd
    rw [iterW_done (r := ((q.1, q.2.1, q.2.2.1, q.2.2.2.1, out, ()), 0, ()))]
    · rfl
    · simp only [paper_order_L253, hd]
      rfl
  | cons c r ih =>
    intro pre out h ho
    have hd := dec_ltl pre (c :: r)
    have hg := geti_mid pre c r
    rw [← h] at hd hg
    have hc := word_Span_eq (hw c (by rw [h]; simp))
    have hlen : s.length = pre.length + (r.length + 1) := by rw [h]; simp
    unfold LEN at hl
    simp only [tx_cons, spansO]
    by_cases he : (spanS c.2.1).2.1 = 0
    · rw [if_neg (by simpa using he), iterW_next (s' := ((((pre ++ [c]).length : Int), ()), x, q, out ++ [(spanS c.2.1).1], ())), ih (pre ++ [c]) _ (by rw [h]; simp) (by simp; omega)]
      simp only [paper_order_L253, hd, hg, Option.bind_some, hc]
      rw [w64_succ (by omega), chk_true (by simp; rw [LIM_val]; omega)]
      simp [he]
    · rw [if_pos he, iterW_done (r := (Zo, (spanS c.2.1).2.1, ()))]
      simp only [paper_order_L253, hd, hg, Option.bind_some, hc]
      simp [he, nz_bne he]
theorem rorder_loop {s : List B} {q : Q4} {x : Int × Int × Int × Int × Unit × Unit} (hl : s.length ≤ LEN) (hw : ∀ w ∈ s, w.length ≤ LEN) (rest : List B) : ∀ (pre : List B) (out : List Sp), s = pre ++ rest → out.length ≤ pre.length →
    iterW (haulierref31_order_L253 (s, ())) (((pre.length : Int), ()), x, q, out, ()) = some (spansO q rest out) := by
  induction rest with
  | nil =>
    intro pre out h ho
    have hd := dec_ltl pre ([] : List B)
    rw [← h] at hd
    rw [iterW_done (r := ((q.1, q.2.1, q.2.2.1, q.2.2.2.1, out, ()), 0, ()))]
    · rfl
    · simp only [haulierref31_order_L253, hd]
      rfl
  | cons c r ih =>
    intro pre out h ho
    have hd := dec_ltl pre (c :: r)
    have hg := geti_mid pre c r
    rw [← h] at hd hg
    have hc := ref_Span_eq (hw c (by rw [h]; simp))
    have hlen : s.length = pre.length + (r.length + 1) := by rw [h]; simp
    unfold LEN at hl
    simp only [spansO]
    by_cases he : (spanS c).2.1 = 0
    · rw [if_neg (by simpa using he), iterW_next (s' := ((((pre ++ [c]).length : Int), ()), x, q, out ++ [(spanS c).1], ())), ih (pre ++ [c]) _ (by rw [h]; simp) (by simp; omega)]
      simp only [haulierref31_order_L253, hd, hg, Option.bind_some, hc]
      rw [w64_succ (by omega), chk_true (by simp; rw [LIM_val]; omega)]
      simp [he]
    · rw [if_pos he, iterW_done (r := (Zo, (spanS c).2.1, ()))]
      simp only [haulierref31_order_L253, hd, hg, Option.bind_some, hc]
      simp [he, nz_bne he]

theorem short5 {α : Type} (ws : List α) : (ws.length < 5) ∨ ∃ a b c d e r, ws = a :: b :: c :: d :: e :: r := by
  match ws with
  | a :: b :: c :: d :: e :: r => exact .inr ⟨a, b, c, d, e, r, rfl⟩
  | [] | [_] | [_, _] | [_, _, _] | [_, _, _, _] => left; simp
theorem orderS_short {ws : List B} (h : ws.length < 5) : orderS ws = (Zo, 7, ()) := by
  match ws with
  | a :: b :: c :: d :: e :: r => simp at h; omega
  | [] | [_] | [_, _] | [_, _, _] | [_, _, _, _] => rfl
theorem len5 {α : Type} {a b c d e : α} {r : List α} : decide ((((a :: b :: c :: d :: e :: r).length : Nat) : Int) < 5) = false := by simp; omega
theorem chk5 {α : Type} {a b c d e : α} {r : List α} {R : Type} {x : Option R} : chk (decide (0 ≤ (5 : Int) ∧ (5 : Int) ≤ (((a :: b :: c :: d :: e :: r).length : Nat) : Int))) x = x := chk_true (by simp; omega)
theorem chk15 {α : Type} {a b c d e : α} {r : List α} {R : Type} {x : Option R} : chk (decide (0 ≤ (1 : Int) ∧ (1 : Int) ≤ (5 : Int) ∧ (5 : Int) ≤ (((a :: b :: c :: d :: e :: r).length : Nat) : Int))) x = x := chk_true (by simp; omega)

theorem paper_order_eq {ws : List Wd} (hl : ws.length ≤ LEN) (hw : ∀ w ∈ ws, w.2.1.length ≤ LEN) : paper_order (ws, ()) = some (orderS (tx ws)) := by
  rcases short5 ws with h5 | ⟨w0, w1, w2, w3, w4, r, rfl⟩
  · rw [orderS_short (by rw [tx_len]; exact h5)]
    unfold paper_order
    have : decide ((ws.length : Int) < 5) = true := by simp; omega
    simp only [this]
    rfl
  · have g1 := paper_number_eq (hw w1 (by simp))
    have g2 := paper_number_eq (hw w2 (by simp))
    have g3 := paper_signed_eq (hw w3 (by simp))
    have g4 := paper_number_eq (hw w4 (by simp))
    have e0 : geti (w0 :: w1 :: w2 :: w3 :: w4 :: r) 0 = some w0 := rfl
    have e1 : geti (w0 :: w1 :: w2 :: w3 :: w4 :: r) 1 = some w1 := rfl
    have e2 : geti (w0 :: w1 :: w2 :: w3 :: w4 :: r) 2 = some w2 := rfl
    have e3 : geti (w0 :: w1 :: w2 :: w3 :: w4 :: r) 3 = some w3 := rfl
    have e4 : geti (w0 :: w1 :: w2 :: w3 :: w4 :: r) 4 = some w4 := rfl
    have hlp := fun q x => order_loop (q := q) (x := x) (s := r) (by simp at hl; omega) (fun w h => hw w (by simp [h])) r [] [] rfl (by simp)
    simp only [List.length_nil, Int.natCast_zero] at hlp
    simp only [paper_order, len5, e0, e1, e2, e3, e4, g1, g2, g3, g4, chk5, Option.bind_some, Bool.not_false, cond_true, tx_cons, orderS]
    by_cases h0 : w0.2.1 = [111, 114, 100, 101, 114]
    · rw [if_pos h0, h0]
      by_cases h1 : (numS w1.2.1 1000000000).2.1 = 0
      · by_cases h2 : (numS w2.2.1 1000000000).2.1 = 0
        · by_cases h3 : (sgnS w3.2.1).2.1 = 0
          · by_cases h4 : (numS w4.2.1 1000000000).2.1 = 0
            · simp only [h1, h2, h3, h4, ne_eq, not_true_eq_false, if_false]
              rw [← hlp]
              rfl
            · simp [h1, h2, h3, h4, nz_bne h4, joinS]
          · simp [h1, h2, h3, nz_bne h3, joinS]
        · simp [h1, h2, nz_bne h2, joinS]
      · simp [h1, nz_bne h1, joinS]
    · have : (w0.2.1 == ([111, 114, 100, 101, 114] : B)) = false := by simpa using h0
      rw [if_neg h0]
      simp only [this]
      rfl
theorem ref_order_eq {ws : List B} (hl : ws.length ≤ LEN) (hw : ∀ w ∈ ws, w.length ≤ LEN) : haulierref31_order (ws, ()) = some (orderS ws) := by
  rcases short5 ws with h5 | ⟨w0, w1, w2, w3, w4, r, rfl⟩
  · rw [orderS_short h5]
    unfold haulierref31_order
    have : decide ((ws.length : Int) < 5) = true := by simp; omega
    simp only [this]
    rfl
  · have e0 : geti (w0 :: w1 :: w2 :: w3 :: w4 :: r) 0 = some w0 := rfl
    have hlp := fun q x => rorder_loop (q := q) (x := x) hl hw r [w0, w1, w2, w3, w4] [] rfl (by simp)
    have hs4 : ((w0 :: w1 :: w2 :: w3 :: w4 :: r).take (5 : Int).toNat).drop (1 : Int).toNat = [w1, w2, w3, w4] := rfl
    have hn := ref_Numbers_eq (k := 2) (ws := [w1, w2, w3, w4]) (by show 4 ≤ LEN; decide) (fun w h => hw w (List.mem_cons_of_mem _ (show w ∈ [w1, w2, w3, w4] ++ r from List.mem_append_left _ h)))
    simp only [haulierref31_order, len5, e0, chk15, Option.bind_some, Bool.not_false, cond_true, hs4, hn, orderS]
    by_cases h0 : w0 = [111, 114, 100, 101, 114]
    · rw [if_pos h0, h0]
      by_cases h1 : (numS w1 1000000000).2.1 = 0
      · by_cases h2 : (numS w2 1000000000).2.1 = 0
        · by_cases h3 : (sgnS w3).2.1 = 0
          · by_cases h4 : (numS w4 1000000000).2.1 = 0
            · simp only [h1, h2, h3, h4, ne_eq, not_true_eq_false, if_false, allA, if_true, Int.natCast_zero, Nat.zero_add, Nat.reduceAdd, show ¬ (0 : Int) = 2 by decide, show ¬ ((1 : Nat) : Int) = 2 by decide, show (((2 : Nat) : Int) = 2) = True by simp, show ¬ ((3 : Nat) : Int) = 2 by decide, List.nil_append, List.cons_append]
              subst h0
              rw [← hlp]
              rfl
            · simp [h1, h2, h3, h4, nz_bne h4, allA]
          · simp [h1, h2, h3, nz_bne h3, allA]
        · simp [h1, h2, nz_bne h2, allA]
      · simp [h1, nz_bne h1, allA]
    · have : (w0 == ([111, 114, 100, 101, 114] : B)) = false := by simpa using h0
      rw [if_neg h0]
      simp only [this]
      rfl
end Go.Rai

/- Plain laws of reading: commands. -/
set_option linter.unusedVariables false
set_option linter.unusedSimpArgs false
namespace Go.Rai
open Go
theorem sp_code (rest : B) : ∀ (f : Nat) (cur : B) (out : List Wd), ((sp f rest cur out).2.2.1 = 7 ∧ (sp f rest cur out).1 = []) ∨ ((sp f rest cur out).2.2.1 = 0 ∧ (sp f rest cur out).2.1 = 0) := by
  induction rest with
  | nil =>
    intro f cur out
    unfold sp
    by_cases h : cur = []
    · rw [if_pos h]; exact .inl ⟨rfl, rfl⟩
    · rw [if_neg h]; exact .inr ⟨rfl, rfl⟩
  | cons c r ih =>
    intro f cur out
    unfold sp
    by_cases h1 : c.toNat = 32
    · rw [if_pos h1]
      by_cases h : cur = []
      · rw [if_pos h]; exact .inl ⟨rfl, rfl⟩
      · rw [if_neg h]; exact ih _ _ _
    · rw [if_neg h1]
      by_cases h : c.toNat < 33 ∨ c.toNat > 126
      · rw [if_pos h]; exact .inl ⟨rfl, rfl⟩
      · rw [if_neg h]; exact ih _ _ _
theorem sp_size {N : Nat} (rest : B) : ∀ (f : Nat) (cur : B) (out : List Wd), cur.length + rest.length ≤ N → (∀ w ∈ out, w.2.1.length ≤ N) → (∀ w ∈ (sp f rest cur out).1, w.2.1.length ≤ N) ∧ (sp f rest cur out).1.length ≤ out.length + rest.length + 1 := by
  induction rest with
  | nil =>
    intro f cur out h1 h2
    unfold sp
    by_cases h : cur = []
    · rw [if_pos h]; exact ⟨by simp, by simp⟩
    · rw [if_neg h]
      refine ⟨fun w hw => ?_, by simp⟩
      simp at hw
      rcases hw with hw | rfl
      · exact h2 w hw
      · simpa using h1
  | cons c r ih =>
    intro f cur out h0 h2
    simp at h0
    unfold sp
    by_cases h1 : c.toNat = 32
    · rw [if_pos h1]
      by_cases h : cur = []
      · rw [if_pos h]; exact ⟨by simp, by simp⟩
      · rw [if_neg h]
        have := ih (f + cur.length + 1) [] (out ++ [((f : Int), cur, ())]) (by simp; omega) (fun w hw => by
          simp at hw
          rcases hw with hw | rfl
          · exact h2 w hw
          · show cur.length ≤ N; omega)
        refine ⟨this.1, Nat.le_trans this.2 ?_⟩
        simp
        omega
    · rw [if_neg h1]
      by_cases h : c.toNat < 33 ∨ c.toNat > 126
      · rw [if_pos h]; exact ⟨by simp, by simp⟩
      · rw [if_neg h]
        have := ih f (cur ++ [c]) out (by simp; omega) h2
        refine ⟨this.1, Nat.le_trans this.2 ?_⟩
        simp <;> omega
theorem words_code (s : B) : ((wordsS s).2.2.1 = 7 ∧ (wordsS s).1 = []) ∨ ((wordsS s).2.2.1 = 0 ∧ (wordsS s).2.1 = 0) := by
  unfold wordsS
  split
  · exact .inr ⟨rfl, rfl⟩
  · exact sp_code _ _ _ _
theorem words_size {s : B} (hs : s.length < LEN) : (∀ w ∈ (wordsS s).1, w.2.1.length ≤ LEN) ∧ (wordsS s).1.length ≤ LEN := by
  unfold wordsS
  split
  · exact ⟨by simp, by simp⟩
  · have := sp_size (N := LEN) s 0 [] [] (by simp; omega) (by simp)
    exact ⟨this.1, Nat.le_trans this.2 (by simp; omega)⟩

def readO (s : B) : Ord × Int × Unit := if (wordsS s).2.2.1 ≠ 0 then (Zo, 7, ()) else orderS (tx (wordsS s).1)
theorem paper_Read_eq {s : B} (hs : s.length < LEN) : paper_Read (s, ()) = some (readO s) := by
  obtain ⟨h1, h2⟩ := words_size hs
  unfold paper_Read readO
  refine bnd (word_Split_eq (Nat.le_of_lt hs)) ?_
  dsimp only
  rcases words_code s with ⟨h3, h4⟩ | ⟨h3, h4⟩
  · rw [h3]; rfl
  · rw [h3, paper_order_eq h2 h1]; rfl
theorem rwords_loop {r1 : List Wd × Int × Int × Unit} (hl : r1.1.length ≤ LEN) (rest : List Wd) : ∀ (pre : List Wd) (out : List B), r1.1 = pre ++ rest → out.length ≤ pre.length →
    iterW (haulierref31_Words_L125 r1) (((), (pre.length : Int), ()), out, ()) = some (out ++ tx rest, true, ()) := by
  induction rest with
  | nil =>
    intro pre out h ho
    have hd := dec_ltl pre ([] : List Wd)
    rw [← h] at hd
    rw [iterW_done (r := (out, true, ()))]
    · simp [tx]
    · simp only [haulierref31_Words_L125, hd]
      rfl
  | cons c r ih =>
    intro pre out h ho
    have hd := dec_ltl pre (c :: r)
    have hg := geti_mid pre c r
    rw [← h] at hd hg
    have hlen : r1.1.length = pre.length + (r.length + 1) := by rw [h]; simp
    unfold LEN at hl
    rw [iterW_next (s' := (((), ((pre ++ [c]).length : Int), ()), out ++ [c.2.1], ())), ih (pre ++ [c]) _ (by rw [h]; simp) (by simp; omega)]
    · simp [tx]
    · simp only [haulierref31_Words_L125, hd, hg, Option.bind_some]
      rw [w64_succ (by omega), chk_true (by simp; omega), chk_true (by simp; rw [LIM_val]; omega)]
      simp
def rwordsS (s : B) : List B × Bool × Unit := if (wordsS s).2.2.1 ≠ 0 ∨ (wordsS s).1 = [] then ([], false, ()) else (tx (wordsS s).1, true, ())
theorem ref_Words_eq {s : B} (hs : s.length < LEN) : haulierref31_Words (s, ()) = some (rwordsS s) := by
  obtain ⟨h1, h2⟩ := words_size hs
  unfold haulierref31_Words rwordsS
  refine bnd (ref_Split_eq (Nat.le_of_lt hs)) ?_
  dsimp only
  rcases words_code s with ⟨h3, h4⟩ | ⟨h3, h4⟩
  · rw [h3]; rfl
  · rw [h3]
    by_cases h5 : (wordsS s).1 = []
    · rw [h5]; rfl
    · rw [if_neg (by simpa using h5)]
      have h6 : (((wordsS s).1.length : Int) == 0) = false := by
        have : (wordsS s).1.length ≠ 0 := by simpa using h5
        apply nz_beq
        omega
      rw [h6]
      have := rwords_loop (r1 := wordsS s) h2 (wordsS s).1 [] [] rfl (by simp)
      simpa using this
theorem tx_size {ws : List Wd} (h : ∀ w ∈ ws, w.2.1.length ≤ LEN) : ∀ w ∈ tx ws, w.length ≤ LEN := by
  intro w hw
  unfold tx at hw
  simp only [List.mem_map] at hw
  obtain ⟨a, ha, rfl⟩ := hw
  exact h a ha
theorem ref31_Read_eq {s : B} (hs : s.length < LEN) : haulierref31_Read (s, ()) = some (readO s) := by
  obtain ⟨h1, h2⟩ := words_size hs
  unfold haulierref31_Read readO
  refine bnd (ref_Words_eq hs) ?_
  dsimp only
  unfold rwordsS
  rcases words_code s with ⟨h3, h4⟩ | ⟨h3, h4⟩
  · rw [h3]; rfl
  · rw [h3]
    by_cases h5 : (wordsS s).1 = []
    · rw [h5]; rfl
    · rw [if_neg (by simpa using h5)]
      simp only [Bool.not_true, cond_false]
      rw [ref_order_eq (by rw [tx_len]; exact h2) (tx_size h1)]
      rfl

abbrev Rec := Int × Int × Int × Unit
abbrev Cmd := Int × Int × Int × Int × Int × (List Sp) × Int × (List Rec) × Int × Int × Int × Int × (List Int) × Unit
abbrev Zc : Cmd := (0, 0, 0, 0, 0, [], 0, [], 0, 0, 0, 0, [], ())

theorem allA_len (k : Int) (ws : List B) : ∀ (i : Nat) (out : List Int), (allA k i ws out).2.1 = 0 → (allA k i ws out).1.length = out.length + ws.length := by
  induction ws with
  | nil => intro i out h; rfl
  | cons w r ih =>
    intro i out h
    unfold allA at h ⊢
    by_cases he : (if (i : Int) = k then sgnS w else numS w 1000000000).2.1 = 0
    · rw [if_neg (by simpa using he)] at h ⊢
      rw [ih _ _ h]
      simp
      omega
    · rw [if_pos he] at h
      exact absurd h he

/-- a command that is a name and some numbers -/
def countS (ws : List B) (n : Nat) (more : Bool) (mk : List Int → Cmd) : Cmd × Int × Unit :=
  if ws.length < n + 1 ∨ (ws.length > n + 1 ∧ more = false) then (Zc, 7, ()) else
  if (allA (-1) 0 (ws.drop 1) []).2.1 ≠ 0 then (Zc, (allA (-1) 0 (ws.drop 1) []).2.1, ()) else (mk (allA (-1) 0 (ws.drop 1) []).1, 0, ())
def mkCancel (l : List Int) : Cmd := (2, 0, 0, 0, 0, [], l.headD 0, [], 0, 0, 0, 0, [], ())
def mkTick (l : List Int) : Cmd := (4, 0, 0, 0, 0, [], 0, [], l.headD 0, 0, 0, 0, [], ())
def mkReplan (l : List Int) : Cmd := (5, 0, 0, 0, 0, [], 0, [], 0, l.getD 0 0, l.getD 1 0, l.getD 2 0, l.drop 3, ())
def mkShow (l : List Int) : Cmd := (6, 0, 0, 0, 0, [], 0, [], 0, 0, 0, 0, [], ())

/-- the common head of the four -/
theorem count_head {ws : List Wd} {n : Nat} {more : Bool} (hn : n ≤ 100) (hl : ws.length ≤ LEN) {K : Bool → Option (Cmd × Int × Unit)} :
    (let x1 : Bool := decide ((ws.length : Int) < (w64 ((n : Int) + 1)))
    Option.bind (bif !x1 then
      let x2 : Bool := decide ((ws.length : Int) > (w64 ((n : Int) + 1)))
      Option.bind (bif x2 then
        some (!more)
      else some false) fun (b3 : Bool) =>
      some b3
    else some true) K) = K (decide (ws.length < n + 1 ∨ (ws.length > n + 1 ∧ more = false))) := by
  rw [w64_succ (by omega)]
  by_cases h1 : ws.length < n + 1
  · have : decide ((ws.length : Int) < ((n + 1 : Nat) : Int)) = true := by simp; omega
    simp only [this, h1]
    rfl
  · have h2 : decide ((ws.length : Int) < ((n + 1 : Nat) : Int)) = false := by simp; omega
    by_cases h3 : ws.length > n + 1
    · have h4 : decide ((ws.length : Int) > ((n + 1 : Nat) : Int)) = true := by simp; omega
      simp only [h1, h2, h3, h4]
      cases more <;> rfl
    · have h4 : decide ((ws.length : Int) > ((n + 1 : Nat) : Int)) = false := by simp; omega
      simp only [h1, h2, h3, h4]
      cases more <;> rfl
theorem count_tail {ws : List Wd} {n : Nat} {more : Bool} {mk : List Int → Cmd} {f : (List Int) × Unit → Option (Cmd × Unit)} (hl : ws.length ≤ LEN) (hw : ∀ w ∈ ws, w.2.1.length ≤ LEN)
    (hf : ∀ l : List Int, n ≤ l.length → (more = false → l.length = n) → f (l, ()) = some (mk l, ())) :
    (bif decide (ws.length < n + 1 ∨ (ws.length > n + 1 ∧ more = false)) then
      some (Zc, 7, ())
    else
    chk (decide (0 ≤ (1 : Int) ∧ (1 : Int) ≤ (ws.length : Int))) <|
    let s5 : List (Int × (B) × Unit) := ws.drop (1 : Int).toNat
    (script_all (s5, ())).bind fun (r6 : (List Int) × Int × Unit) =>
    bif (r6.2.1 != 0) then
      some (Zc, r6.2.1, ())
    else
    (f (r6.1, ())).bind fun (r7 : Cmd × Unit) =>
    some (r7.1, 0, ())) = some (countS (tx ws) n more mk) := by
  unfold countS
  by_cases h : ws.length < n + 1 ∨ (ws.length > n + 1 ∧ more = false)
  · rw [decide_eq_true h, cond_true, if_pos (by rw [tx_len]; exact h)]
  · rw [decide_eq_false h, cond_false, if_neg (by rw [tx_len]; exact h)]
    have h1 : ¬ ws.length < n + 1 := fun e => h (.inl e)
    rw [chk_true (by simp; omega)]
    have hd : (tx ws).drop 1 = tx (ws.drop (1 : Int).toNat) := by simp [tx]
    rw [hd]
    have ha := script_all_eq (ws := ws.drop (1 : Int).toNat) (by simp; omega) (fun w hm => hw w (List.mem_of_mem_drop hm))
    refine bnd ha ?_
    by_cases he : (allA (-1) 0 (tx (ws.drop (1 : Int).toNat)) []).2.1 = 0
    · have hlen := allA_len _ _ _ _ he
      have hlen2 : (tx (ws.drop (1 : Int).toNat)).length = ws.length - 1 := by rw [tx_len]; simp
      simp only [List.length_nil, Nat.zero_add, hlen2] at hlen
      rw [if_neg (by simpa using he)]
      have : ((allA (-1) 0 (tx (ws.drop (1 : Int).toNat)) []).2.1 != 0) = false := by rw [he]; rfl
      unfold tx at this hlen ⊢
      simp only [this, cond_false]
      refine bnd (hf _ (by omega) (fun e => ?_)) rfl
      have : ¬ (ws.length > n + 1) := fun e2 => h (.inr ⟨e2, e⟩)
      omega
    · rw [if_pos he]
      have := nz_bne he
      unfold tx at this ⊢
      simp only [this, cond_true]

theorem counted_eq {ws : List Wd} (hl : ws.length ≤ LEN) (hw : ∀ w ∈ ws, w.2.1.length ≤ LEN) : script_counted (ws, 1, false, (), ()) = some (countS (tx ws) 1 false mkCancel) := by
  unfold script_counted
  refine (count_head (n := 1) (more := false) (by decide) hl).trans ?_
  refine count_tail hl hw ?_
  intro l h1 h2
  match l, h1 with
  | a :: r, _ => rfl
theorem counted1_eq {ws : List Wd} (hl : ws.length ≤ LEN) (hw : ∀ w ∈ ws, w.2.1.length ≤ LEN) : script_counted_v1 (ws, 1, false, (), ()) = some (countS (tx ws) 1 false mkTick) := by
  unfold script_counted_v1
  refine (count_head (n := 1) (more := false) (by decide) hl).trans ?_
  refine count_tail hl hw ?_
  intro l h1 h2
  match l, h1 with
  | a :: r, _ => rfl
theorem counted2_eq {ws : List Wd} (hl : ws.length ≤ LEN) (hw : ∀ w ∈ ws, w.2.1.length ≤ LEN) : script_counted_v2 (ws, 3, true, (), ()) = some (countS (tx ws) 3 true mkReplan) := by
  unfold script_counted_v2
  refine (count_head (n := 3) (more := true) (by decide) hl).trans ?_
  refine count_tail hl hw ?_
  intro l h1 h2
  match l, h1 with
  | a :: b :: c :: r, _ =>
    unfold script_Read_3
    refine bnd (a := a) rfl ?_
    refine bnd (a := b) rfl ?_
    refine bnd (a := c) rfl ?_
    rw [chk_true (by simp; omega)]
    rfl
theorem counted3_eq {ws : List Wd} (hl : ws.length ≤ LEN) (hw : ∀ w ∈ ws, w.2.1.length ≤ LEN) : script_counted_v3 (ws, 0, false, (), ()) = some (countS (tx ws) 0 false mkShow) := by
  unfold script_counted_v3
  refine (count_head (n := 0) (more := false) (by decide) hl).trans ?_
  refine count_tail hl hw ?_
  intro l h1 h2
  rfl
end Go.Rai

/- Plain laws of reading: records, and any command. -/
set_option linter.unusedVariables false
set_option linter.unusedSimpArgs false
namespace Go.Rai
open Go
def kindC (c : UInt8) : Option Int := if c = 82 then some 0 else if c = 65 then some 1 else if c = 87 then some 2 else if c = 68 then some 3 else none
def kindW (w : B) : Option Int := match w with
  | [c] => kindC c
  | _ => none
def kpair (k : Option Int) : Int × Bool × Unit := match k with
  | some k => (k, true, ())
  | none => (0, false, ())
theorem view_Kind_eq (c : UInt8) : view_Kind ((c.toNat : Int), ()) = some (kpair (kindC c)) := by
  have hf : sig_IndexByte.f (([82, 65, 87, 68] : B), (c.toNat : Int), ()) = some (Lib.indexByte [82, 65, 87, 68] (c.toNat : Int).toNat.toUInt8, ()) := rfl
  have hc : (c.toNat : Int).toNat.toUInt8 = c := by simp
  rw [hc] at hf
  unfold view_Kind
  refine bnd hf ?_
  dsimp only
  unfold kindC
  by_cases h1 : c = 82
  · subst h1; rfl
  · by_cases h2 : c = 65
    · subst h2; rfl
    · by_cases h3 : c = 87
      · subst h3; rfl
      · by_cases h4 : c = 68
        · subst h4; rfl
        · have g1 : ((82 : UInt8) == c) = false := by simpa using fun e => h1 e.symm
          have g2 : ((65 : UInt8) == c) = false := by simpa using fun e => h2 e.symm
          have g3 : ((87 : UInt8) == c) = false := by simpa using fun e => h3 e.symm
          have g4 : ((68 : UInt8) == c) = false := by simpa using fun e => h4 e.symm
          simp [Lib.indexByte, g1, g2, g3, g4, h1, h2, h3, h4, kpair]
theorem cne {c d : UInt8} (h : ¬ c = d) : ((d.toNat : Int) == (c.toNat : Int)) = false := by
  apply nz_beq
  intro e
  exact h (u8_ext (by omega))
theorem ref09_Kind_eq (c : UInt8) : haulierref09_Kind ((c.toNat : Int), ()) = some (kpair (kindC c)) := by
  have e0 : geti ([82, 65, 87, 68] : B) 0 = some 82 := rfl
  have e1 : geti ([82, 65, 87, 68] : B) 1 = some 65 := rfl
  have e2 : geti ([82, 65, 87, 68] : B) 2 = some 87 := rfl
  have e3 : geti ([82, 65, 87, 68] : B) 3 = some 68 := rfl
  unfold haulierref09_Kind kindC
  simp only [e0, e1, e2, e3, Option.bind_some]
  by_cases h1 : c = 82
  · subst h1; rfl
  · by_cases h2 : c = 65
    · subst h2; rfl
    · by_cases h3 : c = 87
      · subst h3; rfl
      · by_cases h4 : c = 68
        · subst h4; rfl
        · simp only [cne h1, cne h2, cne h3, cne h4, cond_false, if_neg h1, if_neg h2, if_neg h3, if_neg h4]
          rfl

def recsR (ws : List B) (id : Int) (out : List Rec) : Cmd × Int × Unit := match ws with
  | [] => ((3, 0, 0, 0, 0, [], id, out, 0, 0, 0, 0, [], ()), 0, ())
  | [_] => (Zc, 2, ())
  | w :: v :: r => match kindW w with
    | none => (Zc, 2, ())
    | some k => if (spanS v).2.1 ≠ 0 then (Zc, (spanS v).2.1, ()) else recsR r id (out ++ [(k, (spanS v).1.1, (spanS v).1.2.1, ())])
abbrev Q13 := Int × Int × Int × Int × Int × Unit × Int × Unit × Int × Int × Int × Int × Unit × Unit
abbrev q3 (id : Int) : Q13 := (3, 0, 0, 0, 0, (), id, (), 0, 0, 0, 0, (), ())

theorem w64_two {n : Nat} (h : n < 9000000000000000000) : w64 ((n : Int) + 2) = ((n + 2 : Nat) : Int) := by
  rw [w64_id] <;> omega
theorem rec_loop {s : List Wd} {id : Int} {x : Q13} (hl : s.length ≤ LEN) (hw : ∀ w ∈ s, w.2.1.length ≤ LEN) : ∀ (rest : List Wd) (pre : List Wd) (out : List Rec), s = pre ++ rest → out.length ≤ pre.length → rest.length % 2 = 0 →
    iterW (script_recorded_L253 (s, ())) (((pre.length : Int), ()), x, q3 id, out, ()) = some (recsR (tx rest) id out)
  | [], pre, out, h, ho, _ => by
    have hd := dec_ltl pre ([] : List Wd)
    rw [← h] at hd
    rw [iterW_done (r := ((3, 0, 0, 0, 0, [], id, out, 0, 0, 0, 0, [], ()), 0, ()))]
    · rfl
    · simp only [script_recorded_L253, hd]
      rfl
  | [w], pre, out, h, ho, he => by simp at he
  | w :: v :: r, pre, out, h, ho, hev => by
    have hd := dec_ltl pre (w :: v :: r)
    have hg := geti_mid pre w (v :: r)
    have hg1 := geti_mid1 pre w v r
    rw [← h] at hd hg hg1
    have hv := word_Span_eq (hw v (by rw [h]; simp))
    have hlen : s.length = pre.length + (r.length + 2) := by rw [h]; simp
    have hl' := hl
    unfold LEN at hl'
    have hw1 : w64 ((pre.length : Int) + 1) = (pre.length : Int) + 1 := by rw [w64_id] <;> omega
    simp only [tx_cons, recsR]
    match hk : w.2.1 with
    | [] =>
      rw [iterW_done (r := (Zc, 2, ()))]
      · rfl
      · simp only [script_recorded_L253, hd, hg, Option.bind_some, hk]
        rfl
    | [c] =>
      have hvk := view_Kind_eq c
      have hg0 : geti [c] 0 = some c := rfl
      have h1 : (((([c] : B).length : Nat) : Int) != 1) = false := rfl
      cases hkc : kindC c with
      | none =>
        rw [hkc] at hvk
        simp only [kindW, hkc]
        rw [iterW_done (r := (Zc, 2, ()))]
        simp only [script_recorded_L253, hd, hg, Option.bind_some, hk, h1, hg0, hvk, kpair]
        simp
      | some k =>
        rw [hkc] at hvk
        simp only [kindW, hkc]
        by_cases he : (spanS v.2.1).2.1 = 0
        · rw [if_neg (by simpa using he), iterW_next (s' := ((((pre ++ [w, v]).length : Int), ()), x, q3 id, out ++ [(k, (spanS v.2.1).1.1, (spanS v.2.1).1.2.1, ())], ())), rec_loop hl hw r (pre ++ [w, v]) _ (by rw [h]; simp) (by simp; omega) (by simp at hev; omega)]
          simp only [script_recorded_L253, hd, hg, Option.bind_some, hk, h1, hg0, hvk, kpair, hw1, hg1, hv]
          rw [w64_two (by omega), chk_true (by simp; rw [LIM_val]; omega)]
          simp [he]
        · rw [if_pos he, iterW_done (r := (Zc, (spanS v.2.1).2.1, ()))]
          simp only [script_recorded_L253, hd, hg, Option.bind_some, hk, h1, hg0, hvk, kpair, hw1, hg1, hv]
          simp [he, nz_bne he]
    | c :: d :: e =>
      rw [iterW_done (r := (Zc, 2, ()))]
      · rfl
      · have h1 : (((((c :: d :: e) : B).length : Nat) : Int) != 1) = true := nz_bne (by simp; omega)
        simp only [script_recorded_L253, hd, hg, Option.bind_some, hk, h1]
        simp
theorem rrec_loop {s : List B} {id : Int} {x : Q13} (hl : s.length ≤ LEN) (hw : ∀ w ∈ s, w.length ≤ LEN) : ∀ (rest : List B) (pre : List B) (out : List Rec), s = pre ++ rest → out.length ≤ pre.length → rest.length % 2 = 0 →
    iterW (haulierref42_record_L253 (s, ())) (((pre.length : Int), ()), x, q3 id, out, ()) = some (recsR rest id out)
  | [], pre, out, h, ho, _ => by
    have hd := dec_ltl pre ([] : List B)
    rw [← h] at hd
    rw [iterW_done (r := ((3, 0, 0, 0, 0, [], id, out, 0, 0, 0, 0, [], ()), 0, ()))]
    · rfl
    · simp only [haulierref42_record_L253, hd]
      rfl
  | [w], pre, out, h, ho, he => by simp at he
  | w :: v :: r, pre, out, h, ho, hev => by
    have hd := dec_ltl pre (w :: v :: r)
    have hg := geti_mid pre w (v :: r)
    have hg1 := geti_mid1 pre w v r
    rw [← h] at hd hg hg1
    have hv := ref_Span_eq (hw v (by rw [h]; simp))
    have hlen : s.length = pre.length + (r.length + 2) := by rw [h]; simp
    have hl' := hl
    unfold LEN at hl'
    have hw1 : w64 ((pre.length : Int) + 1) = (pre.length : Int) + 1 := by rw [w64_id] <;> omega
    simp only [recsR]
    match w, h, hg, hd, hg1 with
    | [], h, hg, hd, hg1 =>
      rw [iterW_done (r := (Zc, 2, ()))]
      · rfl
      · simp only [haulierref42_record_L253, hd, hg, Option.bind_some]
        rfl
    | [c], h, hg, hd, hg1 =>
      have hvk := ref09_Kind_eq c
      have hg0 : geti [c] 0 = some c := rfl
      have h1 : (((([c] : B).length : Nat) : Int) == 1) = true := rfl
      cases hkc : kindC c with
      | none =>
        rw [hkc] at hvk
        simp only [kindW, hkc]
        rw [iterW_done (r := (Zc, 2, ()))]
        simp only [haulierref42_record_L253, hd, hg, Option.bind_some, h1, hg0, hvk, kpair]
        simp [joinS]
      | some k =>
        rw [hkc] at hvk
        simp only [kindW, hkc]
        by_cases he : (spanS v).2.1 = 0
        · rw [if_neg (by simpa using he), iterW_next (s' := ((((pre ++ [[c], v]).length : Int), ()), x, q3 id, out ++ [(k, (spanS v).1.1, (spanS v).1.2.1, ())], ())), rrec_loop hl hw r (pre ++ [[c], v]) _ (by rw [h]; simp) (by simp; omega) (by simp at hev; omega)]
          simp only [haulierref42_record_L253, hd, hg, Option.bind_some, h1, hg0, hvk, kpair, hw1, hg1, hv, cond_true, joinS, ne_eq, reduceCtorEq, not_false_eq_true, decide_true, Bool.not_true, cond_false]
          rw [w64_two (by omega), chk_true (by simp; rw [LIM_val]; omega)]
          simp [he]
        · rw [if_pos he, iterW_done (r := (Zc, (spanS v).2.1, ()))]
          simp only [haulierref42_record_L253, hd, hg, Option.bind_some, h1, hg0, hvk, kpair, hw1, hg1, hv, cond_true, joinS]
          simp [he, nz_bne he]
    | c :: d :: e, h, hg, hd, hg1 =>
      rw [iterW_done (r := (Zc, 2, ()))]
      · rfl
      · have h1 : (((((c :: d :: e) : B).length : Nat) : Int) == 1) = false := nz_beq (by simp; omega)
        simp only [haulierref42_record_L253, hd, hg, Option.bind_some, h1]
        simp [joinS]

def recordS (ws : List B) : Cmd × Int × Unit := match ws with
  | _ :: w1 :: r => if r.length % 2 ≠ 0 then (Zc, 7, ()) else if (numS w1 1000000000).2.1 ≠ 0 then (Zc, (numS w1 1000000000).2.1, ()) else recsR r (numS w1 1000000000).1 []
  | _ => (Zc, 7, ())
theorem odd_eq {n : Nat} : ((((n + 2 : Nat) : Int)).tmod 2 != 0) = decide (n % 2 ≠ 0) := by
  rw [Int.tmod_eq_emod_of_nonneg (by omega)]
  by_cases h : n % 2 = 0
  · have : (((n + 2 : Nat) : Int)) % 2 = 0 := by omega
    rw [this]; simp [h]
  · rw [nz_bne (by omega)]
    simp [h]
theorem recorded_eq {ws : List Wd} (hl : ws.length ≤ LEN) (hw : ∀ w ∈ ws, w.2.1.length ≤ LEN) : script_recorded (ws, ()) = some (recordS (tx ws)) := by
  match ws, hl, hw with
  | [], _, _ => rfl
  | [w], _, _ => rfl
  | w0 :: w1 :: r, hl, hw =>
    have hlt : decide ((((w0 :: w1 :: r).length : Nat) : Int) < 2) = false := by simp; omega
    have hodd : ((((w0 :: w1 :: r).length : Nat) : Int).tmod 2 != 0) = decide (r.length % 2 ≠ 0) := odd_eq
    have hs : ((w0 :: w1 :: r).take (2 : Int).toNat).drop (1 : Int).toNat = [w1] := rfl
    have ha := script_all_eq (ws := [w1]) (by show 1 ≤ LEN; decide) (fun w h => hw w (by simp at h; simp [h]))
    have hlp := fun id x => rec_loop (id := id) (x := x) hl hw r [w0, w1] [] rfl (by simp)
    simp only [script_recorded, hlt, hodd, Bool.not_false, cond_true, Option.bind_some, tx_cons, recordS, tx_len]
    by_cases h2 : r.length % 2 = 0
    · rw [decide_eq_false (by simpa using h2), cond_false, if_neg (by simpa using h2), chk_true (by simp; omega)]
      simp only [hs, ha, Option.bind_some, List.map_cons, List.map_nil, allA, show ¬ ((0 : Nat) : Int) = -1 by decide, if_false]
      by_cases he : (numS w1.2.1 1000000000).2.1 = 0
      · simp only [he, ne_eq, not_true_eq_false, if_false]
        rw [← hlp _ (0, 0, 0, 0, 0, (), 0, (), 0, 0, 0, 0, (), ()) h2]
        rfl
      · simp [he, nz_bne he]
    · rw [decide_eq_true h2, cond_true, if_pos h2]
theorem ref_record_eq {ws : List B} (hl : ws.length ≤ LEN) (hw : ∀ w ∈ ws, w.length ≤ LEN) : haulierref42_record (ws, ()) = some (recordS ws) := by
  have hL : LEN ≤ LIM := by decide
  match ws, hl, hw with
  | [], _, _ => rfl
  | [w], _, _ => rfl
  | w0 :: w1 :: r, hl, hw =>
    have hlt : decide ((((w0 :: w1 :: r).length : Nat) : Int) < 2) = false := by simp; omega
    have hodd : ((((w0 :: w1 :: r).length : Nat) : Int).tmod 2 != 0) = decide (r.length % 2 ≠ 0) := odd_eq
    have hg : geti (w0 :: w1 :: r) 1 = some w1 := rfl
    have ha := ref_Number_eq (s := w1) (most := 1000000000) (Nat.le_trans (hw w1 (by simp)) hL) (by decide)
    have hlp := fun id x => rrec_loop (id := id) (x := x) hl hw r [w0, w1] [] rfl (by simp)
    simp only [haulierref42_record, hlt, hodd, Bool.not_false, cond_true, Option.bind_some, recordS, hg, ha]
    by_cases h2 : r.length % 2 = 0
    · rw [decide_eq_false (by simpa using h2), cond_false, if_neg (by simpa using h2)]
      by_cases he : (numS w1 1000000000).2.1 = 0
      · simp only [he, ne_eq, not_true_eq_false, if_false]
        rw [← hlp _ (0, 0, 0, 0, 0, (), 0, (), 0, 0, 0, 0, (), ()) h2]
        rfl
      · simp [he, nz_bne he]
    · rw [decide_eq_true h2, cond_true, if_pos h2]
end Go.Rai

/- Plain laws of reading: any command. -/
set_option linter.unusedVariables false
set_option linter.unusedSimpArgs false
namespace Go.Rai
open Go
def ofOrd (o : Ord) : Cmd := (1, o.1, o.2.1, o.2.2.1, o.2.2.2.1, o.2.2.2.2.1, 0, [], 0, 0, 0, 0, [], ())
/-- the command that words are -/
def cmdS (ws : List B) : Cmd × Int × Unit := match ws with
  | [] => (Zc, 7, ())
  | w :: r => if w = [111, 114, 100, 101, 114] then if (orderS (w :: r)).2.1 ≠ 0 then (Zc, (orderS (w :: r)).2.1, ()) else (ofOrd (orderS (w :: r)).1, 0, ())
    else if w = [99, 97, 110, 99, 101, 108] then countS (w :: r) 1 false mkCancel
    else if w = [114, 101, 99, 111, 114, 100] then recordS (w :: r)
    else if w = [116, 105, 99, 107] then countS (w :: r) 1 false mkTick
    else if w = [114, 101, 112, 108, 97, 110] then countS (w :: r) 3 true mkReplan
    else if w = [115, 104, 111, 119] then countS (w :: r) 0 false mkShow
    else (Zc, 7, ())
def readS (s : B) : Cmd × Int × Unit := if (wordsS s).2.2.1 ≠ 0 then (Zc, 7, ()) else cmdS (tx (wordsS s).1)

theorem bne_B {a b : B} (h : ¬ a = b) : (a == b) = false := by simpa using h
theorem beq_B {a b : B} (h : a = b) : (a == b) = true := by simpa using h

theorem script_Read_eq {s : B} (hs : s.length < LEN) : script_Read (s, ()) = some (readS s) := by
  obtain ⟨h1, h2⟩ := words_size hs
  unfold script_Read readS
  refine bnd (word_Split_eq (Nat.le_of_lt hs)) ?_
  dsimp only
  have hp := paper_Read_eq hs
  unfold readO at hp
  rcases words_code s with ⟨h3, h4⟩ | ⟨h3, h4⟩
  · rw [h3]; rfl
  · rw [h3] at hp ⊢
    match hws : (wordsS s).1, h1, h2 with
    | [], _, _ => rfl
    | w :: r, h1, h2 =>
      have hg : geti (w :: r) 0 = some w := rfl
      have hz : ((((w :: r : List Wd).length : Nat) : Int) == 0) = false := nz_beq (by simp; omega)
      rw [hws] at hp
      simp only [ne_eq, not_true_eq_false, if_false] at hp
      simp only [hz, hg, hp, Option.bind_some, counted_eq h2 h1, counted1_eq h2 h1, counted2_eq h2 h1, counted3_eq h2 h1, recorded_eq h2 h1, ne_eq, not_true_eq_false, if_false, bne_self_eq_false, Bool.not_false, cond_true, cond_false]
      rw [chk_true (by simp)]
      rw [tx_cons]
      unfold cmdS
      by_cases g1 : w.2.1 = [111, 114, 100, 101, 114]
      · simp only [beq_B g1, if_pos g1, cond_true, ← tx_cons]
        by_cases he : (orderS (tx (w :: r))).2.1 = 0
        · simp [he, ofOrd]
        · simp [he, nz_bne he]
      · by_cases g2 : w.2.1 = [99, 97, 110, 99, 101, 108]
        · simp only [bne_B g1, if_neg g1, beq_B g2, if_pos g2, cond_true, cond_false]
        · by_cases g3 : w.2.1 = [114, 101, 99, 111, 114, 100]
          · simp only [bne_B g1, if_neg g1, bne_B g2, if_neg g2, beq_B g3, if_pos g3, cond_true, cond_false]
          · by_cases g4 : w.2.1 = [116, 105, 99, 107]
            · simp only [bne_B g1, if_neg g1, bne_B g2, if_neg g2, bne_B g3, if_neg g3, beq_B g4, if_pos g4, cond_true, cond_false]
            · by_cases g5 : w.2.1 = [114, 101, 112, 108, 97, 110]
              · simp only [bne_B g1, if_neg g1, bne_B g2, if_neg g2, bne_B g3, if_neg g3, bne_B g4, if_neg g4, beq_B g5, if_pos g5, cond_true, cond_false]
              · by_cases g6 : w.2.1 = [115, 104, 111, 119]
                · simp only [bne_B g1, if_neg g1, bne_B g2, if_neg g2, bne_B g3, if_neg g3, bne_B g4, if_neg g4, bne_B g5, if_neg g5, beq_B g6, if_pos g6, cond_true, cond_false]
                · simp only [bne_B g1, if_neg g1, bne_B g2, if_neg g2, bne_B g3, if_neg g3, bne_B g4, if_neg g4, bne_B g5, if_neg g5, bne_B g6, if_neg g6, cond_true, cond_false]

theorem chk0 {α : Type} {a : α} {r : List α} {R : Type} {x : Option R} : chk (decide (0 ≤ (0 : Int) ∧ (0 : Int) < (((a :: r).length : Nat) : Int))) x = x := chk_true (by simp)
theorem chk1 {α : Type} {a : α} {r : List α} {R : Type} {x : Option R} : chk (decide (0 ≤ (1 : Int) ∧ (1 : Int) ≤ (((a :: r).length : Nat) : Int))) x = x := chk_true (by simp; omega)
theorem leneq {α : Type} {l : List α} {n : Nat} : (((l.length : Nat) : Int) == (n : Int)) = decide (l.length = n) := by
  by_cases h : l.length = n
  · rw [h]; simp
  · rw [nz_beq (by omega)]; simp [h]
theorem ref_Read_eq {s : B} (hs : s.length < LEN) : haulierref42_Read (s, ()) = some (readS s) := by
  obtain ⟨h1, h2⟩ := words_size hs
  unfold haulierref42_Read readS
  refine bnd (ref_Words_eq hs) ?_
  dsimp only
  unfold rwordsS
  have hp := ref31_Read_eq hs
  unfold readO at hp
  rcases words_code s with ⟨h3, h4⟩ | ⟨h3, h4⟩
  · rw [h3]; rfl
  · rw [h3] at hp ⊢
    match hws : (wordsS s).1, h1, h2 with
    | [], _, _ => rfl
    | w :: r, h1, h2 =>
      rw [if_neg (by simp)]
      have hg : geti (tx (w :: r)) 0 = some w.2.1 := rfl
      have hsz := tx_size h1
      have hln : (tx (w :: r)).length ≤ LEN := by rw [tx_len]; exact h2
      have hn := ref_Numbers_eq (k := -1) (ws := (tx (w :: r)).drop (1 : Int).toNat) (by simp; omega) (fun w hm => hsz w (List.mem_of_mem_drop hm))
      rw [hws] at hp
      simp only [ne_eq, not_true_eq_false, if_false] at hp
      rw [show (1 : Int).toNat = 1 from rfl] at hn
      have l1 : ((((tx (w :: r)).length : Nat) : Int) == 1) = decide (r.length = 0) := by
        rw [show (1 : Int) = ((1 : Nat) : Int) from rfl, leneq, tx_len]; simp
      have l2 : ((((tx (w :: r)).length : Nat) : Int) == 2) = decide (r.length = 1) := by
        rw [show (2 : Int) = ((2 : Nat) : Int) from rfl, leneq, tx_len]; simp
      have l4 : decide ((((tx (w :: r)).length : Nat) : Int) ≥ 4) = decide (r.length ≥ 3) := by
        rw [tx_len]; simp; omega
      have hlen := allA_len (-1) ((tx (w :: r)).drop 1) 0 []
      have hdl : ((tx (w :: r)).drop 1).length = r.length := by simp [tx]
      rw [hdl] at hlen
      simp only [List.length_nil, Nat.zero_add] at hlen
      simp only [Bool.not_true, cond_false, hg, hp, Option.bind_some, ref_record_eq hln hsz, l1, l2, l4, hn, show (1 : Int).toNat = 1 from rfl]
      rw [tx_cons] at *
      simp only [chk0, chk1, ne_eq, not_true_eq_false, if_false]
      unfold cmdS
      by_cases g1 : w.2.1 = [111, 114, 100, 101, 114]
      · simp only [beq_B g1, if_pos g1, cond_true]
        by_cases he : (orderS (w.2.1 :: tx r)).2.1 = 0
        · simp [he, ofOrd]
        · simp [he, nz_bne he]
      · by_cases g3 : w.2.1 = [114, 101, 99, 111, 114, 100]
        · simp only [bne_B g1, if_neg g1, beq_B g3, if_pos g3, cond_true, cond_false]
          rw [if_neg (by rw [g3]; decide)]
        · by_cases g6 : w.2.1 = [115, 104, 111, 119]
          · have g2 : ¬ w.2.1 = [99, 97, 110, 99, 101, 108] := by rw [g6]; decide
            have g4 : ¬ w.2.1 = [116, 105, 99, 107] := by rw [g6]; decide
            have g5 : ¬ w.2.1 = [114, 101, 112, 108, 97, 110] := by rw [g6]; decide
            simp only [bne_B g1, if_neg g1, bne_B g2, if_neg g2, bne_B g3, if_neg g3, bne_B g4, if_neg g4, bne_B g5, if_neg g5, beq_B g6, if_pos g6, cond_true, cond_false, Option.bind_some, Bool.not_false, countS]
            by_cases hr : r.length = 0
            · have hr0 : r = [] := List.eq_nil_of_length_eq_zero hr
              subst hr0
              rfl
            · rw [decide_eq_false hr, cond_false, if_pos (by simp [tx]; omega)]
          · by_cases g2 : w.2.1 = [99, 97, 110, 99, 101, 108]
            · have g4 : ¬ w.2.1 = [116, 105, 99, 107] := by rw [g2]; decide
              have g5 : ¬ w.2.1 = [114, 101, 112, 108, 97, 110] := by rw [g2]; decide
              simp only [bne_B g1, if_neg g1, beq_B g2, if_pos g2, bne_B g3, if_neg g3, bne_B g4, if_neg g4, bne_B g5, if_neg g5, bne_B g6, if_neg g6, cond_true, cond_false, Option.bind_some, Bool.not_false, countS]
              by_cases hr : r.length = 1
              · rw [decide_eq_true hr, if_neg (by simp [tx]; omega)]
                simp only [Bool.not_true, cond_false, cond_true, Option.bind_some]
                by_cases he : (allA (-1) 0 (List.drop 1 (w.2.1 :: tx r)) []).2.1 = 0
                · have hl := hlen he
                  rw [if_neg (by simpa using he), he]
                  simp only [bne_self_eq_false, cond_false]
                  rw [hr] at hl
                  match hal : (allA (-1) 0 (List.drop 1 (w.2.1 :: tx r)) []).1, hl with
                  | [a], _ => rfl
                · rw [if_pos he, nz_bne he]
                  rfl
              · rw [decide_eq_false hr, if_pos (by simp [tx]; omega)]
                rfl
            · by_cases g4 : w.2.1 = [116, 105, 99, 107]
              · have g5 : ¬ w.2.1 = [114, 101, 112, 108, 97, 110] := by rw [g4]; decide
                simp only [bne_B g1, if_neg g1, bne_B g2, if_neg g2, bne_B g3, if_neg g3, beq_B g4, if_pos g4, bne_B g5, if_neg g5, bne_B g6, if_neg g6, cond_true, cond_false, Option.bind_some, Bool.not_false, countS]
                by_cases hr : r.length = 1
                · rw [decide_eq_true hr, if_neg (by simp [tx]; omega)]
                  simp only [Bool.not_true, cond_false, cond_true, Option.bind_some]
                  by_cases he : (allA (-1) 0 (List.drop 1 (w.2.1 :: tx r)) []).2.1 = 0
                  · have hl := hlen he
                    rw [if_neg (by simpa using he), he]
                    simp only [bne_self_eq_false, cond_false]
                    rw [hr] at hl
                    match hal : (allA (-1) 0 (List.drop 1 (w.2.1 :: tx r)) []).1, hl with
                    | [a], _ => rfl
                  · rw [if_pos he, nz_bne he]
                    rfl
                · rw [decide_eq_false hr, if_pos (by simp [tx]; omega)]
                  rfl
              · by_cases g5 : w.2.1 = [114, 101, 112, 108, 97, 110]
                · simp only [bne_B g1, if_neg g1, bne_B g2, if_neg g2, bne_B g3, if_neg g3, bne_B g4, if_neg g4, beq_B g5, if_pos g5, bne_B g6, if_neg g6, cond_true, cond_false, Option.bind_some, Bool.not_false, countS]
                  by_cases hr : r.length ≥ 3
                  · rw [decide_eq_true hr, if_neg (by simp [tx]; omega)]
                    simp only [Bool.not_true, cond_false, cond_true, Option.bind_some]
                    by_cases he : (allA (-1) 0 (List.drop 1 (w.2.1 :: tx r)) []).2.1 = 0
                    · have hl := hlen he
                      rw [if_neg (by simpa using he), he]
                      simp only [bne_self_eq_false, cond_false]
                      rw [← hl] at hr
                      match hal : (allA (-1) 0 (List.drop 1 (w.2.1 :: tx r)) []).1, hr with
                      | a :: b :: c :: d, _ =>
                        refine bnd (a := a) rfl ?_
                        refine bnd (a := b) rfl ?_
                        refine bnd (a := c) rfl ?_
                        rw [chk_true (by simp; omega)]
                        rfl
                    · rw [if_pos he, nz_bne he]
                      rfl
                  · rw [decide_eq_false hr, if_pos (by simp [tx]; omega)]
                    rfl
                · simp only [bne_B g1, if_neg g1, bne_B g2, if_neg g2, bne_B g3, if_neg g3, bne_B g4, if_neg g4, bne_B g5, if_neg g5, bne_B g6, if_neg g6, cond_true, cond_false, Option.bind_some, Bool.not_false]
end Go.Rai

/- Plain laws of writing: numbers, words, rows. -/
set_option linter.unusedVariables false
set_option linter.unusedSimpArgs false
namespace Go.Rai
open Go
theorem digits_len (u : Nat) : ∀ k : Nat, 1 ≤ k → u < 10 ^ k → (Lib.decDigits u).length ≤ k := by
  induction u using Nat.strongRecOn with
  | _ u ih =>
    intro k hk hu
    rw [Lib.decDigits]
    by_cases h : u < 10
    · rw [dif_pos h]; exact hk
    · rw [dif_neg h]
      match k, hk with
      | 1, _ => simp at hu; omega
      | k + 2, _ =>
        have := ih (u / 10) (by omega) (k + 1) (by omega) (by rw [Nat.pow_succ] at hu; omega)
        simp
        omega
abbrev I64 (n : Int) : Prop := -9223372036854775808 ≤ n ∧ n ≤ 9223372036854775807
theorem nat_small {n : Int} (h : I64 n) : n.natAbs < 10 ^ 20 := by
  have : (10 : Nat) ^ 20 = 100000000000000000000 := by decide
  rw [this]
  omega
theorem itoa_len {n : Int} (h : I64 n) : (Lib.itoa n).length ≤ 21 := by
  have hb := nat_small h
  unfold Lib.itoa
  split
  · have := digits_len n.natAbs 20 (by omega) hb
    simp
    omega
  · have := digits_len n.toNat 20 (by omega) (by rw [show n.toNat = n.natAbs by omega]; exact hb)
    omega
theorem word_Print_eq {n : Int} (h : I64 n) : word_Print (n, ()) = some (Lib.itoa n, ()) := by
  have hf : sig_Itoa.f (n, ()) = some (Lib.itoa n, ()) := by
    show (bif decide (-9223372036854775808 ≤ n ∧ n ≤ 9223372036854775807) then some (Lib.itoa n, ()) else none) = _
    rw [decide_eq_true h]
    rfl
  unfold word_Print
  exact bnd hf rfl
theorem tdiv_abs (m : Int) : (m.tdiv 10).natAbs = m.natAbs / 10 := by rw [Int.natAbs_tdiv]; rfl
theorem tmod_abs (m : Int) : (m.tmod 10).natAbs = m.natAbs % 10 := by rw [Int.natAbs_tmod]; rfl
theorem u8_wrap {n : Nat} (h : n < 10) : UInt8.ofNat (IntKind.u8.wrap (w64 (48 + (n : Int)))).toNat = UInt8.ofNat (48 + n) := by
  rw [w64_id (by omega) (by omega)]
  have : IntKind.u8.wrap (48 + (n : Int)) = ((48 + n : Nat) : Int) := by
    rw [IntKind.wrap_u8]
    omega
  rw [this]
  rfl
theorem print_round {acc : B} {m k : Int} (hk : k < 20) (hm : I64 m) (ha : acc.length ≤ 1000) :
    haulierref06_Print_L61 ((acc, m, k, ()), ()) = if m.natAbs < 10 then some (.inr (.inl ((UInt8.ofNat (48 + m.natAbs % 10) :: acc, ()), ()))) else some (.inl ((UInt8.ofNat (48 + m.natAbs % 10) :: acc, m.tdiv 10, w64 (k + 1), ()), ())) := by
  have h1 := tdiv_abs m
  have h2 := tmod_abs m
  have hd : w64 (m.tdiv 10) = m.tdiv 10 := w64_id (by omega) (by omega)
  have hsgn : (if m.tmod 10 < 0 then w64 (0 - m.tmod 10) else m.tmod 10) = ((m.natAbs % 10 : Nat) : Int) := by
    split
    · rw [w64_id (by omega) (by omega)]; omega
    · omega
  have hz : (m.tdiv 10 == 0) = decide (m.natAbs < 10) := by
    by_cases h : m.natAbs < 10
    · have : m.tdiv 10 = 0 := by omega
      rw [this]; simp [h]
    · rw [nz_beq (by omega)]; simp [h]
  have hdec : decide (k < 20) = true := decide_eq_true hk
  simp only [haulierref06_Print_L61, hdec, cond_true, hd, hz]
  refine jn (a := ((((m.natAbs % 10 : Nat) : Int), ()), ())) ?_ ?_
  · rw [← hsgn]
    by_cases h : m.tmod 10 < 0 <;> simp [h]
  · have hb : bytesOf [IntKind.u8.wrap (w64 (48 + ((m.natAbs % 10 : Nat) : Int)))] = [UInt8.ofNat (48 + m.natAbs % 10)] := by
      simp only [bytesOf, List.map_cons, List.map_nil, u8_wrap (show m.natAbs % 10 < 10 by omega)]
    simp only [hb]
    rw [chk_true (by simp; rw [LIM_val]; omega)]
    by_cases h : m.natAbs < 10 <;> simp [h]
theorem print_loop (u : Nat) : ∀ (m : Int) (k : Nat) (acc : B), m.natAbs = u → I64 m → acc.length ≤ k → k < 20 → u < 10 ^ (20 - k) →
    iterW haulierref06_Print_L61 ((acc, m, (k : Int), ()), ()) = some (.inl ((Lib.decDigits u ++ acc, ()), ())) := by
  induction u using Nat.strongRecOn with
  | _ u ih =>
    intro m k acc hu hm ha hk hb
    have hrd := print_round (acc := acc) (k := (k : Int)) (by omega) hm (by omega)
    rw [hu] at hrd
    rw [Lib.decDigits]
    by_cases h : u < 10
    · rw [if_pos h] at hrd
      rw [iterW_done hrd, dif_pos h, Nat.mod_eq_of_lt h]
      rfl
    · rw [if_neg h, w64_succ (by omega)] at hrd
      rw [iterW_next hrd, dif_neg h]
      have h1 := tdiv_abs m
      have hk2 : k + 1 < 20 := by
        apply Nat.lt_of_not_le
        intro hge
        have : 20 - k = 1 := by omega
        rw [this] at hb
        omega
      have hb2 : u / 10 < 10 ^ (20 - (k + 1)) := by
        have : 20 - k = (20 - (k + 1)) + 1 := by omega
        rw [this, Nat.pow_succ] at hb
        omega
      have := ih (u / 10) (by omega) (m.tdiv 10) (k + 1) (UInt8.ofNat (48 + u % 10) :: acc) (by rw [h1, hu]) ⟨by omega, by omega⟩ (by simp; omega) hk2 hb2
      rw [this]
      simp
theorem ref_Print_eq {n : Int} (h : I64 n) : haulierref06_Print (n, ()) = some (Lib.itoa n, ()) := by
  have hl := print_loop n.natAbs n 0 [] rfl h (by simp) (by decide) (nat_small h)
  unfold haulierref06_Print
  refine jn hl ?_
  have hlen := digits_len n.natAbs 20 (by omega) (nat_small h)
  unfold Lib.itoa
  by_cases hn : n < 0
  · simp only [hn, decide_true, cond_true, if_true, List.append_nil]
    rw [chk_true (by simp; rw [LIM_val]; omega)]
    rfl
  · simp only [hn, decide_false, cond_false, if_false, List.append_nil]
    rw [show n.natAbs = n.toNat by omega]

/-! words into a text -/
def tails (r : List B) : B := r.flatMap fun w => 32 :: w
def glue : List B → B
  | [] => []
  | w :: r => w ++ tails r
theorem tails_cons {w : B} {r : List B} : tails (w :: r) = 32 :: w ++ tails r := by simp [tails]
theorem tails_app {a b : List B} : tails (a ++ b) = tails a ++ tails b := by simp [tails]
theorem glue_app {a b : List B} (h : a ≠ []) : glue (a ++ b) = glue a ++ tails b := by
  match a, h with
  | w :: r, _ => simp [glue, tails_app]
theorem join_eq (ws : List B) : Lib.join ws [32] = glue ws := by
  unfold Lib.join List.intercalate
  match ws with
  | [] => rfl
  | w :: r =>
    have : ∀ (r : List B) (w : B), (List.intersperse [32] (w :: r)).flatten = w ++ tails r := by
      intro r
      induction r with
      | nil => intro w; simp [tails]
      | cons v r ih =>
        intro w
        rw [List.intersperse_cons_cons, List.flatten_cons, List.flatten_cons, ih v, tails_cons]
        simp
    exact this r w
theorem tails_len {r : List B} (h : ∀ w ∈ r, w.length ≤ 1000) : (tails r).length ≤ 1001 * r.length := by
  induction r with
  | nil => simp [tails]
  | cons w r ih =>
    have := ih (fun x hx => h x (by simp [hx]))
    have hw := h w (by simp)
    rw [tails_cons]
    simp
    omega
theorem glue_len {ws : List B} (h : ∀ w ∈ ws, w.length ≤ 1000) : (glue ws).length ≤ 1001 * ws.length := by
  match ws, h with
  | [], _ => simp [glue]
  | w :: r, h =>
    have := tails_len (r := r) (fun x hx => h x (by simp [hx]))
    have hw := h w (by simp)
    simp [glue]
    omega
theorem word_Join_eq {ws : List B} (h : ∀ w ∈ ws, w.length ≤ 1000) (hl : ws.length ≤ 100000) : word_Join (ws, ()) = some (glue ws, ()) := by
  have hlen := glue_len h
  have hf : sig_Join.f (ws, [32], ()) = some (glue ws, ()) := by
    show (bif decide (ws.length ≤ LIM ∧ (Lib.join ws [32]).length ≤ 140737488355328) then some (Lib.join ws [32], ()) else none) = _
    rw [join_eq, decide_eq_true ⟨by rw [LIM_val]; omega, by omega⟩]
    rfl
  unfold word_Join
  exact bnd hf rfl
theorem rjoin_loop {ws : List B} (h : ∀ w ∈ ws, w.length ≤ 1000) (hl : ws.length ≤ 100000) (rest : List B) : ∀ pre : List B, ws = pre ++ rest →
    iterW (haulierref06_Join_L29 (ws, ())) ((glue pre, (pre.length : Int), ()), ()) = some (glue ws, ()) := by
  induction rest with
  | nil =>
    intro pre hp
    have hd := dec_ltl pre ([] : List B)
    rw [← hp] at hd
    rw [iterW_done (r := (glue pre, ()))]
    · simp [hp]
    · simp only [haulierref06_Join_L29, hd]
      rfl
  | cons c r ih =>
    intro pre hp
    have hd := dec_ltl pre (c :: r)
    have hg := geti_mid pre c r
    rw [← hp] at hd hg
    have hlen : ws.length = pre.length + (r.length + 1) := by rw [hp]; simp
    have hgl := glue_len (ws := pre) (fun w hw => h w (by rw [hp]; simp [hw]))
    have hc := h c (by rw [hp]; simp)
    rw [iterW_next (s' := ((glue (pre ++ [c]), ((pre ++ [c]).length : Int), ()), ())), ih (pre ++ [c]) (by rw [hp]; simp)]
    simp only [haulierref06_Join_L29, hd, hg, Option.bind_some]
    rw [w64_succ (by omega)]
    by_cases hp0 : pre = []
    · subst hp0
      simp only [List.length_nil]
      refine jn (a := (([], ()), ())) rfl ?_
      simp only [List.length_nil]
      rw [chk_true (by simp; rw [LIM_val]; omega)]
      simp [glue, tails]
    · have hpl : pre.length ≠ 0 := by simpa using hp0
      have h0 : decide ((pre.length : Int) > 0) = true := by simp; omega
      refine jn (a := ((glue pre ++ [32], ()), ())) ?_ ?_
      · rw [h0, cond_true, chk_true (by simp; rw [LIM_val]; omega)]
      · simp only []
        rw [chk_true (by simp; rw [LIM_val]; omega), glue_app hp0]
        simp [tails]
theorem ref_Join_eq {ws : List B} (h : ∀ w ∈ ws, w.length ≤ 1000) (hl : ws.length ≤ 100000) : haulierref06_Join (ws, ()) = some (glue ws, ()) :=
  rjoin_loop h hl ws [] rfl
end Go.Rai
